/-
  The engine, part 23: results; how a function is left; `run` is sound.
-/
import Derived.RangeFuncLeaves
import Derived.Test.YtdphkaiijlekhaaEg22
namespace Go.Eng
open Go Go.RowKit

section
variable {P : Program} {TT : Nat → Option TI} {IN : Nat → Option Inl} {B : Bs} {w : World} {β : Env} {fp : Nat → Nat → Prop} {ts : List SV} {ks : List KB} {a : Act}

theorem resK_spec (hTT : TTok P TT) (hS : Sat B w β fp ts ks a) : ∀ (rs : List ResultVar) (c : List SV → Prop), resK TT ts ks rs c → ∃ (ss : List SV) (vs : List Value), c ss ∧ ss.length = vs.length ∧ vs.length = rs.length ∧
    (∀ (j : Nat) (s : SV) (u : Value), ss[j]? = some s → vs[j]? = some u → Den w (Mx B.X fp) β s u) ∧
    (rs.mapM fun (r : ResultVar) => (match r with
      | .tmp t => pure (a.tmps.getD t undef)
      | .cell b t => do loadVar t (← asAddr (a.tmps.getD b undef)) : Sem Value)).run P w = .ok vs w := by
  have slot : ∀ t : Nat, Den w (Mx B.X fp) β (getT ts t) (a.tmps.getD t undef) := fun t => by
    have := hS.val (.tmp t)
    simpa only [Go.Eng.val, Act.eval] using this
  intro rs
  induction rs with
  | nil => intro c h; exact ⟨[], [], h, rfl, rfl, by simp, by simp⟩
  | cons r rs ih =>
    intro c h
    cases r with
    | tmp t =>
      simp only [resK, getTK_eq] at h
      obtain ⟨ss, vs, hc, h1, h2, h3, h4⟩ := ih _ h
      refine ⟨getT ts t :: ss, a.tmps.getD t undef :: vs, hc, by simp [h1], by simp [h2], fun j s u hs hu => ?_, by
        simp only [List.mapM_cons, Sem.run_bind, Sem.run_pure, Result.andThen_ok, h4]⟩
      cases j with
      | zero => simp only [List.getElem?_cons_zero, Option.some.injEq] at hs hu; rw [← hs, ← hu]; exact slot t
      | succ j => exact h3 j s u (by simpa using hs) (by simpa using hu)
    | cell t ty =>
      simp only [resK] at h
      split at h
      · exact h.elim
      · rename_i size bytes agg zero desc eqk hty
        rw [getTK_eq] at h
        have hv := slot t
        split at h
        · rename_i i off hx
          rw [hx] at hv
          have ev : ∃ L, β i = some L ∧ a.tmps.getD t undef = .pointer (some ⟨L.b, off, none⟩) := by
            generalize a.tmps.getD t undef = av at hv
            cases hv with
            | ptr _ _ L hL => exact ⟨L, hL, rfl⟩
          obtain ⟨L, hL, ev⟩ := ev
          rw [getBK_eq] at h
          split at h
          · rename_i t' l hg
            have hk := hS.went.mem.at (getB_some hg (by simp)) (by simp) hL
            cases hk with
            | cells _ _ vs hfp hb hl hd h1 =>
              obtain ⟨r0, v0, hK, hr, hd'⟩ := load_cells (w := w) (M := Mx B.X fp) (β := β) hTT hty ⟨L.b, 0, none⟩ l off vs.toList (by simpa using hl) (fun j s u hs hu => hd j s u hs (by simpa using hu)) (fun u hu => by
                  obtain ⟨j, hj, rfl⟩ := List.mem_iff_getElem.1 hu
                  exact h1 j _ (by simp)) (fun j u hu => by
                  rw [add_lit0]
                  simpa [World.cell?, hb] using hu) h
              rw [add_lit0, Nat.zero_add] at hr
              obtain ⟨ss, us, hc, e1, e2, e3, e4⟩ := ih _ hK
              refine ⟨r0 :: ss, v0 :: us, hc, by simp [e1], by simp [e2], fun j s u hs hu => ?_, ?_⟩
              · cases j with
                | zero => simp only [List.getElem?_cons_zero, Option.some.injEq] at hs hu; rw [← hs, ← hu]; exact hd'
                | succ j => exact e3 j s u (by simpa using hs) (by simpa using hu)
              · have ha : (asAddr (a.tmps.getD t undef)).run P w = .ok ⟨L.b, off, none⟩ w := by rw [ev]; rfl
                simp only [List.mapM_cons, Sem.run_bind, ha, Sem.run_pure, Result.andThen_ok, hr, e4]
          · exact h.elim
        · exact h.elim

/-- What the results come to. -/
theorem results_spec (hTT : TTok P TT) {fn : Func} (hS : Sat B w β fp ts ks a) {c : List SV → Prop} (h : resK TT ts ks fn.results.toList c) : ∃ (ss : List SV) (us : List Value) (v : Value), c ss ∧ ss.length = us.length ∧ (∀ (j : Nat) (s : SV) (u : Value), ss[j]? = some s → us[j]? = some u → Den w (Mx B.X fp) β s u) ∧
    (results fn a.tmps).run P w = .ok v w ∧ v = (if hh : us.toArray.size = 1 then us.toArray[0] else .tuple us.toArray) ∧ Den w (Mx B.X fp) β (retV ss) v := by
  obtain ⟨ss, us, hc, e1, e2, e3, e4⟩ := resK_spec (P := P) hTT hS _ _ h
  refine ⟨ss, us, _, hc, e1, e3, ?_, rfl, ?_⟩
  · have e4' : (fn.results.mapM fun (r : ResultVar) => (match r with
        | .tmp t => pure (a.tmps.getD t undef)
        | .cell b t => do loadVar t (← asAddr (a.tmps.getD b undef)) : Sem Value)).run P w = .ok us.toArray w := by
      rw [Array.mapM_eq_mapM_toList]
      simp only [Sem.run_map, e4, Result.andThen_ok]
    unfold results
    simp only [Sem.run_bind]
    exact (congrArg (fun r => Result.andThen r _) e4').trans rfl
  · unfold retV
    split
    · rename_i s
      have hu1 : us.length = 1 := by rw [← e1]; rfl
      match us, hu1, e3 with
      | [u], _, e3 => exact e3 0 s u rfl rfl
    · rename_i l hne
      have hu1 : ¬ us.toArray.size = 1 := fun e => by
        have : ss.length = 1 := by rw [e1]; simpa using e
        match ss, this with
        | [s], _ => exact hne s rfl
      rw [dif_neg hu1]
      exact .tup ss us e1 e3

/-- A block that no one reads is written anew. -/
theorem Went.other {X : Nat → Prop} {w0 : World} {β0 : Env} {fp0 : Nat → Nat → Prop} (h : Went X w0 β0 fp0 w β fp ks) {r : Nat} {ob o : Obj} (hr : w.heap[r]? = some ob) (hob : ∀ c e f, ob ≠ .cells c e f) (h0 : w0.heap.size ≤ r) (hM : ¬ Mx X fp r) :
    Went X w0 β0 fp0 (World.setBlock w r o) β fp ks ∧ Keep (Mx X fp) w (World.setBlock w r o) := by
  have hk : Keep (Mx X fp) w (World.setBlock w r o) := ⟨by simp [World.setBlock], fun p u _ hp => by
    have hne : p.block ≠ r := fun e => by
      unfold World.cell? at hp
      rw [e, hr] at hp
      split at hp
      · rename_i c e f heq
        cases heq
        exact hob _ _ _ rfl
      · cases hp
    have := setBlock_other w r p.block o hne
    unfold World.cell? at hp ⊢
    rw [this]
    exact hp⟩
  have hm := h.mem
  refine ⟨⟨⟨⟨fun b hb => by simpa [World.setBlock] using hm.xa b hb, hm.xb, hm.dis, fun i b hb => by simpa [World.setBlock] using hm.kw i b hb, hm.kn, fun i L k hki hne hL => ?_⟩, hm.kl, hm.ka⟩, ⟨h.st.os, h.st.tape, h.st.output, by simpa [World.setBlock] using h.st.size, fun b hb hn => ?_⟩, h.ext, h.own⟩, hk⟩
  · exact (hm.kb i L k hki hne hL).keep hk (fun _ _ e => e) (Ext.refl _) (fun b hb => setBlock_other w r b o (fun e => hM (.inr ⟨i, e ▸ hb⟩)))
  · rw [setBlock_other w r b o (by omega)]
    exact h.st.block b hb hn

/-- The marks are taken. -/
theorem leave_marks {F : Fence} {n : Nat} {fn : Func} {R : Ending → World → Prop} (hfin : ∀ w', Sat B w' β fp ts ks { a with defers := [] } → ∃ v, (results fn a.tmps).run P w' = .ok v w' ∧ R (.returned v) w') :
    ∀ (ds : List Deferred) (w : World), Sat B w β fp ts ks { a with defers := ds } → LeavesInM F n P fn a.tmps R ds .returning w := by
  intro ds
  induction ds with
  | nil => intro w hS; exact hfin w hS
  | cons d ds ih =>
    intro w hS
    obtain ⟨r, hd, h0, hr, hM⟩ := hS.df.marks d (by simp)
    obtain ⟨hW, hk⟩ := hS.went.other (o := .deferred none) hr (fun _ _ _ e => by cases e) h0 hM
    refine ⟨by simp, .inl ⟨r, World.setBlock w r (.deferred none), hd, ?_, ih _ ⟨hW, ⟨fun d' hd' => ?_, (List.pairwise_cons.1 hS.df.un).2⟩, hS.len, fun t s v hs hv => (hS.tm t s v hs hv).keep hk (fun _ _ e => e) (Ext.refl _)⟩⟩⟩
    · have hg : (getObj r).run P w = .ok (.deferred (some [])) w := by simp [getObj, Sem.run, hr]
      have hs : (setObj r (.deferred none)).run P w = .ok () (World.setBlock w r (.deferred none)) := by simp [setObj, Sem.run, hr, World.setBlock]
      simp [Instr.takeDeferred, hg, hs]
    · obtain ⟨r', e1, e2, e3, e4⟩ := hS.df.marks d' (by simp [hd'])
      have hne := (List.pairwise_cons.1 hS.df.un).1 d' hd' r r' hd e1
      exact ⟨r', e1, e2, by rw [setBlock_other w r r' _ (Ne.symm hne)]; exact e3, e4⟩

/-- What is asked of the code ahead of what is still to be done. -/
def E (P : Program) (rd : Option Nat) (n : Nat) (SJ : (List SV → List KB → Prop) → Act → World → Prop) (Q : Exit → Act → World → Prop) : List It → Exit → Act → World → Prop
  | [], e, a, w => Q e a w
  | .code c :: r, .normal, a, w => c.wpIn (wideF rd) n P (E P rd n SJ Q r) a w
  | .code _ :: r, e, a, w => E P rd n SJ Q r e a w
  | .ops _ _ all os :: r, .normal, a, w => wpOpsIn (wideF rd) n P all.toArray (E P rd n SJ Q r) (List.range' (all.length - os.length) os.length) a w
  | .ops _ _ _ _ :: r, e, a, w => E P rd n SJ Q r e a w
  | .blk id :: r, .exit id', a, w => if id' = id then E P rd n SJ Q r .normal a w else E P rd n SJ Q r (.exit id') a w
  | .blk _ :: r, e, a, w => E P rd n SJ Q r e a w
  | .lp J :: _, .normal, a, w => SJ J a w
  | .lp _ :: r, e, a, w => E P rd n SJ Q r e a w
  | .again c :: r, .normal, a, w => Again (wideF rd) n P c (E P rd n SJ Q r) a w
  | .again _ :: r, e, a, w => E P rd n SJ Q r e a w

/-- Regions under way are such as keep to the text, and what is left of them is their end. -/
def okStk : List It → Prop
  | [] => True
  | .ops d _ all os :: r => d = false ∧ (∃ i, all.drop i = os) ∧ okStk r
  | _ :: r => okStk r

variable {rd : Option Nat} {n : Nat} {Q : Exit → Act → World → Prop} {SJ : (List SV → List KB → Prop) → Act → World → Prop}

theorem E_ret (r : List It) (a : Act) (w : World) (h : Q .ret a w) : E P rd n SJ Q r .ret a w := by
  induction r with
  | nil => exact h
  | cons x r ih => cases x <;> exact ih
theorem E_exit (id : Nat) (r : List It) (a : Act) (w : World) : (∀ r', popTo id r = some r' → E P rd n SJ Q r' .normal a w) → (popTo id r = none → Q (.exit id) a w) → E P rd n SJ Q r (.exit id) a w := by
  induction r with
  | nil => intro _ h; exact h rfl
  | cons x r ih =>
    intro h1 h2
    cases x with
    | blk i =>
      simp only [E]
      simp only [popTo] at h1 h2
      by_cases he : id = i
      · subst he
        rw [if_pos rfl]
        rw [show Nat.beq id id = true from Nat.beq_refl id] at h1
        exact h1 r rfl
      · rw [if_neg he]
        have hb : Nat.beq i id = false := by
          cases hq : Nat.beq i id with
          | false => rfl
          | true => exact absurd (beq_of hq).symm he
        rw [hb] at h1 h2
        exact ih h1 h2
    | code c => exact ih h1 h2
    | ops x y => exact ih h1 h2
    | lp J => exact ih h1 h2
    | again c => exact ih h1 h2

theorem popTo_ok {id : Nat} {r r' : List It} (h : popTo id r = some r') (hr : okStk r) : okStk r' := by
  induction r with
  | nil => cases h
  | cons x r ih =>
    cases x with
    | blk i =>
      simp only [popTo] at h
      split at h
      · cases h; exact hr
      · exact ih h hr
    | code c => exact ih h hr
    | ops x y => exact ih h hr.2.2
    | lp J => exact ih h hr
    | again c => exact ih h hr

theorem headK_eq (body : Code) (ts : List SV) (ks : List KB) (u : List (Nat × SV)) (k : List (Nat × KB)) : ∃ ts' ks', ∀ c', headK body ts ks u k c' = c' ts' ks' := by
  have h1 : ∀ (l : List Nat) (ts : List SV), ∃ ts', ∀ c, havocK l ts c = c ts' := by
    intro l
    induction l with
    | nil => intro ts; exact ⟨ts, fun _ => rfl⟩
    | cons t l ih => intro ts; obtain ⟨ts', h⟩ := ih (setT ts t .any); exact ⟨ts', fun c => by simp only [havocK, setK_eq]; exact h c⟩
  have h2 : ∀ (l : List (Nat × SV)) (ts : List SV), ∃ ts', ∀ c, updsK l ts c = c ts' := by
    intro l
    induction l with
    | nil => intro ts; exact ⟨ts, fun _ => rfl⟩
    | cons p l ih => obtain ⟨t, v⟩ := p; intro ts; obtain ⟨ts', h⟩ := ih (setT ts t v); exact ⟨ts', fun c => by simp only [updsK, setK_eq]; exact h c⟩
  have h3 : ∀ (l : List (Nat × KB)) (ks : List KB), ∃ ks', ∀ c, updsBK l ks c = c ks' := by
    intro l
    induction l with
    | nil => intro ks; exact ⟨ks, fun _ => rfl⟩
    | cons p l ih => obtain ⟨t, v⟩ := p; intro ks; obtain ⟨ks', h⟩ := ih (ks.set t v); exact ⟨ks', fun c => by simp only [updsBK, setBK_eq]; exact h c⟩
  obtain ⟨t1, e1⟩ := h1 (writes body) ts
  obtain ⟨t2, e2⟩ := h2 u t1
  obtain ⟨k2, e3⟩ := h3 k ks
  exact ⟨t2, k2, fun c' => by unfold headK; rw [e1, e2, e3]⟩

theorem rd_tf {M : Nat → Prop} {x : DV} {v : Value} (h : Den w M β (.d x) v) : v = (match x with | .tt => .bool true | .ff => .bool false | .bool b => .bool b | _ => v) := by
  cases den_data h <;> rfl

/-- The functions that are entered where they are called are as they stand in the program. -/
def INok (P : Program) (IN : Nat → Option Inl) : Prop := ∀ f i, IN f = some i → ∃ fn : Func, P.funcs[f]? = some fn ∧ fn.body = some i.body ∧ fn.results.toList = i.results ∧ fn.ntmps = i.nargs + i.extra ∧ ∀ (args : Array Value) (w : World), (callFunc f args).run P w = .ok (.enter f args) w

theorem anys_get (n j : Nat) (s : SV) (h : (anys n)[j]? = some s) : s = .any := by
  induction n generalizing j with
  | zero => simp [anys] at h
  | succ n ih => cases j with
    | zero => simp [anys] at h; exact h.symm
    | succ j => exact ih j (by simpa [anys] using h)
theorem anys_length (n : Nat) : (anys n).length = n := by
  induction n with
  | zero => rfl
  | succ n ih => simp [anys, ih]

/-- A function is entered: what is known. -/
theorem enter_sat {X : Nat → Prop} (hM : Mem X w β fp ks) {as : List SV} {vs : List Value} (hl : as.length = vs.length) (hd : ∀ (j : Nat) (s : SV) (u : Value), as[j]? = some s → vs[j]? = some u → Den w (Mx X fp) β s u) {k m : Nat} (hm : m = as.length + k) :
    Sat ⟨X, w, β, fp⟩ w β fp (as ++ anys k) ks { tmps := vs.toArray ++ Array.replicate (m - vs.toArray.size) undef, defers := [] } := by
  refine ⟨Went.refl hM, Dfs.nil _ _ _, by simp [anys_length]; omega, fun t s v hs hv => ?_⟩
  by_cases ht : t < as.length
  · rw [List.getElem?_append_left ht] at hs
    have hv' : vs[t]? = some v := by
      rw [Array.getElem?_append_left (by simp; omega)] at hv
      simpa using hv
    exact hd t s v hs hv'
  · rw [List.getElem?_append_right (by omega)] at hs
    rw [anys_get _ _ _ hs]
    exact .any _

end
end Go.Eng
