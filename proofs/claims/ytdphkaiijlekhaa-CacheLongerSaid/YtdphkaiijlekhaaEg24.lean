/-
  The engine, part 24: `run` is sound; contracts out of it.
-/
import Derived.Test.YtdphkaiijlekhaaEgC
namespace Go.Eng
open Go Go.RowKit

section
variable {P : Program} {X : Nat → Prop} {w : World} {β : Env} {fp : Nat → Nat → Prop} {ks : List KB}

/-- The record of a range over a function goes on. -/
theorem Mem.turn (h : Mem X w β fp ks) {i : Nat} {L : Loc} {l : List SV} {ps : List Tmp} {asg body : Code} {st : RS} {r r' : Loop} (hi : ks[i]? = some (.loop l ps asg body st)) (hL : β i = some L) (hr : w.heap[L.b]? = some (.loop r))
    (e1 : r'.tmps = r.tmps) (e2 : r'.params = r.params) (e3 : r'.assign = r.assign) (e4 : r'.body = r.body) {k' : KB} (hk' : k' = .gone ∨ ∃ st', k' = .loop l ps asg body st' ∧ RSok r' st') :
    Went X w β fp (World.setBlock w L.b (.loop r')) β fp (ks.set i k') := by
  have hb := h.kb i L _ hi (by simp) hL
  cases hb with
  | loop _ _ _ _ _ r0 h0 h1 h2 h3 h4 h5 h6 h7 =>
    rw [hr] at h1
    cases h1
    have hst : Step (fun b => ∃ i, fp i b) w (World.setBlock w L.b (.loop r')) := Step.setBlock w ⟨i, (h0 _).2 rfl⟩ _
    refine h.go hst (Ext.refl _) (fun j b hb => .inl ⟨j, hb⟩) h.dis (fun j b hb => by simpa [World.setBlock] using h.kw j b hb) (fun j hj => h.kl j (by simpa using hj)) (h.ka_set hL k') h.kn (fun j L' k hk hne hL' => ?_)
    rw [List.getElem?_set] at hk
    split at hk
    · rename_i e
      subst e
      split at hk
      · cases hk
        rw [hL] at hL'
        cases hL'
        rcases hk' with rfl | ⟨st', rfl, hok⟩
        · exact absurd rfl hne
        · exact .inr (.loop l ps asg body st' r' h0 (setBlock_same w L.b _ (lt_of_block hr)) (by rw [e1]; exact h2) (fun j s u hs hu => by
            rw [e1] at hu
            exact (h3 j s u hs hu).mono (hst.mono (fun _ _ e => .inr e)) (fun _ _ e => e) (Ext.refl _)) (by rw [e2]; exact h4) (by rw [e3]; exact h5) (by rw [e4]; exact h6) hok)
      · cases hk
    · rename_i hji
      exact .inl ⟨hk, hL', rfl, fun b hb => setBlock_other w L.b b _ (fun e => hji (h.dis i j b ((h0 _).2 e) hb))⟩

theorem getLoop_run {r : Loop} {l : Nat} (h : w.heap[l]? = some (.loop r)) : (Instr.getLoop l).run P w = .ok r w := by
  have : (getObj l).run P w = .ok (.loop r) w := by simp [getObj, Sem.run, h]
  simp [Instr.getLoop, this]
theorem setLoop_run {r : Loop} {l : Nat} (h : w.heap[l]? = some (.loop r)) (o : Obj) : (setObj l o).run P w = .ok () (World.setBlock w l o) := by
  simp [setObj, Sem.run, h, World.setBlock]
theorem beginRound_run {r : Loop} {l : Nat} (h : w.heap[l]? = some (.loop r)) (hs : r.state = .ready) : (Instr.beginRound l).run P w = .ok () (World.setBlock w l (.loop { r with state := .busy })) := by
  simp [Instr.beginRound, getLoop_run h, setLoop_run h, hs]
theorem endRound_run {r : Loop} {l : Nat} (h : w.heap[l]? = some (.loop r)) (j : Option Code) : (Instr.endRound l j).run P w = .ok (.bool j.isNone) (World.setBlock w l (.loop { r with state := if j.isNone then .ready else .done, pending := j })) := by
  simp [Instr.endRound, getLoop_run h, setLoop_run h]
theorem endLoop_run {r : Loop} {l : Nat} (h : w.heap[l]? = some (.loop r)) (hs : r.state ≠ .busy) : (Instr.endLoop l).run P w = .ok r.pending (World.setBlock w l (.loop { r with state := .exhausted })) := by
  simp [Instr.endLoop, getLoop_run h, setLoop_run h, hs]
end

section
variable {P : Program} {TT : Nat → Option TI} {IN : Nat → Option Inl}

/-- In which round the code is. -/
def RdOk (q rd : Option Nat) (β : Env) : Prop :=
  match q with
  | none => rd = none
  | some q => ∃ L, β q = some L ∧ rd = some L.b

/-- What `run` comes to, at so much fuel. -/
def Sound (P : Program) (TT : Nat → Option TI) (IN : Nat → Option Inl) (m : Nat) : Prop :=
  ∀ (B : Bs) (nb : Nb) (rd : Option Nat) (n : Nat) (Q : Exit → Act → World → Prop) (K : Exit → List SV → List KB → Prop), (∀ i, nb.n ≤ i → B.β0 i = none) → RdOk nb.rd rd B.β0 →
    (∀ e ts ks a w β fp, K e ts ks → Sat B w β fp ts ks a → Q e a w) →
    ∀ (stk : List It) (ts : List SV) (ks : List KB) (a : Act) (w : World) (β : Env) (fp : Nat → Nat → Prop), run P TT IN m nb stk ts ks K → okStk stk → Sat B w β fp ts ks a →
      E P rd n (fun J a w => ∃ ts ks β fp, J ts ks ∧ Sat B w β fp ts ks a) Q stk .normal a w

theorem setsK_spec {R : SV → Value → Prop} : ∀ (ps : List Tmp) (l as : List SV) (T : Array Value) (vs : List Value) (k : List SV → Prop), setsK l ps as k → as.length = vs.length → l.length = T.size →
    (∀ (j : Nat) (s : SV) (u : Value), l[j]? = some s → T[j]? = some u → R s u) → (∀ (j : Nat) (s : SV) (u : Value), as[j]? = some s → vs[j]? = some u → R s u) →
    ∃ l', k l' ∧ ps.length = vs.length ∧ l'.length = ((ps.zip vs).foldl (fun t x => t.setIfInBounds x.1 x.2) T).size ∧ ∀ (j : Nat) (s : SV) (u : Value), l'[j]? = some s → ((ps.zip vs).foldl (fun t x => t.setIfInBounds x.1 x.2) T)[j]? = some u → R s u
  | [], l, [], T, [], k, h, _, h2, h3, _ => ⟨l, h, rfl, h2, h3⟩
  | t :: ps, l, a :: as, T, v :: vs, k, h, h1, h2, h3, h4 => by
    simp only [setsK, setK_eq, setT_eq] at h
    obtain ⟨l', a1, a2, a3, a4⟩ := setsK_spec ps (l.set t a) as (T.setIfInBounds t v) vs k h (by simpa using h1) (by simpa using h2) (fun j s u hs hu => by
      rw [List.getElem?_set] at hs
      rw [Array.getElem?_setIfInBounds] at hu
      split at hs
      · rename_i e
        rw [if_pos e] at hu
        split at hs
        · split at hu
          · cases hs; cases hu; exact h4 0 a v rfl rfl
          · cases hu
        · cases hs
      · rename_i e
        rw [if_neg e] at hu
        exact h3 j s u hs hu) (fun j s u hs hu => h4 (j + 1) s u (by simpa using hs) (by simpa using hu))
    exact ⟨l', a1, by simp [a2], a3, a4⟩

theorem yield_sound {m : Nat} (IH : Sound P TT IN m) {X : Nat → Prop} {w : World} {β : Env} {fp : Nat → Nat → Prop} {ts : List SV} {ks : List KB} {a : Act} {rd : Option Nat} {n : Nat} {Q : Exit → Act → World → Prop} {o : Oper} {K : SV → List KB → Prop} {next : Act → World → Prop}
    {g : Operand} {args : Array Operand} {tys : Array TypeId} {i : Nat} (ho : o.op = .call ⟨.value g, args, tys⟩) (hv : Den w (Mx X fp) β (.yl i) (a.eval g)) (h : yieldK (run P TT IN m) i (vals ts args.toList) ks K) (hM : Mem X w β fp ks) (hT : ∀ x, Den w (Mx X fp) β (val ts x) (a.eval x))
    (done : ∀ (s : SV) (k1 : List KB) (v : Value) (w' : World) (β' : Env) (fp' : Nat → Nat → Prop), K s k1 → Went X w β fp w' β' fp' k1 → Den w' (Mx X fp') β' s v → next (a.put o.dst v) w') : o.wpIn (wideF rd) n P a w next Q := by
  obtain ⟨L, hL, ev⟩ : ∃ L, β i = some L ∧ a.eval g = .func (.yield L.b) #[] #[] := by
    generalize a.eval g = av at hv
    cases hv with
    | yl _ L hL => exact ⟨L, hL, rfl⟩
  unfold yieldK at h
  rw [getBK_eq] at h
  split at h
  · rename_i tc ps asg body st hg
    split at h
    · have hki := getB_some hg (by simp)
      have hb := hM.at hki (by simp) hL
      cases hb with
      | loop _ _ _ _ _ r h0 h1 h2 h3 h4 h5 h6 h7 =>
        obtain ⟨al, ad⟩ := args_den (a := a) hT args.toList [] [] rfl (fun j s u hs => by simp at hs)
        simp only [List.append_nil] at al ad
        obtain ⟨t1, h, p1, p2, p3⟩ := setsK_spec (R := Den w (Mx X fp) β) ps tc _ r.tmps _ _ h al h2 h3 ad
        rw [lenBK_eq, Nat.zero_add] at h
        refine ⟨fun _ _ => trivial, ?_⟩
        rw [Oper.semAt_eq _ _ _ (by rw [ho]; simp)]
        have hrun : (execOp a.eval o).run P w = .ok (.round L.b r.fn ((ps.zip (args.toList.map a.eval)).foldl (fun t x => t.setIfInBounds x.1 x.2) r.tmps) asg body) w := by
          have hsz : ¬ (#[] ++ args.map a.eval).size ≠ r.params.size := by
            have : r.params.size = ps.length := by rw [← h4]; simp
            rw [this, p1]; simp
          have hf : (r.params.zip (#[] ++ args.map a.eval)).foldl (fun tmps x => match x with | (t, a) => tmps.setIfInBounds t a) r.tmps = (ps.zip (args.toList.map a.eval)).foldl (fun t x => t.setIfInBounds x.1 x.2) r.tmps := by
            rw [← h4, ← Array.foldl_toList]
            simp
          simp only [execOp, ho, resolve, ev, Deferred.ofValue, Sem.run_bind, Sem.run_pure, Result.andThen_ok, invoke, Instr.yield, getLoop_run h1, hsz, if_false]
          rw [hf, h5, h6]
        rw [hrun, Oper.uponIn_round]
        refine ⟨fun hsm => by simp [wideF, Fence.wide] at hsm, roundIn_of_wpIn trivial ?_⟩
        have hS0 : Sat ⟨X, w, β, fp⟩ w β fp t1 ks { tmps := (ps.zip (args.toList.map a.eval)).foldl (fun t x => t.setIfInBounds x.1 x.2) r.tmps, defers := [] } := ⟨Went.refl hM, Dfs.nil _ _ _, p2.symm, p3⟩
        have := IH ⟨X, w, β, fp⟩ ⟨ks.length, some i⟩ (some L.b) (n - 1) (Exit.then (fun a₁ w₁ => ∃ w₂, (Instr.beginRound L.b).run P w₁ = .ok () w₂ ∧ body.wpIn (wideF (some L.b)) (n - 1) P (roundPost P L.b fun
            | .returned v, w'' => next (a.put o.dst v) w''
            | .panicked chain, w'' => Q (.panic chain) a w''
            | .outgrown, _ => LetsOut Q) a₁ w₂) (fun _ _ _ => False)) _ hM.kl ⟨L, hL, rfl⟩ (fun e t2 k2 a2 w2 β2 fp2 hK hS2 => by
          cases e with
          | normal =>
            have hK : getBK k2 i _ := hK
            rw [getBK_eq] at hK
            split at hK
            · rename_i tc' ps' asg' body' st' hg2
              split at hK
              · rw [setBK_eq] at hK
                have hki2 := getB_some hg2 (by simp)
                have hL2 := hS2.went.ext i L hL
                have hb2 := hS2.went.mem.at hki2 (by simp) hL2
                cases hb2 with
                | loop _ _ _ _ _ r2 g0 g1 g2 g3 g4 g5 g6 g7 =>
                  have hW := hS2.went.mem.turn (r' := { r2 with state := .busy }) hki2 hL2 g1 rfl rfl rfl rfl (.inr ⟨.busy, rfl, rfl⟩)
                  refine ⟨_, beginRound_run g1 g7.1, ?_⟩
                  have := IH ⟨X, w, β, fp⟩ ⟨ks.length, some i⟩ (some L.b) (n - 1) (roundPost P L.b fun
                    | .returned v, w'' => next (a.put o.dst v) w''
                    | .panicked chain, w'' => Q (.panic chain) a w''
                    | .outgrown, _ => LetsOut Q) _ hM.kl ⟨L, hL, rfl⟩ (fun e t4 k4 a4 w4 β4 fp4 hK hS4 => by
                    have fin : ∀ (j : Option Code) (st : RS) (s : SV), (∀ r : Loop, RSok { r with state := if j.isNone then .ready else .done, pending := j } st) → (∀ w M β, Den w M β s (.bool j.isNone)) → toK k4 i st (fun k5 => K s k5) → ∃ v w', (Instr.endRound L.b j).run P w4 = .ok v w' ∧ next (a.put o.dst v) w' := fun j st s hst hs hK => by
                      unfold toK at hK
                      rw [getBK_eq] at hK
                      split at hK
                      · rename_i tc5 ps5 asg5 body5 st5 hg4
                        rw [setBK_eq] at hK
                        have hki4 := getB_some hg4 (by simp)
                        have hL4 := hS4.went.ext i L hL
                        have hb4 := hS4.went.mem.at hki4 (by simp) hL4
                        cases hb4 with
                        | loop _ _ _ _ _ r4 q0 q1 q2 q3 q4 q5 q6 q7 =>
                          have hW5 := hS4.went.mem.turn (r' := { r4 with state := if j.isNone then .ready else .done, pending := j }) hki4 hL4 q1 rfl rfl rfl rfl (.inr ⟨st, rfl, hst r4⟩)
                          exact ⟨_, _, endRound_run q1 j, done _ _ _ _ _ _ hK (hS4.went.trans hW5) (hs _ _ _)⟩
                      · exact hK.elim
                    cases e with
                    | normal => exact fin none .ready (.d .tt) (fun r => ⟨rfl, rfl⟩) (fun _ _ _ => .d .tt) hK
                    | ret => exact fin (some .ret) (.done .ret) (.d .ff) (fun r => ⟨rfl, rfl⟩) (fun _ _ _ => .d .ff) hK
                    | exit id => exact fin (some (.exit id)) (.done (.exit id)) (.d .ff) (fun r => ⟨rfl, rfl⟩) (fun _ _ _ => .d .ff) hK
                    | _ => exact hK.elim) [.code body] _ _ _ _ _ _ hK trivial (hS2.on hW)
                  exact wpIn_mono this (fun e a' w' he => he)
              all_goals exact hK.elim
            · exact hK.elim
          | _ => exact hK.elim) [.code asg] _ _ _ _ _ _ h trivial hS0
        exact wpIn_mono this (fun e a' w' he => he)
    all_goals exact h.elim
  · exact h.elim

theorem Sat.lay {B : Bs} {w : World} {β : Env} {fp : Nat → Nat → Prop} {ts : List SV} {ks : List KB} {a : Act} (hS : Sat B w β fp ts ks a) (r : Loop) (h1 : r.tmps = a.tmps) (h2 : r.state = .ready) (h3 : r.pending = none) :
    Went B.X w β fp (w.alloc (.loop r)) (upd β ks.length (some (locB w.heap.size))) (updP fp ks.length (· = w.heap.size)) (ks ++ [.loop ts r.params.toList r.assign r.body .ready]) := by
  have hM := hS.went.mem
  have hn := hM.kl ks.length (Nat.le_refl _)
  exact hM.alloc _ (locB w.heap.size) _ rfl (.loop ts _ _ _ .ready r (fun x => Iff.rfl) (by show (w.heap.push _)[w.heap.size]? = _; simp) (by rw [h1]; exact hS.len.symm) (fun j s u hs hu => (hS.tm j s u hs (by rw [← h1]; exact hu)).mono (Step.alloc _ w _) (alloc_M hM _) (ext_upd _ hn)) rfl rfl rfl ⟨h2, h3⟩)

theorem Sat.mark {B : Bs} {w : World} {β : Env} {fp : Nat → Nat → Prop} {ts : List SV} {ks : List KB} {a : Act} (hS : Sat B w β fp ts ks a) :
    Sat B (w.alloc (.deferred (some []))) β fp ts ks { a with defers := { target := .collected w.heap.size, args := #[] } :: a.defers } := by
  have hM := hS.went.mem
  have hS' := hS.on (hM.quiet (Step.alloc _ w (.deferred (some []))))
  refine ⟨hS'.went, ⟨fun d hd => ?_, List.pairwise_cons.2 ⟨fun d hd r r' e1 e2 => ?_, hS'.df.un⟩⟩, hS'.len, hS'.tm⟩
  · rcases List.mem_cons.1 hd with rfl | hd
    · refine ⟨w.heap.size, rfl, hS.went.st.size, by show (w.heap.push _)[w.heap.size]? = _; simp, ?_⟩
      rintro (hx | ⟨i, hi⟩)
      · have := hM.xa _ hx; omega
      · have := hM.kw i _ hi; omega
    · exact hS'.df.marks d hd
  · cases e1
    obtain ⟨q, e3, _, e4, _⟩ := hS.df.marks d hd
    rw [e2] at e3
    cases e3
    have := (Array.getElem?_eq_some_iff.1 e4).1
    omega

theorem newObj_run (w : World) (o : Obj) : (newObj o).run P w = .ok w.heap.size (w.alloc o) := by
  simp [newObj, Sem.run]
/-- The record of a range over a function is laid. -/
theorem enter_loop {B : Bs} {w : World} {β : Env} {fp : Nat → Nat → Prop} {ts : List SV} {ks : List KB} {a : Act} {nb : Nb} {rd : Option Nat} (hS : Sat B w β fp ts ks a) (hrd : RdOk nb.rd rd B.β0) {K : Prop} (h : inRdK nb ks K) (fn : FuncId) (ps : Array Tmp) (asg body : Code) :
    K ∧ ∃ (l : Nat) (mark : List Deferred) (w1 : World) (L : Loc) (fp1 : Nat → Nat → Prop), (Instr.enterLoop fn a.tmps ps asg body rd).run P w = .ok (l, mark) w1 ∧ L.b = l ∧
      Went B.X w β fp w1 (upd β ks.length (some L)) fp1 (ks ++ [.loop ts ps.toList asg body .ready]) ∧ Sat B w1 (upd β ks.length (some L)) fp1 ts (ks ++ [.loop ts ps.toList asg body .ready]) { a with defers := mark ++ a.defers } := by
  unfold inRdK at h
  split at h
  · rename_i hq
    rw [hq] at hrd
    cases hrd
    have hm := hS.mark
    have hW := hm.lay { state := .ready, pending := none, fn := fn, tmps := a.tmps, params := ps, assign := asg, body := body, defers := w.heap.size } rfl rfl rfl
    have hQ := hS.went.mem.quiet (Step.alloc _ w (.deferred (some [])))
    refine ⟨h, (w.alloc (.deferred (some []))).heap.size, [{ target := .collected w.heap.size, args := #[] }], _, locB (w.alloc (.deferred (some []))).heap.size, _, ?_, rfl, hQ.trans hW, hm.on hW⟩
    simp only [Instr.enterLoop, Sem.run_bind, newObj_run, Result.andThen_ok, Sem.run_pure]
  · rename_i q hq
    rw [hq] at hrd
    obtain ⟨L, hL, rfl⟩ := hrd
    rw [getBK_eq] at h
    split at h
    · rename_i t1 p1 a1 b1 s1 hg
      have hb := hS.went.mem.at (getB_some hg (by simp)) (by simp) (hS.went.ext q L hL)
      cases hb with
      | loop _ _ _ _ _ r h0 h1 h2 h3 h4 h5 h6 h7 =>
        have hW := hS.lay { state := .ready, pending := none, fn := fn, tmps := a.tmps, params := ps, assign := asg, body := body, defers := r.defers } rfl rfl rfl
        refine ⟨h, w.heap.size, [], _, locB w.heap.size, _, ?_, rfl, hW, hS.on hW⟩
        simp only [Instr.enterLoop, Sem.run_bind, getLoop_run h1, newObj_run, Result.andThen_ok, Sem.run_pure]
    · exact h.elim

theorem execS_sound (hTT : TTok P TT) (hIN : INok P IN) {m : Nat} (IH : Sound P TT IN m) {B : Bs} {w : World} {β : Env} {fp : Nat → Nat → Prop} {ts : List SV} {ks : List KB} {a : Act} {rd : Option Nat} {n : Nat} {Q : Exit → Act → World → Prop} {o : Oper} {K : List SV → List KB → Prop} {next : Act → World → Prop}
    (h : execS P TT IN (run P TT IN m) o ts ks K) (hS : Sat B w β fp ts ks a) (hn : ∀ ts' ks' a' w' β' fp', K ts' ks' → Sat B w' β' fp' ts' ks' a' → next a' w') : o.wpIn (wideF rd) n P a w next Q := by
  have hM := hS.went.mem
  have hT := hS.val
  have done : ∀ (s : SV) (k1 : List KB) (v : Value) (w' : World) (β' : Env) (fp' : Nat → Nat → Prop), K (putT o.dst s ts) k1 → Went B.X w β fp w' β' fp' k1 → Den w' (Mx B.X fp') β' s v → next (a.put o.dst v) w' := fun s k1 v w' β' fp' hk hW hd =>
    hn _ _ _ _ _ _ hk ((hS.on hW).put _ hd)
  unfold execS at h
  split at h
  · rename_i g args tys ho
    rw [valK_eq] at h
    have hv := hT g
    split at h
    · rename_i f caps hg
      rw [hg] at hv
      rw [valsK_eq, appK_eq] at h
      obtain ⟨vs, ev, hl, hd⟩ := fn_value hv
      split at h
      · rename_i nargs extra results body hin
        split at h
        · rename_i hbeq
          rw [lenL_eq] at hbeq
          have hbeq := beq_of hbeq
          rw [appK_eq, lenBK_eq, Nat.zero_add] at h
          obtain ⟨fn, hfn, hbody, hres, hnt, hent⟩ := hIN f _ hin
          simp only at hbody hres hnt
          obtain ⟨al, ad⟩ := args_den (a := a) hT args.toList caps vs hl hd
          refine call_wp ho ev hent (R := fun e w' => ∃ v, e = .returned v ∧ next (a.put o.dst v) w') ?_ (fun e w' he => he)
          refine (callsIn_wide (n := 0)).1 (callsIn_of_wp_marks hfn hbody trivial ?_ rfl)
          have hS0 := enter_sat hM al ad (k := extra) (m := fn.ntmps) (by omega)
          have := IH ⟨B.X, w, β, fp⟩ ⟨ks.length, none⟩ none 0 (bodyPostM (wideF none) 0 P fn (fun e w' => ∃ v, e = .returned v ∧ next (a.put o.dst v) w')) _ hM.kl rfl (fun e ts2 ks2 a2 w2 β2 fp2 hK hS2 => by
            have fin : resK TT ts2 ks2 results (fun vs => putDst o.dst (retV vs) ts (fun ts' => K ts' ks2)) → LeavesInM (wideF none) 0 P fn a2.tmps (fun e w' => ∃ v, e = .returned v ∧ next (a.put o.dst v) w') a2.defers .returning w2 := fun hK => by
              refine leave_marks (a := a2) (fun w3 hS3 => ?_) a2.defers w2 hS2
              rw [← hres] at hK
              obtain ⟨ss, us, v, hc, e1, e3, hrun, _, hden⟩ := results_spec (P := P) hTT hS3 hK
              rw [putDst_eq] at hc
              exact ⟨v, hrun, v, rfl, done _ _ _ _ _ _ hc hS3.went hden⟩
            cases e with
            | normal => exact fin hK
            | ret => exact fin hK
            | _ => exact hK.elim) [.code body] _ _ _ _ _ _ h trivial hS0
          exact wpIn_mono this (fun e a' w' he => he)
        · exact h.elim
      · refine seqStop_sound hTT ho ev hl hd h hM hT (fun s k1 v w' β' fp' hk hW hden => ?_)
        rw [putDst_eq] at hk
        exact done _ _ _ _ _ _ hk hW hden
    · rename_i i hg
      rw [hg] at hv
      rw [valsK_eq] at h
      refine yield_sound IH ho hv h hM hT (fun s k1 v w' β' fp' hk hW hden => ?_)
      rw [putDst_eq] at hk
      exact done _ _ _ _ _ _ hk hW hden
    · exact h.elim
  · split at h
    · refine mev_sound hTT h hM hT (fun s k1 v w' β' fp' hk hW hden => ?_)
      rw [putDst_eq] at hk
      exact done _ _ _ _ _ _ hk hW hden
    · obtain ⟨s, v, hk, hrun, hd⟩ := pev_sound hTT h hT hM.kb' hM.apart
      rw [putDst_eq] at hk
      exact wpIn_of_run (nodefer_pev h) hrun (done _ _ _ _ _ _ hk (Went.refl hM) hd)

theorem ops_head {all os : List Oper} {o : Oper} (h : ∃ i, all.drop i = o :: os) : all.toArray[all.length - (o :: os).length]? = some o ∧ all.length - (o :: os).length + 1 = all.length - os.length ∧ ∃ i, all.drop i = os := by
  obtain ⟨i, hd⟩ := h
  have hlt : i < all.length := by
    rcases Nat.lt_or_ge i all.length with h | h
    · exact h
    · rw [List.drop_eq_nil_of_le h] at hd; cases hd
  have hl : (o :: os).length = all.length - i := by rw [← hd]; simp
  rw [List.drop_eq_getElem_cons hlt] at hd
  obtain ⟨h1, h2⟩ := List.cons.inj hd
  have hi : all.length - (o :: os).length = i := by omega
  rw [hi]
  refine ⟨by simp [hlt, h1], by simp at hl; omega, i + 1, h2⟩

theorem run_sound (hTT : TTok P TT) (hIN : INok P IN) (hmix : P.follows .mixedOrders = true) : ∀ m, Sound P TT IN m := by
  intro m
  induction m using Nat.strongRecOn with
  | _ m ih =>
  intro B nb rd n Q K hnb hrd hQ stk ts ks a w β fp h hok hS
  cases m with
  | zero => exact h.elim
  | succ m =>
    rw [run_succ] at h
    have IH := fun stk ts ks a w β fp h hok hS => ih m (by omega) B nb rd n Q K hnb hrd hQ stk ts ks a w β fp h hok hS
    unfold stepF at h
    split at h
    · exact hQ _ _ _ _ _ _ _ h hS
    · rename_i id r
      exact IH r _ _ _ _ _ _ h hok hS
    · exact ⟨_, _, _, _, h, hS⟩
    · cases hok.1
    · rename_i hs all os r
      obtain ⟨_, hdrop, hok'⟩ := hok
      cases os with
      | nil =>
        simp only at h
        show wpOpsIn _ _ _ _ _ (List.range' _ 0) _ _
        simpa [wpOpsIn] using IH _ _ _ _ _ _ _ h hok' hS
      | cons o os =>
        simp only at h
        obtain ⟨hi, hi1, hdrop'⟩ := ops_head hdrop
        show wpOpsIn _ _ _ _ _ (List.range' (all.length - (o :: os).length) (o :: os).length) _ _
        rw [List.length_cons, List.range'_succ, wpOpsIn_cons]
        rw [List.length_cons] at hi hi1
        have okr : okStk (.ops false hs all os :: r) := ⟨rfl, hdrop', hok'⟩
        have rest : ∀ ts' ks' a' w' β' fp', run P TT IN m nb (.ops false hs all os :: r) ts' ks' K → Sat B w' β' fp' ts' ks' a' → wpOpsIn (wideF rd) n P all.toArray (E P rd n (fun J a w => ∃ ts ks β fp, J ts ks ∧ Sat B w β fp ts ks a) Q r) (List.range' (all.length - (os.length + 1) + 1) os.length) a' w' := fun ts' ks' a' w' β' fp' hr hS' => by
          rw [hi1]
          exact IH _ _ _ _ _ _ _ hr okr hS'
        have doit : ∀ (g : guardOk all ts o = some true), execS P TT IN (run P TT IN m) o ts ks (fun ts' ks' => run P TT IN m nb (.ops false hs all os :: r) ts' ks' K) → wpOpIn (wideF rd) n P all.toArray (E P rd n (fun J a w => ∃ ts ks β fp, J ts ks ∧ Sat B w β fp ts ks a) Q r) (all.length - (os.length + 1)) (wpOpsIn (wideF rd) n P all.toArray (E P rd n (fun J a w => ∃ ts ks β fp, J ts ks ∧ Sat B w β fp ts ks a) Q r) (List.range' (all.length - (os.length + 1) + 1) os.length)) a w := fun hg h => by
          unfold wpOpIn
          have hw := wanted_of (all := all) hS.slot hg
          simp only [hi, hw, if_true]
          exact execS_sound hTT hIN (ih m (by omega)) h hS (fun ts' ks' a' w' β' fp' hr hS' => rest ts' ks' a' w' β' fp' hr hS')
        have skip : ∀ (g : guardOk all ts o = some false), putDst o.dst skipV ts (fun ts' => run P TT IN m nb (.ops false hs all os :: r) ts' ks K) → wpOpIn (wideF rd) n P all.toArray (E P rd n (fun J a w => ∃ ts ks β fp, J ts ks ∧ Sat B w β fp ts ks a) Q r) (all.length - (os.length + 1)) (wpOpsIn (wideF rd) n P all.toArray (E P rd n (fun J a w => ∃ ts ks β fp, J ts ks ∧ Sat B w β fp ts ks a) Q r) (List.range' (all.length - (os.length + 1) + 1) os.length)) a w := fun hg h => by
          unfold wpOpIn
          have hw := wanted_of (all := all) hS.slot hg
          simp only [hi, hw, Bool.false_eq_true, if_false]
          rw [putDst_eq] at h
          exact ⟨fun _ _ => trivial, rest _ _ _ _ _ _ h (hS.put _ (.v _))⟩
        split at h
        · rename_i hg
          exact doit (by simp [guardOk, hg]) h
        · rename_i j want hg
          split at h
          · exact h.elim
          · rename_i t hd
            rw [getTK_eq] at h
            split at h
            · rename_i hv
              split at h
              · exact doit (by simp [guardOk, hg, hd, hv]) h
              · exact skip (by simp [guardOk, hg, hd, hv]) h
            · rename_i hv
              split at h
              · exact doit (by simp [guardOk, hg, hd, hv]) h
              · exact skip (by simp [guardOk, hg, hd, hv]) h
            · rename_i hv
              exact skip (by simp [guardOk, hg, hd, hv]) h
            · rename_i b hv
              have okc : okStk (.ops false hs all (o :: os) :: r) := ⟨rfl, hdrop, hok'⟩
              have fin : run P TT IN m nb (.ops false hs all (o :: os) :: r) (setT ts t (.d (if b then .tt else .ff))) ks K → wpOpIn (wideF rd) n P all.toArray (E P rd n (fun J a w => ∃ ts ks β fp, J ts ks ∧ Sat B w β fp ts ks a) Q r) (all.length - (os.length + 1)) (wpOpsIn (wideF rd) n P all.toArray (E P rd n (fun J a w => ∃ ts ks β fp, J ts ks ∧ Sat B w β fp ts ks a) Q r) (List.range' (all.length - (os.length + 1) + 1) os.length)) a w := fun h => by
                have := IH _ _ _ _ _ _ _ h okc (hS.refine_ t hv)
                have this : wpOpsIn (wideF rd) n P all.toArray (E P rd n (fun J a w => ∃ ts ks β fp, J ts ks ∧ Sat B w β fp ts ks a) Q r) (List.range' (all.length - (o :: os).length) (o :: os).length) a w := this
                rw [List.length_cons, List.range'_succ, wpOpsIn_cons] at this
                exact this
              cases b with
              | true => have := h.1 rfl; rw [setK_eq] at this; exact fin this
              | false => have := h.2 rfl; rw [setK_eq] at this; exact fin this
            · exact h.elim
    · rename_i c r
      have hok' : okStk r := hok
      show c.wpIn (wideF rd) n P (E P rd n _ Q r) a w
      split at h
      · exact wpIn_skip (IH _ _ _ _ _ _ _ h hok' hS)
      · exact wpIn_label (IH _ _ _ _ _ _ _ h hok' hS)
      · rename_i c1 c2
        refine wpIn_seq ?_
        have := IH _ _ _ _ _ _ _ h hok' hS
        refine wpIn_mono this (fun e a' w' he => ?_)
        cases e <;> exact he
      · rename_i id c1
        refine wpIn_block ?_
        have := IH _ _ _ _ _ _ _ h hok' hS
        refine wpIn_mono this (fun e a' w' he => ?_)
        cases e <;> exact he
      · rename_i id
        refine wpIn_exit (E_exit id r a w (fun r' hr' => ?_) (fun hr' => ?_))
        · rw [hr'] at h
          exact IH _ _ _ _ _ _ _ h (popTo_ok hr' hok') hS
        · rw [hr'] at h
          exact hQ _ _ _ _ _ _ _ h hS
      · exact wpIn_ret (E_ret r a w (hQ _ _ _ _ _ _ _ h hS))
      · rename_i id ops draw
        split at h
        case h_2 k i hab =>
          obtain ⟨ts', ks', fp', h, hS'⟩ := absK_sound hS hab h
          exact IH _ _ _ _ _ _ _ h hok' hS'
        split at h
        case h_2 hhd =>
          cases draw with
          | false => cases hhd
          | true =>
            obtain ⟨ts', ks', hsc, hrun⟩ := h
            exact region_sched hTT hmix hsc hS (fun a' w' β' fp' hS' => IH _ _ _ _ _ _ _ hrun hok' hS')
        cases draw with
        | false =>
          refine wpIn_region ?_
          have := IH _ _ _ _ _ _ _ h ⟨rfl, ⟨0, rfl⟩, hok'⟩ hS
          have this : wpOpsIn (wideF rd) n P ops.toList.toArray (E P rd n (fun J a w => ∃ ts ks β fp, J ts ks ∧ Sat B w β fp ts ks a) Q r) (List.range' (ops.toList.length - ops.toList.length) ops.toList.length) a w := this
          rw [Nat.sub_self] at this
          simpa [List.range_eq_range'] using this
        | true =>
          obtain ⟨n', ts', ks', hs, hn, htr, hdr, hrun⟩ := run_ops _ _ _ _ _ h
          rw [revB_eq, revB_eq, List.append_nil, List.append_nil, List.reverse_reverse] at hdr
          exact region_draw hTT hmix hdr htr hS (fun a' w' β' fp' hS' => ih n' (by omega) B nb rd n Q K hnb hrd hQ _ _ _ _ _ _ _ hrun hok' hS')
      · rename_i cnd x y
        rw [valK_eq] at h
        have hv := hS.val cnd
        split at h
        · rename_i hx; rw [hx] at hv
          exact wpIn_cond_true (rd_tf hv) (IH _ _ _ _ _ _ _ h hok' hS)
        · rename_i hx; rw [hx] at hv
          exact wpIn_cond_false (rd_tf hv) (IH _ _ _ _ _ _ _ h hok' hS)
        · rename_i b hx; rw [hx] at hv
          cases b with
          | true => exact wpIn_cond_true (rd_tf hv) (IH _ _ _ _ _ _ _ (h.1 rfl) hok' hS)
          | false => exact wpIn_cond_false (rd_tf hv) (IH _ _ _ _ _ _ _ (h.2 rfl) hok' hS)
        · exact h.elim
      · exact wpIn_of_again (IH _ _ _ _ _ _ _ h hok' hS)
      · rename_i g ps asg body
        rw [valK_eq] at h
        have hv := hS.val g
        split at h
        · rename_i f caps hg
          rw [hg] at hv
          obtain ⟨vs, ev, hl, hd⟩ := fn_value hv
          split at h
          · rename_i nargs extra results fb hin
            split at h
            · rename_i hbeq
              rw [lenL_eq] at hbeq
              have hbeq := beq_of hbeq
              obtain ⟨fn, hfn, hbody, hres, hnt, hent⟩ := hIN f _ hin
              simp only at hbody hres hnt
              refine wpIn_rangeFunc (fun fn0 _ => ?_)
              obtain ⟨h, l, mark, w1, L, fp1, hent1, rfl, hW1, hS1⟩ := enter_loop (P := P) hS hrd h fn0 ps asg body
              rw [lenBK_eq, Nat.zero_add, appK_eq, addBK_eq] at h
              have hM1 := hS1.went.mem
              have hLi : upd β ks.length (some L) ks.length = some L := upd_same _ _ _
              refine ⟨L.b, mark, w1, { target := .fn (.func f) vs.toArray, args := #[.func (.yield L.b) #[] #[]] }, w1, f, (Value.func (.yield L.b) #[] #[] :: vs).toArray, w1, hent1, ?_, fun _ _ => trivial, ?_, fun hsm => by simp [wideF, Fence.wide] at hsm, callsIn_wideF ?_⟩
              · simp only [resolve, ev, Deferred.ofValue, Sem.run_pure]
                simp only [List.map_toArray, List.map_cons, List.map_nil, Array.empty_append, Act.eval]
              · have := hent (#[.func (.yield L.b) #[] #[]] ++ vs.toArray) w1
                simp only [invoke]
                rw [this]
                simp
              refine (callsIn_wide (n := 0)).1 (callsIn_of_wp_marks hfn hbody trivial ?_ rfl)
              have hS0 := enter_sat hM1 (as := .yl ks.length :: caps) (vs := Value.func (.yield L.b) #[] #[] :: vs) (by simp [hl]) (fun j s u hs hu => by
                cases j with
                | zero => simp at hs hu; subst hs hu; exact .yl _ L hLi
                | succ j => exact hW1.den (hd j s u (by simpa using hs) (by simpa using hu))) (k := extra) (m := fn.ntmps) (by simp; omega)
              have := ih m (by omega) ⟨B.X, w1, upd β ks.length (some L), fp1⟩ ⟨ks.length + 1, none⟩ none 0 (bodyPostM (wideF none) 0 P fn (rangePost (wideF rd) n P L.b (E P rd n (fun J a w => ∃ ts ks β fp, J ts ks ∧ Sat B w β fp ts ks a) Q r) { a with defers := mark ++ a.defers })) _ (fun q hq => hM1.kl q (by simpa using hq)) rfl (fun e ts2 ks2 a2 w2 β2 fp2 hK hS2 => by
                have fin : resK TT ts2 ks2 results (fun _ => getBK ks2 ks.length (fun b => match b with
                  | .loop _ _ _ _ st => match st with
                    | .ready => setBK ks2 ks.length .gone (fun k3 => run P TT IN m nb r ts k3 K)
                    | .done c => setBK ks2 ks.length .gone (fun k3 => run P TT IN m nb (.code c :: r) ts k3 K)
                    | _ => False
                  | _ => False)) → LeavesInM (wideF none) 0 P fn a2.tmps (rangePost (wideF rd) n P L.b (E P rd n (fun J a w => ∃ ts ks β fp, J ts ks ∧ Sat B w β fp ts ks a) Q r) { a with defers := mark ++ a.defers }) a2.defers .returning w2 := fun hK => by
                  refine leave_marks (a := a2) (fun w3 hS3 => ?_) a2.defers w2 hS2
                  rw [← hres] at hK
                  obtain ⟨ss, us, v, hc, e1, e3, hrun, _, hden⟩ := results_spec (P := P) hTT hS3 hK
                  refine ⟨v, hrun, ?_⟩
                  rw [getBK_eq] at hc
                  split at hc
                  · rename_i t5 p5 a5 b5 st5 hg5
                    have hki5 := getB_some hg5 (by simp)
                    have hL5 := hS3.went.ext ks.length L hLi
                    have hb5 := hS3.went.mem.at hki5 (by simp) hL5
                    cases hb5 with
                    | loop _ _ _ _ _ r5 q0 q1 q2 q3 q4 q5 q6 q7 =>
                      have hW5 := hS3.went.mem.turn (r' := { r5 with state := .exhausted }) (k' := .gone) hki5 hL5 q1 rfl rfl rfl rfl (.inl rfl)
                      have hS5 := (hS1.on hS3.went).on hW5
                      split at hc
                      · rw [setBK_eq] at hc
                        refine ⟨none, _, (endLoop_run q1 (by rw [q7.1]; simp)).trans (congrArg (fun p => Result.ok p _) q7.2), ?_⟩
                        exact IH _ _ _ _ _ _ _ hc hok' hS5
                      · rename_i c
                        rw [setBK_eq] at hc
                        refine ⟨some c, _, (endLoop_run q1 (by rw [q7.1]; simp)).trans (congrArg (fun p => Result.ok p _) q7.2), ?_⟩
                        exact IH (.code c :: r) _ _ _ _ _ _ hc hok' hS5
                      · exact hc.elim
                  · exact hc.elim
                cases e with
                | normal => exact fin hK
                | ret => exact fin hK
                | _ => exact hK.elim) [.code fb] _ _ _ _ _ _ h trivial hS0
              exact wpIn_mono this (fun e a' w' he => he)
            · exact h.elim
          · exact h.elim
        · exact h.elim
      · exact h.elim
    · rename_i body r
      have hok' : okStk r := hok
      show Again (wideF rd) n P body (E P rd n _ Q r) a w
      cases h with
      | once h =>
        refine again_round ?_
        have := IH _ _ _ _ _ _ _ h hok' hS
        refine wpIn_mono this (fun e a' w' he => ?_)
        cases e <;> exact he
      | nilT t e sz f sz' f' ht h =>
        rw [lenB_eq, addB_eq] at h
        have hW := hS.went.mem.nilRow e sz .iff (by simp) f
        have hS' := hS.on hW
        refine IH _ _ _ _ _ _ _ h hok' ⟨hS'.went, hS'.df, by rw [setT_eq]; simpa using hS'.len, fun u s v hs hv => ?_⟩
        rw [setT_eq, List.getElem?_set] at hs
        split at hs
        · rename_i eu
          subst eu
          split at hs
          · rename_i hlt
            cases hs
            rw [getT_eq, List.getElem?_eq_getElem hlt] at ht
            have hd := hS.tm t _ v (List.getElem?_eq_getElem hlt) hv
            simp only [Option.getD_some] at ht
            rw [ht] at hd
            cases den_data hd
            exact .allNil _ _ (upd_same _ _ _) rfl
          · cases hs
        · exact hS'.tm u s v hs hv
      | nilC i j e sz f sz' f' t l hg hj h =>
        rw [lenB_eq, addB_eq, setB_eq, setT_eq] at h
        have hki := getB_some hg (by simp)
        have hW := hS.went.mem.nilRow e sz .iff (by simp) f
        have hS' := hS.on hW
        have hil : i < ks.length := (List.getElem?_eq_some_iff.1 hki).1
        have hm := hS'.went.mem
        refine IH _ _ _ _ _ _ _ h hok' ⟨⟨⟨⟨hm.xa, hm.xb, hm.dis, hm.kw, hm.kn, fun q L k hk hne hL => ?_⟩, fun q hq => hm.kl q (by simpa using hq), fun q t' dom cols hq => ?_⟩, hS'.went.st, hS'.went.ext, hS'.went.own⟩, hS'.df, hS'.len, hS'.tm⟩
        case refine_2 =>
          refine hm.ka q t' dom cols ?_
          by_cases hql : q < ks.length
          · rw [List.getElem?_append_left (by simpa using hql), List.getElem?_set] at hq
            rw [List.getElem?_append_left hql]
            split at hq
            · cases hq
            · exact hq
          · rw [List.getElem?_append_right (by simp; omega)] at hq
            rw [List.getElem?_append_right (by omega)]
            simpa using hq
        by_cases hq : q < ks.length
        · rw [List.getElem?_append_left (by simpa using hq), List.getElem?_set] at hk
          split at hk
          · rename_i eq
            subst eq
            cases hk
            have hkb := hm.kb i L (.cells t l) (by rw [List.getElem?_append_left hil]; exact hki) (by simp) hL
            cases hkb with
            | cells _ _ vs h0 h1 h3 h4 h5 =>
              refine .cells t _ vs h0 h1 (by simpa using h3) (fun p s u hs hu => ?_) h5
              rw [List.getElem?_set] at hs
              split at hs
              · rename_i ep
                subst ep
                split at hs
                · rename_i hlt
                  cases hs
                  rw [getT_eq, List.getElem?_eq_getElem hlt] at hj
                  have hd := h4 j _ u (List.getElem?_eq_getElem hlt) hu
                  simp only [Option.getD_some] at hj
                  rw [hj] at hd
                  cases den_data hd
                  exact .allNil _ _ (upd_same _ _ _) rfl
                · cases hs
              · exact h4 p s u hs hu
          · exact hm.kb q L k (by rw [List.getElem?_append_left hq]; exact hk) hne hL
        · rw [List.getElem?_append_right (by simp; omega)] at hk
          exact hm.kb q L k (by rw [List.getElem?_append_right (by omega)]; simpa using hk) hne hL
      | inv ι ok u k μ hstart hround =>
        obtain ⟨i0, ρ0, hok0, hsub⟩ := hstart
        obtain ⟨t0, k0, e0⟩ := headK_eq body ts ks (u i0) (k i0)
        rw [e0] at hsub
        refine again_ix (fun i a w => ok i ∧ ∃ ts1 ks1 β fp, (∀ c, headK body ts ks (u i) (k i) c = c ts1 ks1) ∧ Sat B w β fp ts1 ks1 a) μ i0 ?_ ?_
        · obtain ⟨β', fp', hS'⟩ := hS.weaken hnb hsub
          exact ⟨hok0, t0, k0, β', fp', e0, hS'⟩
        · rintro i a' w' ⟨hoki, ts1, ks1, β1, fp1, e1, hS1⟩
          have hr := hround i hoki
          rw [e1] at hr
          have := IH _ _ _ _ _ _ _ hr hok' hS1
          refine wpIn_mono this (fun e a2 w2 he => ?_)
          cases e with
          | normal =>
            obtain ⟨ts2, ks2, β2, fp2, ⟨j, ρ, hokj, hlt, hsubj⟩, hS2⟩ := he
            obtain ⟨t3, k3, e3⟩ := headK_eq body ts ks (u j) (k j)
            rw [e3] at hsubj
            obtain ⟨β', fp', hS'⟩ := hS2.weaken hnb hsubj
            exact ⟨j, ⟨hokj, t3, k3, β', fp', e3, hS'⟩, hlt⟩
          | _ => exact he

end
end Go.Eng
