/-
  The engine, part C: a new block joins the family of its type.
-/
import Derived.Test.YtdphkaiijlekhaaEg23
namespace Go.Eng
open Go Go.RowKit

mutual
theorem subVK_eq (k i n : Nat) (s : SV) (K : SV → Prop) : subVK k i n s K = K (subV k i n s) := by
  match s with
  | .ptr j off =>
    simp only [subVK, subV]
    split <;> rfl
  | .agg l => simp only [subVK, subV]; exact subLK_eq k i n l _
  | .tup l => simp only [subVK, subV]; exact subLK_eq k i n l _
  | .fn f l => simp only [subVK, subV]; exact subLK_eq k i n l _
  | .d _ => simp only [subVK, subV]
  | .aptr _ _ _ _ => simp only [subVK, subV]
  | .dptr _ _ => simp only [subVK, subV]
  | .all _ => simp only [subVK, subV]
  | .row _ _ _ => simp only [subVK, subV]
  | .cs _ _ _ _ => simp only [subVK, subV]
  | .rptr _ _ _ _ => simp only [subVK, subV]
  | .map _ => simp only [subVK, subV]
  | .ap _ _ _ => simp only [subVK, subV]
  | .np _ _ => simp only [subVK, subV]
  | .yl _ => simp only [subVK, subV]
  | .v _ => simp only [subVK, subV]
  | .any => simp only [subVK, subV]
theorem subLK_eq (k i n : Nat) (l : List SV) (K : List SV → Prop) : subLK k i n l K = K (subL k i n l) := by
  match l with
  | [] => simp only [subLK, subL]
  | a :: l => simp only [subLK, subL]; rw [subVK_eq, subLK_eq]
end
def subB (k i n : Nat) (l : List KB) : List KB := l.map (subK k i n)
theorem subBK_eq (k i n : Nat) (l : List KB) (K : List KB → Prop) : subBK k i n l K = K (subB k i n l) := by
  induction l generalizing K with
  | nil => rfl
  | cons b l ih => cases b <;> simp [subBK, subB, subK, subLK_eq] <;> (rw [ih]; rfl)
theorem subL_get (k i n : Nat) (l : List SV) (j : Nat) : (subL k i n l)[j]? = (l[j]?).map (subV k i n) := by
  induction l generalizing j with
  | nil => simp [subL]
  | cons a l ih => cases j <;> simp [subL, ih]
theorem subL_length (k i n : Nat) (l : List SV) : (subL k i n l).length = l.length := by
  induction l with
  | nil => rfl
  | cons a l ih => simp [subL, ih]

section
variable {X : Nat → Prop} {w : World} {M : Nat → Prop} {β : Env} {fp : Nat → Nat → Prop} {ks : List KB} {ts : List SV}

theorem Den.sub {k i : Nat} {L Li : Loc} (hk : β k = some L) (hi : β i = some Li) {s : SV} {v : Value} (h : Den w M β s v) : Den w M β (subV k i (L.b + 1) s) v := by
  induction h with
  | ptr j off L' hL' =>
    simp only [subV]
    split
    · rename_i hj
      cases beq_of hj
      obtain rfl : L' = L := Option.some.inj (hL'.symm.trans hk)
      exact .ap i _ off Li hi
    · exact .ptr j off L' hL'
  | agg l vs h1 _ h3 ih =>
    simp only [subV]
    refine .agg _ vs (by rw [subL_length]; exact h1) (fun j s u a b => ?_) h3
    rw [subL_get] at a
    cases hl : l[j]? with
    | none => rw [hl] at a; cases a
    | some s0 => rw [hl] at a; cases a; exact ih j s0 u hl b
  | tup l vs h1 _ ih =>
    simp only [subV]
    refine .tup _ vs (by rw [subL_length]; exact h1) (fun j s u a b => ?_)
    rw [subL_get] at a
    cases hl : l[j]? with
    | none => rw [hl] at a; cases a
    | some s0 => rw [hl] at a; cases a; exact ih j s0 u hl b
  | fn f l vs h1 _ ih =>
    simp only [subV]
    refine .fn f _ vs (by rw [subL_length]; exact h1) (fun j s u a b => ?_)
    rw [subL_get] at a
    cases hl : l[j]? with
    | none => rw [hl] at a; cases a
    | some s0 => rw [hl] at a; cases a; exact ih j s0 u hl b
  | d h => exact .d h
  | aptr i off len ix L h1 h2 h3 => exact .aptr i off len ix L h1 h2 h3
  | dptr cells off ad u h1 h2 h3 h4 => exact .dptr cells off ad u h1 h2 h3 h4
  | allNil i L h1 h2 => exact .allNil i L h1 h2
  | all i L h1 h2 => exact .all i L h1 h2
  | rowNil i L h1 h2 => exact .rowNil i L h1 h2
  | row i lo n off L h1 h2 h3 h4 => exact .row i lo n off L h1 h2 h3 h4
  | cs i off n c L h h1 => exact .cs i off n c L h h1
  | rptr i j off sz L h h1 => exact .rptr i j off sz L h h1
  | map i L h => exact .map i L h
  | ap i n off L h => exact .ap i n off L h
  | npNil i => exact .npNil i
  | np i n L h => exact .np i n L h
  | yl i L h => exact .yl i L h
  | v x => exact .v x
  | any x => exact .any x

theorem KBat.sub {k i : Nat} {L Li : Loc} (hk : β k = some L) (hi : β i = some Li) {L' : Loc} {f : Nat → Prop} {b : KB} (h : KBat w M β L' f b) : KBat w M β L' f (subK k i (L.b + 1) b) := by
  cases h with
  | cells t l vs h0 h1 h3 h4 h5 =>
    refine .cells t _ vs h0 h1 (by rw [subL_length]; exact h3) (fun j s u a b => ?_) h5
    rw [subL_get] at a
    cases hl : l[j]? with
    | none => rw [hl] at a; cases a
    | some s0 => rw [hl] at a; cases a; exact (h4 j s0 u hl b).sub hk hi
  | loop l ps asg body st r h0 h1 h2 h3 h4 h5 h6 h7 =>
    refine .loop _ ps asg body st r h0 h1 (by rw [subL_length]; exact h2) (fun j s u a b => ?_) h4 h5 h6 h7
    rw [subL_get] at a
    cases hl : l[j]? with
    | none => rw [hl] at a; cases a
    | some s0 => rw [hl] at a; cases a; exact (h3 j s0 u hl b).sub hk hi
  | rowNil e sz z f h0 h1 h2 h3 h4 => exact .rowNil e sz z f h0 h1 h2 h3 h4
  | row e sz n z f vs fz h0 h1 h2 hn h3 h4 h5 h6 h7 h8 h9 h10 => exact .row e sz n z f vs fz h0 h1 h2 hn h3 h4 h5 h6 h7 h8 h9 h10
  | map eks ka ea l es clock h0 h1 h2 h3 => exact .map eks ka ea l es clock h0 h1 h2 h3
  | arena t dom cols h0 h1 h2 => exact .arena t dom cols h0 h1 h2
  | obj φ h1 h2 => exact .obj φ h1 h2

def fpJoin (k i b : Nat) (fp : Nat → Nat → Prop) : Nat → Nat → Prop := fun j x => if j = k then False else if j = i then x = b ∨ fp i x else fp j x

theorem Mem.join (h : Mem X w β fp ks) {k i : Nat} {L : Loc} {t : TypeId} {l : List SV} {dom : Nat → Prop} {cols cols' : List Col} (hk : ks[k]? = some (.cells t l)) (hi : ks[i]? = some (.arena t dom cols)) (hL : β k = some L) (hlen : l.length = cols.length)
    (hput : putCK cols 0 (L.b + 1) (subL k i (L.b + 1) l) (fun c => c = cols')) :
    ¬ dom (L.b + 1) ∧ Went X w β fp w β (fpJoin k i L.b fp) (subB k i (L.b + 1) ((ks.set k .gone).set i (.arena t (fun m => m = L.b + 1 ∨ dom m) cols'))) := by
  obtain ⟨Li, hLi⟩ := h.ka i t dom cols hi
  have hki : k ≠ i := fun e => by subst e; rw [hk] at hi; cases hi
  have hbk := h.at hk (by simp) hL
  have hbi := h.at hi (by simp) hLi
  have hil : i < ks.length := (List.getElem?_eq_some_iff.1 hi).1
  have hkl : k < ks.length := (List.getElem?_eq_some_iff.1 hk).1
  cases hbk with
  | cells _ _ vs f0 f1 f3 f4 f5 =>
  cases hbi with
  | arena _ _ _ g0 g1 g2 =>
  have hnd : ¬ dom (L.b + 1) := fun e => hki (h.dis k i L.b ((f0 _).2 rfl) ((g0 _).2 e))
  refine ⟨hnd, ?_⟩
  obtain ⟨cN, hcN, p1, p2⟩ := putCK_spec hput
  rw [hcN] at p1 p2
  have hfp : ∀ j x, fpJoin k i L.b fp j x → ∃ j', fp j' x := fun j x hx => by
    unfold fpJoin at hx
    split at hx
    · exact hx.elim
    · split at hx
      · rcases hx with rfl | hx
        · exact ⟨k, (f0 _).2 rfl⟩
        · exact ⟨i, hx⟩
      · exact ⟨j, hx⟩
  have hM : ∀ b, Mx X (fpJoin k i L.b fp) b → Mx X fp b := fun b hm => hm.imp id (fun ⟨j, hj⟩ => hfp j b hj)
  have hget : ∀ (j : Nat) (b : KB), (subB k i (L.b + 1) ((ks.set k .gone).set i (.arena t (fun m => m = L.b + 1 ∨ dom m) cols')))[j]? = some b → (j = k ∧ b = .gone) ∨ (j = i ∧ b = .arena t (fun m => m = L.b + 1 ∨ dom m) cols') ∨ (j ≠ k ∧ j ≠ i ∧ ∃ b0, ks[j]? = some b0 ∧ b = subK k i (L.b + 1) b0) := fun j b hb => by
    unfold subB at hb
    rw [List.getElem?_map, List.getElem?_set, List.getElem?_set] at hb
    by_cases e1 : i = j
    · subst e1
      rw [if_pos rfl, if_pos (by simpa using hil)] at hb
      simp [subK] at hb
      exact .inr (.inl ⟨rfl, hb.symm⟩)
    · rw [if_neg e1] at hb
      by_cases e2 : k = j
      · subst e2
        rw [if_pos rfl, if_pos hkl] at hb
        simp [subK] at hb
        exact .inl ⟨rfl, hb.symm⟩
      · rw [if_neg e2, Option.map_eq_some_iff] at hb
        obtain ⟨b0, h1, h2⟩ := hb
        exact .inr (.inr ⟨Ne.symm e2, Ne.symm e1, b0, h1, h2.symm⟩)
  refine h.go (Step.refl _ _) (Ext.refl _) (fun j b hb => .inl (hfp j b hb)) (fun p q b hp hq => ?_) (fun j b hb => by obtain ⟨j', hj'⟩ := hfp j b hb; exact h.kw j' b hj') (fun j hj => h.kl j (by simpa [subB] using hj)) (fun j t' dom' c' hj => ?_) (fun j b hb => ?_) (fun j L' b hb hne hL' => ?_)
  · unfold fpJoin at hp hq
    by_cases p1 : p = k
    · rw [if_pos p1] at hp; exact hp.elim
    by_cases q1 : q = k
    · rw [if_pos q1] at hq; exact hq.elim
    rw [if_neg p1] at hp
    rw [if_neg q1] at hq
    have key : ∀ j, j ≠ k → j ≠ i → fp j b → b = L.b → False := fun j e1 _ hj eb => e1 (h.dis j k b hj ((f0 _).2 eb))
    by_cases p2 : p = i <;> by_cases q2 : q = i
    · omega
    · rw [if_pos p2] at hp
      rw [if_neg q2] at hq
      rcases hp with hp | hp
      · exact (key q q1 q2 hq hp).elim
      · exact absurd (h.dis q i b hq hp) q2
    · rw [if_neg p2] at hp
      rw [if_pos q2] at hq
      rcases hq with hq | hq
      · exact (key p p1 p2 hp hq).elim
      · exact absurd (h.dis p i b hp hq) p2
    · rw [if_neg p2] at hp
      rw [if_neg q2] at hq
      exact h.dis p q b hp hq
  · rcases hget j _ hj with ⟨_, e⟩ | ⟨rfl, _⟩ | ⟨_, _, b0, h1, h2⟩
    · cases e
    · exact ⟨Li, hLi⟩
    · cases b0 <;> simp [subK] at h2
      exact h.ka j _ _ _ h1
  · unfold fpJoin at hb
    split at hb
    · exact hb.elim
    · split at hb
      · rename_i e; subst e; exact ⟨Li, hLi⟩
      · exact h.kn j b hb
  · rcases hget j b hb with ⟨_, e⟩ | ⟨rfl, rfl⟩ | ⟨e1, e2, b0, h1, rfl⟩
    · exact absurd e hne
    · refine .inr ?_
      have hfi : ∀ x, fpJoin k j L.b fp j x ↔ (x = L.b ∨ fp j x) := fun x => by
        unfold fpJoin
        rw [if_neg (Ne.symm hki), if_pos rfl]
      refine .arena t _ _ (fun x => ?_) (fun e => ?_) (fun x hx => ?_)
      · rw [hfi, g0]
        simp
      · rcases e with e | e
        · omega
        · exact g1 e
      · rcases hx with hx | hx
        · have : x = L.b := by omega
          subst this
          refine ⟨vs, f1, by omega, fun q c u hc hu => ?_, f5⟩
          have hq : q < cols.length := by rw [← p1]; exact (List.getElem?_eq_some_iff.1 hc).1
          obtain ⟨c', e1, e2, e3⟩ := p2 q _ (List.getElem?_eq_getElem hq)
          rw [hc] at e1
          cases e1
          rcases e3 with ⟨_, _, v, hv, hden⟩ | ⟨e3, _⟩
          · rw [Nat.sub_zero, subL_get] at hv
            cases hl : l[q]? with
            | none => rw [hl] at hv; cases hv
            | some s0 =>
              rw [hl] at hv
              cases hv
              exact (hden _ _ _ _ ((f4 q s0 u hl hu).sub hL hLi)).mono (Step.refl _ _) (fun b _ e => hM b e) (Ext.refl _)
          · rw [subL_length] at e3
            omega
        · have hxn : x + 1 ≠ L.b + 1 := fun e => hnd (e ▸ hx)
          obtain ⟨vs', a1, a2, a3, a4⟩ := g2 x hx
          refine ⟨vs', a1, by omega, fun q c u hc hu => ?_, a4⟩
          have hq : q < cols.length := by rw [← p1]; exact (List.getElem?_eq_some_iff.1 hc).1
          obtain ⟨c', e1, e2, e3⟩ := p2 q _ (List.getElem?_eq_getElem hq)
          rw [hc] at e1
          cases e1
          rw [e2 _ hxn]
          exact (a3 q _ u (List.getElem?_eq_getElem hq) hu).mono (Step.refl _ _) (fun b _ e => hM b e) (Ext.refl _)
    · refine .inr ?_
      have hf : fpJoin k i L.b fp j = fp j := by
        funext x
        unfold fpJoin
        rw [if_neg e1, if_neg e2]
      rw [hf]
      have hne0 : b0 ≠ .gone := fun e => by subst e; exact hne rfl
      exact ((h.kb j L' b0 h1 hne0 hL').sub hL hLi).mono (Step.refl _ _) (fun b _ e => hM b e) (Ext.refl _) (fun _ _ => rfl)

theorem arenaOf_spec {t : TypeId} {l : List KB} {i0 i : Nat} (h : arenaOf t l i0 = some i) : ∃ j dom cols, i = i0 + j ∧ l[j]? = some (.arena t dom cols) := by
  induction l generalizing i0 with
  | nil => cases h
  | cons b l ih =>
    have next : arenaOf t l (i0 + 1) = some i → ∃ j dom cols, i = i0 + j ∧ (b :: l)[j]? = some (.arena t dom cols) := fun h => by
      obtain ⟨j, dom, cols, e, hj⟩ := ih h
      exact ⟨j + 1, dom, cols, by omega, by simpa using hj⟩
    cases b with
    | arena t' dom cols =>
      simp only [arenaOf] at h
      split at h
      · rename_i ht
        cases beq_of ht
        cases h
        exact ⟨0, dom, cols, rfl, rfl⟩
      · exact next h
    | _ => exact next h
theorem absAt_spec {l : List SV} {k i : Nat} (h : absAt ks l = some (k, i)) : ∃ (j off : Nat), l[j]? = some (SV.ptr k off) := by
  induction l with
  | nil => cases h
  | cons s l ih =>
    have next : absAt ks l = some (k, i) → ∃ (j off : Nat), (s :: l)[j]? = some (SV.ptr k off) := fun h => by
      obtain ⟨j, off, hj⟩ := ih h
      exact ⟨j + 1, off, by simpa using hj⟩
    cases s with
    | ptr k' off =>
      simp only [absAt] at h
      split at h
      · split at h
        · cases h; exact ⟨0, off, rfl⟩
        · exact next h
      · exact next h
    | _ => exact next h

theorem putCK_one {cols : List Col} {off n : Nat} {vs : List SV} {K : List Col → Prop} (h : putCK cols off n vs K) : ∃ c, putCK cols off n vs (fun x => x = c) ∧ K c :=
  (Ex.putC (l := cols) (off := off) (n := n) (vs := vs) (G := fun c K => K c) (fun c => Ex.self c)) K h

/-- The state goes on, one block having joined its family. -/
theorem absK_sound {B : Bs} {a : Act} {k i : Nat} {K : List SV → List KB → Prop} (hS : Sat B w β fp ts ks a) (hf : absF ts ks = some (k, i)) (h : absK ts ks k i K) : ∃ ts' ks' fp', K ts' ks' ∧ Sat B w β fp' ts' ks' a := by
  unfold absF at hf
  split at hf
  · obtain ⟨j, off, hj⟩ := absAt_spec hf
    have hjl : j < a.tmps.size := by rw [hS.len]; exact (List.getElem?_eq_some_iff.1 hj).1
    have hd := hS.tm j _ _ hj (Array.getElem?_eq_getElem hjl)
    have hL : ∃ L, β k = some L := by
      generalize a.tmps[j] = v at hd
      cases hd with
      | ptr _ _ L hL => exact ⟨L, hL⟩
    obtain ⟨L, hL⟩ := hL
    unfold absK at h
    rw [getBK_eq] at h
    split at h
    · rename_i t l hgk
      rw [getBK_eq] at h
      split at h
      · rename_i t' dom cols hgi
        split at h
        · rename_i hb
          rw [Bool.and_eq_true, lenL_eq, lenC_eq] at hb
          have h1 := beq_of hb.1
          have h2 := beq_of hb.2
          subst h2
          have hk := getB_some hgk (by simp)
          have hi := getB_some hgi (by simp)
          have hnd : ¬ dom (L.b + 1) := by
            obtain ⟨Li, hLi⟩ := hS.went.mem.ka i _ _ _ hi
            have hbk := hS.went.mem.at hk (by simp) hL
            have hbi := hS.went.mem.at hi (by simp) hLi
            cases hbk with
            | cells _ _ vs f0 =>
            cases hbi with
            | arena _ _ _ g0 =>
            intro e
            have := hS.went.mem.dis k i L.b ((f0 _).2 rfl) ((g0 _).2 e)
            subst this
            rw [hk] at hi
            cases hi
          have h := h (L.b + 1) (by omega) hnd
          rw [subLK_eq] at h
          obtain ⟨cols', hput, h⟩ := putCK_one h
          rw [setBK_eq, setBK_eq, subBK_eq, subLK_eq] at h
          obtain ⟨Li, hLi⟩ := hS.went.mem.ka i _ _ _ hi
          obtain ⟨_, hW⟩ := hS.went.mem.join hk hi hL h1 hput
          have hS' := hS.on hW
          refine ⟨_, _, _, h, hS'.went, hS'.df, by rw [subL_length]; exact hS'.len, fun t s v hs hv => ?_⟩
          rw [subL_get] at hs
          cases hl : ts[t]? with
          | none => rw [hl] at hs; cases hs
          | some s0 => rw [hl] at hs; cases hs; exact (hS'.tm t s0 v hl hv).sub hL hLi
        · exact h.elim
      · exact h.elim
    · exact h.elim
  · cases hf

end
end Go.Eng
