/-
  The engine, part D: a contract over few known blocks, used where many are known; a run that begins with a family without blocks.
-/
import Derived.Test.YtdphkaiijlekhaaEg28
namespace Go.Eng
open Go Go.RowKit

mutual
/-- Other numbers for the known blocks. -/
def mapV (σ : Nat → Nat) : SV → SV
  | .ptr i off => .ptr (σ i) off
  | .aptr i off len ix => .aptr (σ i) off len ix
  | .all i => .all (σ i)
  | .row i lo n => .row (σ i) lo n
  | .cs i off n c => .cs (σ i) off n c
  | .rptr i j off sz => .rptr (σ i) j off sz
  | .map i => .map (σ i)
  | .ap i n off => .ap (σ i) n off
  | .np i n => .np (σ i) n
  | .yl i => .yl (σ i)
  | .agg l => .agg (mapL σ l)
  | .tup l => .tup (mapL σ l)
  | .fn f l => .fn f (mapL σ l)
  | .d x => .d x
  | .dptr c off => .dptr c off
  | .v x => .v x
  | .any => .any
def mapL (σ : Nat → Nat) : List SV → List SV
  | [] => []
  | a :: l => mapV σ a :: mapL σ l
end
def mapM (σ : Nat → Nat) : List (List DV × List SV) → List (List DV × List SV)
  | [] => []
  | (k, v) :: l => (k, mapL σ v) :: mapM σ l
def mapC (σ : Nat → Nat) : Col → Col
  | .np i f => .np (σ i) f
  | c => c
def mapCs (σ : Nat → Nat) : List Col → List Col
  | [] => []
  | c :: l => mapC σ c :: mapCs σ l
def mapK (σ : Nat → Nat) : KB → KB
  | .cells t l => .cells t (mapL σ l)
  | .map eks ka ea l => .map eks ka ea (mapM σ l)
  | .arena t dom cols => .arena t dom (mapCs σ cols)
  | .loop l ps a b st => .loop (mapL σ l) ps a b st
  | .row e sz n z f => .row e sz n z f
  | .obj φ => .obj φ
  | .gone => .gone
def mapB (σ : Nat → Nat) : List KB → List KB
  | [] => []
  | b :: l => mapK σ b :: mapB σ l

theorem mapL_get (σ : Nat → Nat) (l : List SV) (j : Nat) : (mapL σ l)[j]? = (l[j]?).map (mapV σ) := by
  induction l generalizing j with
  | nil => simp [mapL]
  | cons a l ih => cases j <;> simp [mapL, ih]
theorem mapL_length (σ : Nat → Nat) (l : List SV) : (mapL σ l).length = l.length := by
  induction l with
  | nil => rfl
  | cons a l ih => simp [mapL, ih]
theorem mapM_get (σ : Nat → Nat) (l : List (List DV × List SV)) (j : Nat) : (mapM σ l)[j]? = (l[j]?).map (fun p => (p.1, mapL σ p.2)) := by
  induction l generalizing j with
  | nil => simp [mapM]
  | cons a l ih => obtain ⟨k, v⟩ := a; cases j <;> simp [mapM, ih]
theorem mapM_length (σ : Nat → Nat) (l : List (List DV × List SV)) : (mapM σ l).length = l.length := by
  induction l with
  | nil => rfl
  | cons a l ih => obtain ⟨k, v⟩ := a; simp [mapM, ih]
theorem mapCs_get (σ : Nat → Nat) (l : List Col) (j : Nat) : (mapCs σ l)[j]? = (l[j]?).map (mapC σ) := by
  induction l generalizing j with
  | nil => simp [mapCs]
  | cons a l ih => cases j <;> simp [mapCs, ih]
theorem mapCs_length (σ : Nat → Nat) (l : List Col) : (mapCs σ l).length = l.length := by
  induction l with
  | nil => rfl
  | cons a l ih => simp [mapCs, ih]
theorem mapB_get (σ : Nat → Nat) (l : List KB) (j : Nat) : (mapB σ l)[j]? = (l[j]?).map (mapK σ) := by
  induction l generalizing j with
  | nil => simp [mapB]
  | cons a l ih => cases j <;> simp [mapB, ih]
theorem mapB_length (σ : Nat → Nat) (l : List KB) : (mapB σ l).length = l.length := by
  induction l with
  | nil => rfl
  | cons a l ih => simp [mapB, ih]
theorem mapC_at (σ : Nat → Nat) (c : Col) (n : Nat) : (mapC σ c).at n = mapV σ (c.at n) := by cases c <;> rfl

section
variable {w : World} {M : Nat → Prop} {β β' : Env} {σ : Nat → Nat}

theorem Den.mapS (hσ : ∀ k L, β k = some L → β' (σ k) = some L) {s : SV} {v : Value} (h : Den w M β s v) : Den w M β' (mapV σ s) v := by
  induction h with
  | d h => exact .d h
  | ptr i off L h => exact .ptr _ off L (hσ _ _ h)
  | aptr i off len ix L h1 h2 h3 => exact .aptr _ off len ix L h1 h2 (hσ _ _ h3)
  | dptr cells off ad u h1 h2 h3 h4 => exact .dptr cells off ad u h1 h2 h3 h4
  | allNil i L h1 h2 => exact .allNil _ L (hσ _ _ h1) h2
  | all i L h1 h2 => exact .all _ L (hσ _ _ h1) h2
  | rowNil i L h1 h2 => exact .rowNil _ L (hσ _ _ h1) h2
  | row i lo n off L h1 h2 h3 h4 => exact .row _ lo n off L (hσ _ _ h1) h2 h3 h4
  | cs i off n c L h h1 => exact .cs _ off n c L (hσ _ _ h) h1
  | rptr i j off sz L h h1 => exact .rptr _ j off sz L (hσ _ _ h) h1
  | agg l vs h1 _ h3 ih =>
    refine .agg _ vs (by rw [mapL_length]; exact h1) (fun j s u a b => ?_) h3
    rw [mapL_get] at a
    cases hl : l[j]? with
    | none => rw [hl] at a; cases a
    | some s0 => rw [hl] at a; cases a; exact ih j s0 u hl b
  | tup l vs h1 _ ih =>
    refine .tup _ vs (by rw [mapL_length]; exact h1) (fun j s u a b => ?_)
    rw [mapL_get] at a
    cases hl : l[j]? with
    | none => rw [hl] at a; cases a
    | some s0 => rw [hl] at a; cases a; exact ih j s0 u hl b
  | fn f l vs h1 _ ih =>
    refine .fn f _ vs (by rw [mapL_length]; exact h1) (fun j s u a b => ?_)
    rw [mapL_get] at a
    cases hl : l[j]? with
    | none => rw [hl] at a; cases a
    | some s0 => rw [hl] at a; cases a; exact ih j s0 u hl b
  | map i L h => exact .map _ L (hσ _ _ h)
  | ap i n off L h => exact .ap _ n off L (hσ _ _ h)
  | npNil i => exact .npNil _
  | np i n L h => exact .np _ n L (hσ _ _ h)
  | yl i L h => exact .yl _ L (hσ _ _ h)
  | v x => exact .v x
  | any x => exact .any x

theorem Den.unmap (hσ : ∀ k L, β (σ k) = some L → β' k = some L) {s' : SV} {v : Value} (h : Den w M β s' v) : ∀ s, s' = mapV σ s → Den w M β' s v := by
  have lists : ∀ {l' l : List SV}, l' = mapL σ l → ∀ (j : Nat) (s : SV), l[j]? = some s → l'[j]? = some (mapV σ s) := fun {l' l} e j s hs => by rw [e, mapL_get, hs]; rfl
  induction h with
  | d h => intro s he; cases s <;> simp [mapV] at he; subst he; exact .d h
  | ptr i off L h => intro s he; cases s <;> simp [mapV] at he; obtain ⟨rfl, rfl⟩ := he; exact .ptr _ _ L (hσ _ _ h)
  | aptr i off len ix L h1 h2 h3 => intro s he; cases s <;> simp [mapV] at he; obtain ⟨rfl, rfl, rfl, rfl⟩ := he; exact .aptr _ _ _ _ L h1 h2 (hσ _ _ h3)
  | dptr cells off ad u h1 h2 h3 h4 => intro s he; cases s <;> simp [mapV] at he; obtain ⟨rfl, rfl⟩ := he; exact .dptr _ _ ad u h1 h2 h3 h4
  | allNil i L h1 h2 => intro s he; cases s <;> simp [mapV] at he; subst he; exact .allNil _ L (hσ _ _ h1) h2
  | all i L h1 h2 => intro s he; cases s <;> simp [mapV] at he; subst he; exact .all _ L (hσ _ _ h1) h2
  | rowNil i L h1 h2 => intro s he; cases s <;> simp [mapV] at he; obtain ⟨rfl, rfl, rfl⟩ := he; exact .rowNil _ L (hσ _ _ h1) h2
  | row i lo n off L h1 h2 h3 h4 => intro s he; cases s <;> simp [mapV] at he; obtain ⟨rfl, rfl, rfl⟩ := he; exact .row _ _ _ off L (hσ _ _ h1) h2 h3 h4
  | cs i off n c L h h1 => intro s he; cases s <;> simp [mapV] at he; obtain ⟨rfl, rfl, rfl, rfl⟩ := he; exact .cs _ _ _ _ L (hσ _ _ h) h1
  | rptr i j off sz L h h1 => intro s he; cases s <;> simp [mapV] at he; obtain ⟨rfl, rfl, rfl, rfl⟩ := he; exact .rptr _ _ _ _ L (hσ _ _ h) h1
  | agg l vs h1 _ h3 ih =>
    intro s he; cases s <;> simp [mapV] at he
    refine .agg _ vs (by rw [← h1, he, mapL_length]) (fun j s u a b => ih j _ u (lists he j s a) b s rfl) h3
  | tup l vs h1 _ ih =>
    intro s he; cases s <;> simp [mapV] at he
    exact .tup _ vs (by rw [← h1, he, mapL_length]) (fun j s u a b => ih j _ u (lists he j s a) b s rfl)
  | fn f l vs h1 _ ih =>
    intro s he; cases s <;> simp [mapV] at he
    obtain ⟨rfl, he⟩ := he
    exact .fn _ _ vs (by rw [← h1, he, mapL_length]) (fun j s u a b => ih j _ u (lists he j s a) b s rfl)
  | map i L h => intro s he; cases s <;> simp [mapV] at he; subst he; exact .map _ L (hσ _ _ h)
  | ap i n off L h => intro s he; cases s <;> simp [mapV] at he; obtain ⟨rfl, rfl, rfl⟩ := he; exact .ap _ _ _ L (hσ _ _ h)
  | npNil i => intro s he; cases s <;> simp [mapV] at he; obtain ⟨rfl, rfl⟩ := he; exact .npNil _
  | np i n L h => intro s he; cases s <;> simp [mapV] at he; obtain ⟨rfl, rfl⟩ := he; exact .np _ _ L (hσ _ _ h)
  | yl i L h => intro s he; cases s <;> simp [mapV] at he; subst he; exact .yl _ L (hσ _ _ h)
  | v x => intro s he; cases s <;> simp [mapV] at he; subst he; exact .v x
  | any x => intro s he; cases s <;> simp [mapV] at he; exact .any x

theorem KBat.map' (hσ : ∀ k L, β k = some L → β' (σ k) = some L) {L : Loc} {f : Nat → Prop} {k : KB} (h : KBat w M β L f k) : KBat w M β' L f (mapK σ k) := by
  cases h with
  | cells t l vs h0 h1 h3 h4 h5 =>
    refine .cells t _ vs h0 h1 (by rw [mapL_length]; exact h3) (fun j s u a b => ?_) h5
    rw [mapL_get] at a
    cases hl : l[j]? with
    | none => rw [hl] at a; cases a
    | some s0 => rw [hl] at a; cases a; exact (h4 j s0 u hl b).mapS hσ
  | rowNil e sz z f h0 h1 h2 h3 h4 => exact .rowNil e sz z f h0 h1 h2 h3 h4
  | row e sz n z f vs fz h0 h1 h2 hn h3 h4 h5 h6 h7 h8 h9 h10 => exact .row e sz n z f vs fz h0 h1 h2 hn h3 h4 h5 h6 h7 h8 h9 h10
  | map eks ka ea l es clock h0 h1 h2 h3 =>
    refine .map eks ka ea _ es clock h0 h1 (by rw [mapM_length]; exact h2) (fun j p e hp he => ?_)
    rw [mapM_get] at hp
    cases hl : l[j]? with
    | none => rw [hl] at hp; cases hp
    | some p0 =>
      rw [hl] at hp
      cases hp
      obtain ⟨kc, vc, a1, a2, a3, a4, a5, a6, a7, a8, a9, a10, a11⟩ := (h3 j p0 e hl he).ex
      refine ⟨kc, vc, a1, a2, a3, by simp [mapL_length, a4], a5, a6, a7, a8, a9, fun q s u hs hu => ?_, a11⟩
      simp only [mapL_get] at hs
      cases hq : p0.2[q]? with
      | none => rw [hq] at hs; cases hs
      | some s0 => rw [hq] at hs; cases hs; exact (a10 q s0 u hq hu).mapS hσ
  | arena t dom cols h0 h1 h2 =>
    refine .arena t dom _ h0 h1 (fun x hx => ?_)
    obtain ⟨vs, a1, a2, a3, a4⟩ := h2 x hx
    refine ⟨vs, a1, by rw [mapCs_length]; exact a2, fun j c u hc hu => ?_, a4⟩
    rw [mapCs_get] at hc
    cases hl : cols[j]? with
    | none => rw [hl] at hc; cases hc
    | some c0 => rw [hl] at hc; cases hc; rw [mapC_at]; exact (a3 j c0 u hl hu).mapS hσ
  | obj φ h1 h2 => exact .obj φ h1 h2
  | loop l ps asg body st r h0 h1 h2 h3 h4 h5 h6 h7 =>
    refine .loop _ ps asg body st r h0 h1 (by rw [mapL_length]; exact h2) (fun j s u a b => ?_) h4 h5 h6 h7
    rw [mapL_get] at a
    cases hl : l[j]? with
    | none => rw [hl] at a; cases a
    | some s0 => rw [hl] at a; cases a; exact (h3 j s0 u hl b).mapS hσ

theorem KBat.unmap (hσ : ∀ k L, β (σ k) = some L → β' k = some L) {L : Loc} {f : Nat → Prop} {k' : KB} (h : KBat w M β L f k') (k : KB) (he : k' = mapK σ k) : KBat w M β' L f k := by
  cases h with
  | cells t l vs h0 h1 h3 h4 h5 =>
    cases k <;> simp [mapK] at he
    obtain ⟨rfl, he⟩ := he
    exact .cells _ _ vs h0 h1 (by rw [← h3, he, mapL_length]) (fun j s u a b => (h4 j (mapV σ s) u (by rw [he, mapL_get, a]; rfl) b).unmap hσ s rfl) h5
  | rowNil e sz z f h0 h1 h2 h3 h4 =>
    cases k <;> simp [mapK] at he
    obtain ⟨rfl, rfl, rfl, rfl, rfl⟩ := he
    exact .rowNil _ _ _ _ h0 h1 h2 h3 h4
  | row e sz n z f vs fz h0 h1 h2 hn h3 h4 h5 h6 h7 h8 h9 h10 =>
    cases k <;> simp [mapK] at he
    obtain ⟨rfl, rfl, rfl, rfl, rfl⟩ := he
    exact .row _ _ _ _ _ vs fz h0 h1 h2 hn h3 h4 h5 h6 h7 h8 h9 h10
  | map eks ka ea l es clock h0 h1 h2 h3 =>
    cases k <;> simp [mapK] at he
    obtain ⟨rfl, rfl, rfl, he⟩ := he
    refine .map _ _ _ _ es clock h0 h1 (by rw [← h2, he, mapM_length]) (fun j p e hp hee => ?_)
    obtain ⟨kc, vc, a1, a2, a3, a4, a5, a6, a7, a8, a9, a10, a11⟩ := (h3 j (p.1, mapL σ p.2) e (by rw [he, mapM_get, hp]; rfl) hee).ex
    exact ⟨kc, vc, a1, a2, a3, by simpa [mapL_length] using a4, a5, a6, a7, a8, a9, fun q s u hs hu => (a10 q (mapV σ s) u (by simp only [mapL_get, hs]; rfl) hu).unmap hσ s rfl, a11⟩
  | arena t dom cols h0 h1 h2 =>
    cases k <;> simp [mapK] at he
    obtain ⟨rfl, rfl, he⟩ := he
    refine .arena _ _ _ h0 h1 (fun x hx => ?_)
    obtain ⟨vs, a1, a2, a3, a4⟩ := h2 x hx
    exact ⟨vs, a1, by rw [a2, he, mapCs_length], fun j c u hc hu => (a3 j (mapC σ c) u (by rw [he, mapCs_get, hc]; rfl) hu).unmap hσ _ (mapC_at σ c _), a4⟩
  | obj φ h1 h2 =>
    cases k <;> simp [mapK] at he
    subst he
    exact .obj _ h1 h2
  | loop l ps asg body st r h0 h1 h2 h3 h4 h5 h6 h7 =>
    cases k <;> simp [mapK] at he
    obtain ⟨he, rfl, rfl, rfl, rfl⟩ := he
    exact .loop _ _ _ _ _ r h0 h1 (by rw [← h2, he, mapL_length]) (fun j s u a b => (h3 j (mapV σ s) u (by rw [he, mapL_get, a]; rfl) b).unmap hσ s rfl) h4 h5 h6 h7
end

/-- Where the known blocks of a contract lie among those of the caller: is, the numbers there; new ones behind all. -/
def sig (is : List Nat) (N : Nat) : Nat → Nat := fun k => match is[k]? with
  | some i => i
  | none => N + (k - is.length)
def inv (is : List Nat) (N : Nat) (j : Nat) : Option Nat :=
  match posN j is 0 with
  | some k => some k
  | none => if N ≤ j then some (is.length + (j - N)) else none
/-- The caller's blocks with those of the contract put anew. -/
def setBs : List KB → List Nat → List KB → List KB
  | ks, [], _ => ks
  | ks, i :: is, [] => setBs (setB ks i .gone) is []
  | ks, i :: is, b :: l => setBs (setB ks i b) is l
def dropB : List KB → Nat → List KB
  | l, 0 => l
  | [], _ + 1 => []
  | _ :: l, n + 1 => dropB l n
def appB : List KB → List KB → List KB
  | [], m => m
  | a :: l, m => a :: appB l m
def putBs (ks : List KB) (is : List Nat) (l : List KB) : List KB := appB (setBs ks is l) (dropB l is.length)
/-- The caller's blocks that the contract speaks of. -/
def getBs (ks : List KB) : List Nat → List KB
  | [] => []
  | i :: is => getB ks i :: getBs ks is

theorem dropB_eq (l : List KB) (n : Nat) : dropB l n = l.drop n := by
  induction l generalizing n with
  | nil => cases n <;> rfl
  | cons a l ih => cases n with
    | zero => rfl
    | succ n => simp [dropB, ih]
theorem appB_eq (l m : List KB) : appB l m = l ++ m := by
  induction l with
  | nil => rfl
  | cons a l ih => simp [appB, ih]
theorem setBs_length (ks : List KB) (is : List Nat) (l : List KB) : (setBs ks is l).length = ks.length := by
  induction is generalizing ks l with
  | nil => cases l <;> rfl
  | cons i is ih => cases l <;> simp [setBs, ih, setB_eq]
theorem posN_none {j : Nat} {is : List Nat} {p : Nat} (h : posN j is p = none) : j ∉ is := by
  induction is generalizing p with
  | nil => simp
  | cons a is ih =>
    simp only [posN] at h
    split at h
    · cases h
    · rename_i hb
      have hne : j ≠ a := fun e => by subst e; rw [show Nat.beq j j = true from Nat.beq_refl j] at hb; cases hb
      simp [hne, ih h]
theorem posN_some {j : Nat} {is : List Nat} {p k : Nat} (h : posN j is p = some k) : ∃ q, k = p + q ∧ is[q]? = some j := by
  induction is generalizing p with
  | nil => cases h
  | cons a is ih =>
    simp only [posN] at h
    split at h
    · rename_i hb
      cases h
      exact ⟨0, rfl, by simp [beq_of hb]⟩
    · obtain ⟨q, e, hq⟩ := ih h
      exact ⟨q + 1, by omega, by simpa using hq⟩
theorem setBs_get {is : List Nat} : ∀ (ks l : List KB) (j : Nat), is.Nodup → (∀ i ∈ is, i < ks.length) → (setBs ks is l)[j]? = match posN j is 0 with
    | some k => some (getB l k)
    | none => ks[j]? := by
  have gen : ∀ (is : List Nat) (ks l : List KB) (j p : Nat), is.Nodup → (∀ i ∈ is, i < ks.length) → (setBs ks is l)[j]? = match posN j is p with
    | some k => some (getB l (k - p))
    | none => ks[j]? := by
    intro is
    induction is with
    | nil => intro ks l j p _ _; cases l <;> rfl
    | cons i is ih =>
      intro ks l j p hnd hlt
      have hnd' := List.nodup_cons.1 hnd
      have step : ∀ (b : KB) (l' : List KB), (∀ k, getB l' k = getB l (k + 1)) → b = getB l 0 → (setBs (setB ks i b) is l')[j]? = match posN j (i :: is) p with
          | some k => some (getB l (k - p))
          | none => ks[j]? := fun b l' hl' hb => by
        rw [ih (setB ks i b) l' j (p + 1) hnd'.2 (fun q hq => by rw [setB_eq, List.length_set]; exact hlt q (by simp [hq]))]
        simp only [posN]
        split
        · rename_i k hk
          obtain ⟨q, e, hq⟩ := posN_some hk
          have hne : i ≠ j := fun e => by subst e; exact hnd'.1 (List.mem_of_getElem? hq)
          have : Nat.beq i j = false := by
            cases hb : Nat.beq i j with
            | false => rfl
            | true => exact absurd (beq_of hb) hne
          rw [this, hk]
          simp only
          rw [hl', show k - (p + 1) + 1 = k - p from by omega]
        · rename_i hk
          cases hb' : Nat.beq i j with
          | true =>
            cases beq_of hb'
            simp only [Nat.sub_self]
            rw [setB_eq, List.getElem?_set, if_pos rfl, if_pos (hlt i (by simp)), hb]
          | false =>
            rw [hk]
            have hne : i ≠ j := fun e => by subst e; rw [show Nat.beq i i = true from Nat.beq_refl i] at hb'; cases hb'
            simp only
            rw [setB_eq, List.getElem?_set, if_neg hne]
      cases l with
      | nil => exact step .gone [] (fun k => by simp [getB_eq]) rfl
      | cons b l => exact step b l (fun k => by simp [getB_eq]) rfl
  intro ks l j hnd hlt
  exact gen is ks l j 0 hnd hlt

/-- The relation that holds where the contract is used. -/
theorem COk.frame {P : Program} {f : FuncId} {as0 : List SV} {ks0 : List KB} {R0 : SV → List KB → Prop} (h : COk P f as0 ks0 R0) (is : List Nat) {as : List SV} {ks : List KB} {R : SV → List KB → Prop}
    (hok : okN (lenB ks) is = true) (ha : mapL (sig is (lenB ks)) as0 = as) (hk : getBs ks is = mapB (sig is (lenB ks)) ks0) (hR : ∀ s0 k0, R0 s0 k0 → R (mapV (sig is (lenB ks)) s0) (putBs ks is (mapB (sig is (lenB ks)) k0))) : COk P f as ks R := by
  refine ⟨h.1, fun X w β fp vs hM hl hd => ?_⟩
  rw [lenB_eq] at hok ha hk hR
  obtain ⟨o1, o2⟩ := okN_spec hok
  generalize hN : ks.length = N at *
  have hkl := hM.kl
  rw [hN] at hkl
  have hgetBs : ∀ (l : List Nat) (q i : Nat), l[q]? = some i → (getBs ks l)[q]? = some (getB ks i) := fun l => by
    induction l with
    | nil => intro q i hq; simp at hq
    | cons a l ih =>
      intro q i hq
      cases q with
      | zero => simp at hq; subst hq; rfl
      | succ q => simpa [getBs] using ih q i (by simpa using hq)
  have hgetBsL : ∀ (l : List Nat), (getBs ks l).length = l.length := fun l => by
    induction l with
    | nil => rfl
    | cons a l ih => simp [getBs, ih]
  have hlen0 : ks0.length = is.length := by
    have := congrArg List.length hk
    rw [hgetBsL, mapB_length] at this
    exact this.symm
  have hlt : ∀ i ∈ is, i < N := fun i hi => by
    obtain ⟨q, hq, rfl⟩ := List.mem_iff_getElem.1 hi
    exact o1 q _ (List.getElem?_eq_getElem hq)
  have hnd : is.Nodup := by
    rw [List.nodup_iff_pairwise_ne, List.pairwise_iff_getElem]
    intro p q hp hq hpq e
    have e1 := List.getElem?_eq_getElem hp
    have e2 := List.getElem?_eq_getElem hq
    have := o2 p q is[p] e1 (by rw [e2, e])
    omega
  have hsig : ∀ k i, is[k]? = some i → sig is N k = i := fun k i hk => by simp [sig, hk]
  have hsigN : ∀ k, is.length ≤ k → sig is N k = N + (k - is.length) := fun k hk => by simp [sig, List.getElem?_eq_none hk]
  have hsmall : ∀ k, k < ks0.length → ∃ i, is[k]? = some i ∧ i < N ∧ sig is N k = i ∧ ks[i]? = some (mapK (sig is N) (getB ks0 k)) := fun k hk0 => by
    have hkl : k < is.length := by omega
    have e1 := List.getElem?_eq_getElem hkl
    refine ⟨is[k], e1, o1 k _ e1, hsig k _ e1, ?_⟩
    have e2 := hgetBs is k _ e1
    rw [hk, mapB_get, List.getElem?_eq_getElem hk0] at e2
    simp only [Option.map_some, Option.some.injEq] at e2
    have hil := o1 k _ e1
    rw [List.getElem?_eq_getElem (by omega)]
    have : getB ks is[k] = ks[is[k]] := by rw [getB_eq, List.getElem?_eq_getElem (by omega)]; rfl
    rw [this] at e2
    rw [← e2, getB_eq, List.getElem?_eq_getElem hk0]
    rfl
  -- the smaller memory
  let X0 : Nat → Prop := fun b => X b ∨ ∃ j, j ∉ is ∧ fp j b
  let β0 : Env := fun k => match is[k]? with
    | some i => β i
    | none => none
  let fp0 : Nat → Nat → Prop := fun k b => ∃ i, is[k]? = some i ∧ fp i b
  have hMx : ∀ b, Mx X0 fp0 b ↔ Mx X fp b := fun b => by
    constructor
    · rintro ((hx | ⟨j, _, hj⟩) | ⟨k, i, _, hi⟩)
      · exact .inl hx
      · exact .inr ⟨j, hj⟩
      · exact .inr ⟨i, hi⟩
    · rintro (hx | ⟨j, hj⟩)
      · exact .inl (.inl hx)
      · by_cases hm : j ∈ is
        · obtain ⟨q, hq, rfl⟩ := List.mem_iff_getElem.1 hm
          exact .inr ⟨q, _, List.getElem?_eq_getElem hq, hj⟩
        · exact .inl (.inr ⟨j, hm, hj⟩)
  have hMxe : Mx X0 fp0 = Mx X fp := funext fun b => propext (hMx b)
  have hun : ∀ k L, β (sig is N k) = some L → β0 k = some L := fun k L hL => by
    cases hi : is[k]? with
    | some i => rw [hsig k i hi] at hL; simp only [β0, hi]; exact hL
    | none =>
      rw [hsigN k (by simpa using hi), hkl _ (by omega)] at hL
      cases hL
  have hM0 : Mem X0 w β0 fp0 ks0 := by
    refine ⟨⟨fun b hb => ?_, fun k b ⟨i, hi, hb⟩ hx => ?_, fun p q b ⟨i, hi, hb⟩ ⟨i', hi', hb'⟩ => ?_, fun k b ⟨i, hi, hb⟩ => hM.kw i b hb, fun k b ⟨i, hi, hb⟩ => ?_, fun k L kb hkb hne hL => ?_⟩, fun k hk' => ?_, fun k t dom cols hkb => ?_⟩
    · rcases hb with hb | ⟨j, _, hb⟩
      · exact hM.xa b hb
      · exact hM.kw j b hb
    · rcases hx with hx | ⟨j, hj, hx⟩
      · exact hM.xb i b hb hx
      · have := hM.dis i j b hb hx
        subst this
        exact hj (List.mem_of_getElem? hi)
    · have := hM.dis i i' b hb hb'
      subst this
      exact o2 p q i hi hi'
    · obtain ⟨L, hL⟩ := hM.kn i b hb
      exact ⟨L, by simp only [β0, hi]; exact hL⟩
    · have hkl' : k < ks0.length := (List.getElem?_eq_some_iff.1 hkb).1
      obtain ⟨i, hi, hiN, hs, hki⟩ := hsmall k hkl'
      have hgb : getB ks0 k = kb := by rw [getB_eq, hkb]; rfl
      rw [hgb] at hki
      have hL' : β i = some L := by simpa only [β0, hi] using hL
      have hb := hM.kb i L _ hki (fun e => hne (by cases kb <;> simp [mapK] at e; rfl)) hL'
      have hf : fp0 k = fp i := funext fun b => propext ⟨fun ⟨i', e, hb⟩ => by rw [hi] at e; cases e; exact hb, fun hb => ⟨i, hi, hb⟩⟩
      rw [hMxe, hf]
      exact hb.unmap hun kb rfl
    · simp only [β0]
      rw [List.getElem?_eq_none (by omega)]
    · have hkl' : k < ks0.length := (List.getElem?_eq_some_iff.1 hkb).1
      obtain ⟨i, hi, hiN, hs, hki⟩ := hsmall k hkl'
      have hgb : getB ks0 k = .arena t dom cols := by rw [getB_eq, hkb]; rfl
      rw [hgb] at hki
      obtain ⟨L, hL⟩ := hM.ka i _ _ _ hki
      exact ⟨L, by simp only [β0, hi]; exact hL⟩
  have hl0 : as0.length = vs.length := by rw [← hl, ← ha, mapL_length]
  have hcall := h.2 X0 w β0 fp0 vs hM0 hl0 (fun j s u hs hu => by
    rw [hMxe]
    exact (hd j (mapV (sig is N) s) u (by rw [← ha, mapL_get, hs]; rfl) hu).unmap hun s rfl)
  refine hcall.mono ?_
  rintro e w' ⟨r, s0, k0, β1, fp1, rfl, hR0, hW, hden⟩
  let β' : Env := fun j => match inv is N j with
    | some k => β1 k
    | none => β j
  let fp' : Nat → Nat → Prop := fun j => match inv is N j with
    | some k => fp1 k
    | none => fp j
  have hinvσ : ∀ k, inv is N (sig is N k) = some k := fun k => by
    unfold inv
    cases hi : is[k]? with
    | some i =>
      rw [hsig k i hi]
      cases hp : posN i is 0 with
      | none => exact absurd (List.mem_of_getElem? hi) (posN_none hp)
      | some q =>
        obtain ⟨q', e, hq⟩ := posN_some hp
        have := o2 k q' i hi hq
        simp only
        congr 1
        omega
    | none =>
      have hkn : is.length ≤ k := by simpa using hi
      rw [hsigN k hkn]
      cases hp : posN (N + (k - is.length)) is 0 with
      | some q =>
        obtain ⟨q', e, hq⟩ := posN_some hp
        have := o1 q' _ hq
        omega
      | none =>
        simp only
        rw [if_pos (by omega)]
        congr 1
        omega
  have hinv : ∀ j k, inv is N j = some k → j = sig is N k := fun j k hj => by
    unfold inv at hj
    split at hj
    · rename_i q hp
      cases hj
      obtain ⟨q', e, hq⟩ := posN_some hp
      rw [hsig _ j (by rw [e, Nat.zero_add]; exact hq)]
    · split at hj
      · cases hj
        rw [hsigN _ (by omega)]
        omega
      · cases hj
  have hout : ∀ j, inv is N j = none → j ∉ is ∧ j < N := fun j hj => by
    unfold inv at hj
    split at hj
    · cases hj
    · rename_i hp
      split at hj
      · cases hj
      · exact ⟨posN_none hp, by omega⟩
  have hβ' : ∀ k L, β1 k = some L → β' (sig is N k) = some L := fun k L hL => by simp only [β', hinvσ]; exact hL
  have hext : Ext β β' := fun j L hL => by
    simp only [β']
    cases hj : inv is N j with
    | none => exact hL
    | some k =>
      have := hinv j k hj
      subst this
      exact hW.ext k L (hun k L hL)
  have hMx' : ∀ b, Mx X fp' b ↔ Mx X0 fp1 b := fun b => by
    constructor
    · rintro (hx | ⟨j, hj⟩)
      · exact .inl (.inl hx)
      · simp only [fp'] at hj
        cases hi : inv is N j with
        | none => rw [hi] at hj; exact .inl (.inr ⟨j, (hout j hi).1, hj⟩)
        | some k => rw [hi] at hj; exact .inr ⟨k, hj⟩
    · rintro ((hx | ⟨j, hjn, hj⟩) | ⟨k, hk⟩)
      · exact .inl hx
      · refine .inr ⟨j, ?_⟩
        simp only [fp']
        have : inv is N j = none := by
          unfold inv
          cases hp : posN j is 0 with
          | some q =>
            obtain ⟨q', e, hq⟩ := posN_some hp
            exact absurd (List.mem_of_getElem? hq) hjn
          | none =>
            simp only
            rw [if_neg]
            intro hNj
            obtain ⟨L, hL⟩ := hM.kn j b hj
            rw [hkl j hNj] at hL
            cases hL
        rw [this]
        exact hj
      · refine .inr ⟨sig is N k, ?_⟩
        simp only [fp', hinvσ]
        exact hk
  have hMxe' : Mx X fp' = Mx X0 fp1 := funext fun b => propext (hMx' b)
  have hst : Step (fun b => ∃ i, fp i b) w w' := hW.st.mono (fun b _ ⟨k, i, _, hb⟩ => ⟨i, hb⟩)
  have hown : ∀ j b, fp' j b → (∃ j', fp j' b) ∨ w.heap.size ≤ b := fun j b hj => by
    simp only [fp'] at hj
    cases hi : inv is N j with
    | none => rw [hi] at hj; exact .inl ⟨j, hj⟩
    | some k =>
      rw [hi] at hj
      exact (hW.own k b hj).imp (fun ⟨k', i, _, hb⟩ => ⟨i, hb⟩) id
  have hget : ∀ j kb, (putBs ks is (mapB (sig is N) k0))[j]? = some kb → match inv is N j with
      | some k => kb = mapK (sig is N) (getB k0 k)
      | none => ks[j]? = some kb := fun j kb hj => by
    have hgm : ∀ k, getB (mapB (sig is N) k0) k = mapK (sig is N) (getB k0 k) := fun k => by
      rw [getB_eq, getB_eq, mapB_get]
      cases k0[k]? <;> rfl
    unfold putBs at hj
    rw [appB_eq, dropB_eq] at hj
    unfold inv
    by_cases hjN : j < N
    · rw [List.getElem?_append_left (by rw [setBs_length]; omega), setBs_get ks _ j hnd (fun i hi => by rw [hN]; exact hlt i hi)] at hj
      split at hj
      · rename_i k hp
        simp only [Option.some.injEq] at hj
        rw [← hj, hgm]
      · rename_i hp
        rw [if_neg (by omega)]
        exact hj
    · have hp : posN j is 0 = none := by
        cases hp : posN j is 0 with
        | none => rfl
        | some q =>
          obtain ⟨q', e, hq⟩ := posN_some hp
          have := o1 q' _ hq
          omega
      rw [hp]
      simp only
      rw [if_pos (by omega)]
      rw [List.getElem?_append_right (by rw [setBs_length]; omega), setBs_length, List.getElem?_drop, hN] at hj
      simp only
      rw [← hgm, getB_eq, hj]
      rfl
  have hlen' : (putBs ks is (mapB (sig is N) k0)).length = N + (k0.length - is.length) := by
    unfold putBs
    rw [appB_eq, dropB_eq, List.length_append, setBs_length, List.length_drop, mapB_length, hN]
  refine ⟨r, mapV (sig is N) s0, putBs ks is (mapB (sig is N) k0), β', fp', rfl, hR _ _ hR0, ⟨⟨⟨fun b hb => Nat.lt_of_lt_of_le (hM.xa b hb) hst.size, fun j b hj hx => ?_, fun p q b hp hq => ?_, fun j b hj => ?_, fun j b hj => ?_, fun j L kb hkb hne hL => ?_⟩, fun j hj => ?_, fun j t dom cols hj => ?_⟩, hst, hext, hown⟩, ?_⟩
  · rcases hown j b hj with ⟨j', hj'⟩ | e
    · exact hM.xb j' b hj' hx
    · have := hM.xa b hx; omega
  · simp only [fp'] at hp hq
    cases hi : inv is N p with
    | none =>
      rw [hi] at hp
      cases hi' : inv is N q with
      | none => rw [hi'] at hq; exact hM.dis p q b hp hq
      | some k => rw [hi'] at hq; exact (hW.mem.xb k b hq (.inr ⟨p, (hout p hi).1, hp⟩)).elim
    | some k =>
      rw [hi] at hp
      cases hi' : inv is N q with
      | none => rw [hi'] at hq; exact (hW.mem.xb k b hp (.inr ⟨q, (hout q hi').1, hq⟩)).elim
      | some k' =>
        rw [hi'] at hq
        have := hW.mem.dis k k' b hp hq
        subst this
        rw [hinv p _ hi, hinv q _ hi']
  · simp only [fp'] at hj
    cases hi : inv is N j with
    | none => rw [hi] at hj; exact Nat.lt_of_lt_of_le (hM.kw j b hj) hst.size
    | some k => rw [hi] at hj; exact hW.mem.kw k b hj
  · simp only [fp'] at hj
    cases hi : inv is N j with
    | none =>
      rw [hi] at hj
      obtain ⟨L, hL⟩ := hM.kn j b hj
      exact ⟨L, hext j L hL⟩
    | some k =>
      rw [hi] at hj
      obtain ⟨L, hL⟩ := hW.mem.kn k b hj
      exact ⟨L, by simp only [β', hi]; exact hL⟩
  · have hg := hget j kb hkb
    rw [hMxe']
    simp only [β'] at hL
    cases hi : inv is N j with
    | none =>
      rw [hi] at hg hL
      have hf : fp' j = fp j := by simp only [fp', hi]
      rw [hf]
      have hb := hM.kb j L kb hg hne hL
      refine hb.mono (hst.mono (fun _ _ e => .inr e)) (fun b hb hm => ?_) hext (fun b hb => hW.st.block b (hM.kw j b hb) (fun ⟨k, i, hik, hib⟩ => ?_))
      · rcases hm with hm | ⟨k, hk⟩
        · exact (hMx b).1 (.inl hm)
        · rcases hW.own k b hk with ⟨k', i, _, hb'⟩ | e
          · exact .inr ⟨i, hb'⟩
          · omega
      · have := hM.dis i j b hib hb
        subst this
        exact (hout i hi).1 (List.mem_of_getElem? hik)
    | some k =>
      rw [hi] at hg hL
      have hf : fp' j = fp1 k := by simp only [fp', hi]
      rw [hf]
      subst hg
      have hne0 : getB k0 k ≠ .gone := fun e => by rw [e] at hne; exact hne rfl
      exact (hW.mem.kb k L _ (getB_some rfl hne0) hne0 hL).map' hβ'
  · rw [hlen'] at hj
    have : inv is N j = some (is.length + (j - N)) := by
      unfold inv
      cases hp : posN j is 0 with
      | none => simp only; rw [if_pos (by omega)]
      | some q =>
        obtain ⟨q', e, hq⟩ := posN_some hp
        have := o1 q' _ hq
        omega
    simp only [β', this]
    exact hW.mem.kl _ (by omega)
  · have hg := hget j _ hj
    cases hi : inv is N j with
    | none =>
      rw [hi] at hg
      obtain ⟨L, hL⟩ := hM.ka j t dom cols hg
      exact ⟨L, hext j L hL⟩
    | some k =>
      rw [hi] at hg
      have hg : KB.arena t dom cols = mapK (sig is N) (getB k0 k) := hg
      generalize hgb : getB k0 k = kb at hg
      cases kb with
      | arena t' dom' cols' =>
        obtain ⟨L, hL⟩ := hW.mem.ka k _ _ _ (getB_some hgb (by simp))
        exact ⟨L, by simp only [β', hi]; exact hL⟩
      | _ => simp [mapK] at hg
  · rw [hMxe']
    exact hden.mapS hβ'

theorem cOk_of_run_arena {P : Program} {TT : Nat → Option TI} {IN : Nat → Option Inl} (hTT : TTok P TT) (hIN : INok P IN) (hmix : P.follows .mixedOrders = true) {f : FuncId} {fn : Func} {c : Code} (m : Nat) (hf : P.funcs[f]? = some fn) (hb : fn.body = some c) (hent : ∀ (args : Array Value) (w : World), (callFunc f args).run P w = .ok (.enter f args) w)
    {args : List SV} {ks : List KB} {R : SV → List KB → Prop} (t : TypeId) (cols : List Col) (k : Nat) (hk : fn.ntmps = args.length + k) (h : run P TT IN m ⟨ks.length, none⟩ [.code c] (args ++ anys k) (ks ++ [.arena t (fun _ => False) cols]) (endM TT fn.results.toList ks.length R)) : COk P f args ks R := by
  refine ⟨hent, fun X w β fp vs hM hl hd => ?_⟩
  refine (callsIn_wide (n := 0)).1 (callsIn_of_wp_marks hf hb trivial ?_ rfl)
  have hnew := hM.newArena t cols
  have hS1 := enter_sat hnew.mem hl (fun j s u hs hu => hnew.den (hd j s u hs hu)) (k := k) (m := fn.ntmps) hk
  have hS : Sat ⟨X, w, β, fp⟩ w _ fp (args ++ anys k) (ks ++ [.arena t (fun _ => False) cols]) _ := ⟨hnew.trans hS1.went, hS1.df, hS1.len, hS1.tm⟩
  have := run_sound hTT hIN hmix m ⟨X, w, β, fp⟩ ⟨ks.length, none⟩ none 0 (bodyPostM (wideF none) 0 P fn (fun e w' => ∃ r s ks' β' fp', e = .returned r ∧ R s ks' ∧ Went X w β fp w' β' fp' ks' ∧ Den w' (Mx X fp') β' s r)) _ hM.kl rfl (fun e ts2 ks2 a2 w2 β2 fp2 hK hS2 => by
    have fin : resK TT ts2 ks2 fn.results.toList (fun vs => FinOk ks.length R vs ks2) → LeavesInM (wideF none) 0 P fn a2.tmps (fun e w' => ∃ r s ks' β' fp', e = .returned r ∧ R s ks' ∧ Went X w β fp w' β' fp' ks' ∧ Den w' (Mx X fp') β' s r) a2.defers .returning w2 := fun hK => by
      refine leave_marks (a := a2) (fun w3 hS3 => ?_) a2.defers w2 hS2
      obtain ⟨ss, us, v, ⟨ρ, s', ks', o1, o2, hsv, hsb, hR⟩, e1, e3, hrun, _, hden⟩ := results_spec (P := P) hTT hS3 hK
      rw [lenB_eq] at o1
      have hW := (hS3.went.ren hM.kl ρ o1 o2).less hsb
      have hMx : ∀ b, Mx X (renF ρ fp2) b → Mx X fp2 b := fun b hm => hm.imp id (fun ⟨k, i, _, hb⟩ => ⟨i, hb⟩)
      exact ⟨v, hrun, v, s', ks', _, _, rfl, hR, hW, SubV_den hsv ((den_less hden hMx).ren ρ)⟩
    cases e with
    | normal => exact fin hK
    | ret => exact fin hK
    | _ => exact hK.elim) [.code c] _ _ _ _ _ _ h trivial hS
  exact wpIn_mono this (fun e a' w' he => he)

end Go.Eng
