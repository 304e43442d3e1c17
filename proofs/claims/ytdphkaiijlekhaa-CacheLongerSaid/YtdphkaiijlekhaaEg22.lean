/-
  The engine, part 22: regions whose order is open.
-/
import Derived.Test.YtdphkaiijlekhaaEg21
namespace Go.Eng
open Go Go.RowKit

/-- The slots in l as they are, of the others nothing known. -/
def mask (l : List Nat) (ts : List SV) : List SV := (List.range ts.length).map fun t => if memN t l = true then getT ts t else .any
theorem mask_get (l : List Nat) (ts : List SV) (t : Nat) : getT (mask l ts) t = if memN t l = true then getT ts t else .any := by
  rw [getT_eq, mask, List.getElem?_map]
  by_cases h : t < ts.length
  · rw [List.getElem?_range h]; rfl
  · rw [List.getElem?_eq_none (by simp; omega)]
    split
    · rw [getT_eq, List.getElem?_eq_none (by omega)]; rfl
    · rfl
theorem mem_memN {t : Nat} {l : List Nat} (h : memN t l = true) : t ∈ l := by
  induction l with
  | nil => simp [memN] at h
  | cons a l ih =>
    unfold memN at h
    split at h
    · rename_i hb; exact List.mem_cons.2 (.inl (Nat.eq_of_beq_eq_true hb).symm)
    · exact List.mem_cons.2 (.inr (ih h))
theorem tmpsOf_mem {t : Nat} {l : List Operand} (h : .tmp t ∈ l) : t ∈ tmpsOf l := by
  induction l with
  | nil => cases h
  | cons a l ih =>
    rcases List.mem_cons.1 h with e | h'
    · subst e; simp [tmpsOf]
    · cases a <;> simp [tmpsOf, ih h']
theorem looks_op {all : List Oper} {o : Oper} {t : Nat} (h : .tmp t ∈ o.op.operands) : memN t (looks all o) = true := by
  refine memN_mem ?_
  have : t ∈ tmpsOf o.op.operands.toList := tmpsOf_mem (by simpa using h)
  unfold looks
  split
  · exact this
  · split
    · exact List.mem_cons.2 (.inr this)
    · exact this
theorem mask_val {all : List Oper} {o : Oper} {ts : List SV} : ∀ x ∈ o.op.operands, val ts x = val (mask (looks all o) ts) x := fun x hx => by
  cases x with
  | tmp t => simp only [val, mask_get, looks_op (all := all) hx, if_true]
  | _ => rfl
theorem mask_guard {all : List Oper} {o : Oper} {ts : List SV} : guardOk all (mask (looks all o) ts) o = guardOk all ts o := by
  unfold guardOk
  cases hg : o.guard with
  | none => rfl
  | some p =>
    obtain ⟨j, want⟩ := p
    simp only
    cases hd : dstAt all j with
    | none => rfl
    | some t =>
      have : memN t (looks all o) = true := memN_mem (by simp [looks, hg, hd])
      simp only [mask_get, this, if_true]

/-! ### The way, place by place -/

def RefV (s s' : SV) : Prop := s' = s ∨ ∃ b, s = .d (.bool b) ∧ s' = .d (if b then .tt else .ff)
theorem RefV.trans {a b c : SV} (h : RefV a b) (k : RefV b c) : RefV a c := by
  rcases h with rfl | ⟨x, rfl, rfl⟩
  · exact k
  · rcases k with rfl | ⟨y, e, rfl⟩
    · exact .inr ⟨x, rfl, rfl⟩
    · cases x <;> simp at e
theorem RefV.den {s s' : SV} (h : RefV s s') {w : World} {M : Nat → Prop} {β : Env} {v : Value} (hd : Den w M β s v) : Den w M β s' v := by
  rcases h with rfl | ⟨b, rfl, rfl⟩
  · exact hd
  · cases hd with | d hr => cases hr; cases b <;> first | exact .d .tt | exact .d .ff
def Ref (l l' : List SV) : Prop := l.length = l'.length ∧ ∀ (t : Nat) (s' : SV), l'[t]? = some s' → ∃ s, l[t]? = some s ∧ RefV s s'
theorem Ref.refl (l : List SV) : Ref l l := ⟨rfl, fun _ s h => ⟨s, h, .inl rfl⟩⟩
theorem Ref.trans {a b c : List SV} (h : Ref a b) (k : Ref b c) : Ref a c := ⟨h.1.trans k.1, fun t s hs => by
  obtain ⟨s1, e1, r1⟩ := k.2 t s hs
  obtain ⟨s0, e0, r0⟩ := h.2 t s1 e1
  exact ⟨s0, e0, r0.trans r1⟩⟩
theorem putT_length (d : Option Tmp) (s : SV) (l : List SV) : (putT d s l).length = l.length := by
  cases d <;> simp [putT, setT_eq]
theorem putT_get (d : Option Tmp) (s : SV) (l : List SV) (t : Nat) : (putT d s l)[t]? = if d = some t ∧ t < l.length then some s else l[t]? := by
  cases d with
  | none => simp [putT]
  | some u =>
    simp only [putT, setT_eq, List.getElem?_set]
    by_cases e : u = t
    · subst e
      by_cases h : u < l.length
      · simp [h]
      · simp [h]
    · rw [if_neg e, if_neg (fun h => e (Option.some.inj h.1))]
theorem Ref.put {l l' : List SV} (h : Ref l l') (d : Option Tmp) (s : SV) : Ref (putT d s l) (putT d s l') := by
  refine ⟨by simp [putT_length, h.1], fun t s' hs => ?_⟩
  rw [putT_get] at hs ⊢
  rw [h.1]
  split
  · rename_i hc; rw [if_pos hc] at hs; exact ⟨s, rfl, .inl (Option.some.inj hs).symm⟩
  · rename_i hc; rw [if_neg hc] at hs; exact h.2 t s' hs
theorem Ref.refine_ {l : List SV} {t : Nat} {b : Bool} (h : getT l t = .d (.bool b)) : Ref l (setT l t (.d (if b then .tt else .ff))) := by
  refine ⟨by simp [setT_eq], fun u s' hs => ?_⟩
  rw [setT_eq, List.getElem?_set] at hs
  split at hs
  · rename_i e
    subst e
    split at hs
    · rename_i hl
      refine ⟨.d (.bool b), ?_, .inr ⟨b, rfl, (Option.some.inj hs).symm⟩⟩
      rw [getT_eq, List.getElem?_eq_getElem hl] at h
      rw [List.getElem?_eq_getElem hl]; exact congrArg some h
    · cases hs
  · exact ⟨s', hs, .inl rfl⟩

section
variable {P : Program} {TT : Nat → Option TI} {all : List Oper}

theorem Tr.cons_inv {o : Oper} {os' os : List Oper} {ts ts' : List SV} {ks ks' : List KB} {hs : List Bool} (h : Tr P TT all os' ts ks ts' ks' hs) (e : os' = o :: os) :
    ∃ tr hd hs' s k1, hs = hd :: hs' ∧ Ref ts tr ∧ Stp P TT all tr ks o hd s k1 ∧ Tr P TT all os (putT o.dst s tr) k1 ts' ks' hs' := by
  induction h with
  | nil => cases e
  | step hst htr _ => cases e; exact ⟨_, _, _, _, _, rfl, Ref.refl _, hst, htr⟩
  | refine_ t b hb _ ih =>
    obtain ⟨tr, hd, hs', s, k1, e1, hr, hst, htr⟩ := ih e
    exact ⟨tr, hd, hs', s, k1, e1, (Ref.refine_ hb).trans hr, hst, htr⟩

/-- The way as functions of the place. -/
theorem Tr.places : ∀ {os : List Oper} {ts ts' : List SV} {ks ks' : List KB} {hs : List Bool}, Tr P TT all os ts ks ts' ks' hs →
    ∃ (S : Nat → SV) (T : Nat → List SV) (κ : Nat → List KB), T 0 = ts ∧ κ 0 = ks ∧ T os.length = ts' ∧ κ os.length = ks' ∧ hs.length = os.length ∧
      ∀ (p : Nat) (o : Oper) (h : Bool), os[p]? = some o → hs[p]? = some h → ∃ tr, Ref (T p) tr ∧ Stp P TT all tr (κ p) o h (S p) (κ (p + 1)) ∧ T (p + 1) = putT o.dst (S p) tr := by
  intro os
  induction os with
  | nil =>
    intro ts ts' ks ks' hs h
    cases h
    exact ⟨fun _ => .any, fun _ => ts, fun _ => ks, rfl, rfl, rfl, rfl, rfl, by simp⟩
  | cons o os ih =>
    intro ts ts' ks ks' hs h
    obtain ⟨tr, hd, hs', s, k1, rfl, hr, hst, htr⟩ := h.cons_inv rfl
    obtain ⟨S, T, κ, e1, e2, e3, e4, e5, hp⟩ := ih htr
    refine ⟨fun p => match p with | 0 => s | p + 1 => S p, fun p => match p with | 0 => ts | p + 1 => T p, fun p => match p with | 0 => ks | p + 1 => κ p, rfl, rfl, e3, e4, by simp [e5], ?_⟩
    intro p o' h' ho hh
    cases p with
    | zero =>
      simp only [List.getElem?_cons_zero, Option.some.injEq] at ho hh
      subst ho; subst hh
      refine ⟨tr, hr, ?_, e1⟩
      show Stp P TT all tr ks o hd s (κ 0)
      rw [e2]; exact hst
    | succ p => exact hp p o' h' (by simpa using ho) (by simpa using hh)
end

/-! ### What is done so far, whatever was picked -/

def sg (D : Nat → Option Tmp) (S : Nat → SV) (E : Nat → Bool) (ts : List SV) (m : Nat) : Nat → List SV
  | 0 => ts
  | k + 1 => if E (m + k) = true then putT (D (m + k)) (S (m + k)) (sg D S E ts m k) else sg D S E ts m k

section
variable {D : Nat → Option Tmp} {S : Nat → SV} {E : Nat → Bool} {ts : List SV} {m : Nat}
theorem sg_length (k : Nat) : (sg D S E ts m k).length = ts.length := by
  induction k with
  | zero => rfl
  | succ k ih => unfold sg; split <;> simp [putT_length, ih]
theorem sg_off (k t : Nat) (h : ∀ i, m ≤ i → i < m + k → E i = true → D i ≠ some t) : (sg D S E ts m k)[t]? = ts[t]? := by
  induction k with
  | zero => rfl
  | succ k ih =>
    have ih := ih (fun i a b => h i a (by omega))
    unfold sg
    split
    · rename_i he
      rw [putT_get, if_neg (fun hc => h (m + k) (by omega) (by omega) he hc.1), ih]
    · exact ih
theorem sg_on (k t i : Nat) (h1 : m ≤ i) (h2 : i < m + k) (he : E i = true) (hd : D i = some t) (ht : t < ts.length) (hu : ∀ i', m ≤ i' → i' < m + k → D i' = some t → i' = i) : (sg D S E ts m k)[t]? = some (S i) := by
  induction k with
  | zero => omega
  | succ k ih =>
    unfold sg
    by_cases hk : i = m + k
    · subst hk
      rw [if_pos he, putT_get, if_pos ⟨hd, by rw [sg_length]; exact ht⟩]
    · have ih := ih (by omega) (fun i' a b => hu i' a (by omega))
      split
      · rw [putT_get, if_neg (fun hc => hk (hu (m + k) (by omega) (by omega) hc.1).symm), ih]
      · exact ih
theorem sg_set {E' : Nat → Bool} (k j : Nat) (h1 : m ≤ j) (h2 : j < m + k) (he : E j = false) (hE : ∀ i, E' i = (E i || decide (i = j))) (hu : ∀ i i' t, m ≤ i → i < m + k → m ≤ i' → i' < m + k → D i = some t → D i' = some t → i = i') :
    sg D S E' ts m k = putT (D j) (S j) (sg D S E ts m k) := by
  refine List.ext_getElem? fun t => ?_
  rw [putT_get, sg_length]
  split
  · rename_i hc
    exact sg_on k t j h1 h2 (by rw [hE]; simp) hc.1 hc.2 (fun i' a b c => hu _ _ t a b h1 h2 c hc.1)
  · rename_i hc
    by_cases hw : ∃ i, m ≤ i ∧ i < m + k ∧ E i = true ∧ D i = some t
    · obtain ⟨i, a, b, c, d⟩ := hw
      by_cases ht : t < ts.length
      · rw [sg_on k t i a b (by rw [hE, c]; rfl) d ht (fun i' a' b' c' => hu _ _ t a' b' a b c' d), sg_on k t i a b c d ht (fun i' a' b' c' => hu _ _ t a' b' a b c' d)]
      · rw [List.getElem?_eq_none (by rw [sg_length]; omega), List.getElem?_eq_none (by rw [sg_length]; omega)]
    · have hw : ∀ i, m ≤ i → i < m + k → E i = true → D i ≠ some t := fun i a b c d => hw ⟨i, a, b, c, d⟩
      rw [sg_off k t hw]
      by_cases hj : D j = some t
      · have ht : ¬ t < ts.length := fun h => hc ⟨hj, h⟩
        rw [List.getElem?_eq_none (by rw [sg_length]; omega), List.getElem?_eq_none (by omega)]
      · refine sg_off k t (fun i a b c => ?_)
        rw [hE] at c
        by_cases hij : i = j
        · rw [hij]; exact hj
        · exact hw i a b (by simpa [hij] using c)
end

/-! ### What the check says -/

/-- Number j waits for number i. -/
inductive Wt (all : List Oper) : Nat → Nat → Prop where
  | edge {j i : Nat} {o : Oper} {e : Edge} : all[j]? = some o → e ∈ o.after → Region.binds .any e = true → e.on = i → Wt all j i
  | trans {j k i : Nat} : Wt all j k → Wt all k i → Wt all j i

structure DrawOk (all : List Oper) (hs : List Bool) : Prop where
  len : hs.length = all.length
  on : ∀ (j : Nat) (o : Oper) (e : Edge), all[j]? = some o → e ∈ o.after → Region.binds .any e = true → e.on < j
  past : ∀ (h j : Nat), hs[h]? = some true → h < j → j < all.length → Wt all j h
  first : ∀ (h i : Nat), hs[h]? = some true → i < h → Wt all h i
  pair : ∀ (i j : Nat) (x y : Oper), i < j → all[i]? = some x → all[j]? = some y → hs[j]? = some false → (∀ h, i ≤ h → h < j → hs[h]? = some false) →
    sameDst x.dst y.dst = false ∧ (Wt all j i ∨ apart all x y = true)

theorem covers_bit {m mask i : Nat} (h : covers m mask = true) (hi : i < m) : mask.testBit i = true := by
  unfold covers at h
  have h := Nat.eq_of_beq_eq_true h
  have h1 : (2 ^ m - 1).testBit i = true := by simp [hi]
  have h2 : (mask &&& (2 ^ m - 1)).testBit i = true := by
    show (Nat.land mask (2 ^ m - 1)).testBit i = true
    rw [h]; exact h1
  rw [Nat.testBit_and] at h2
  simp only [Bool.and_eq_true] at h2
  exact h2.1
theorem forceK_eq {α : Sort 1} (n : Nat) (k : Nat → α) : forceK n k = k n := by cases n <;> rfl
theorem getN_eq (l : List Nat) (i : Nat) : getN l i = (l[i]?).getD 0 := by
  induction l generalizing i with
  | nil => rfl
  | cons a l ih => cases i with
    | zero => rfl
    | succ i => simp [getN, ih]

/-- The bits of what goes ahead tell the truth. -/
def BefOk (all : List Oper) (acc : List Nat) (i : Nat) : Prop := acc.length = i ∧ ∀ (j b : Nat), j < i → (getN acc (i - 1 - j)).testBit b = true → Wt all j b

theorem befOf_ok {all : List Oper} {acc : List Nat} {i : Nat} {o : Oper} (hb : BefOk all acc i) (ho : all[i]? = some o) : ∀ (es : List Edge), (∀ e ∈ es, e ∈ o.after) → onLt i es = true → ∀ b, (befOf acc i es).testBit b = true → Wt all i b := by
  intro es
  induction es with
  | nil => intro _ _ b h; simp [befOf] at h
  | cons e es ih =>
    intro hes hon b h
    unfold befOf at h
    unfold onLt at hon
    cases hbd : Region.binds .any e with
    | false => rw [hbd] at h hon; exact ih (fun x hx => hes x (by simp [hx])) hon b h
    | true =>
      rw [hbd] at h hon
      simp only at h hon
      split at hon
      · rename_i hlt
        have hlt : e.on < i := Nat.le_of_ble_eq_true hlt
        have hE : Wt all i e.on := .edge ho (hes e (by simp)) hbd rfl
        change ((Nat.shiftLeft 1 e.on ||| getN acc (i - 1 - e.on)) ||| befOf acc i es).testBit b = true at h
        rw [Nat.testBit_or, Nat.testBit_or] at h
        simp only [Bool.or_eq_true] at h
        rcases h with (h | h) | h
        · have : (1 <<< e.on).testBit b = true := h
          rw [Nat.testBit_shiftLeft] at this
          simp only [Bool.and_eq_true, decide_eq_true_eq] at this
          have h2 : b - e.on = 0 := by
            have := this.2
            rw [Nat.testBit_one_eq_true_iff_self_eq_zero] at this
            exact this
          have : b = e.on := by omega
          rw [this]; exact hE
        · exact hE.trans (hb.2 e.on b hlt h)
        · exact ih (fun x hx => hes x (by simp [hx])) hon b h
      · cases hon

theorem onLt_ok {i : Nat} : ∀ {es : List Edge}, onLt i es = true → ∀ e ∈ es, Region.binds .any e = true → e.on < i := by
  intro es
  induction es with
  | nil => intro _ e he; cases he
  | cons x es ih =>
    intro hon e he hb
    unfold onLt at hon
    rcases List.mem_cons.1 he with rfl | he
    · rw [hb] at hon
      simp only at hon
      split at hon
      · rename_i hlt; exact Nat.le_of_ble_eq_true hlt
      · cases hon
    · split at hon
      · split at hon
        · exact ih hon e he hb
        · cases hon
      · exact ih hon e he hb

theorem pairsOk_ok {all : List Oper} {mask : Nat} {y : Oper} : ∀ {seg : List (Nat × Oper)}, pairsOk all mask y seg = true → ∀ p ∈ seg, sameDst p.2.dst y.dst = false ∧ (mask.testBit p.1 = true ∨ apart all p.2 y = true) := by
  intro seg
  induction seg with
  | nil => intro _ p hp; cases hp
  | cons q seg ih =>
    intro h p hp
    unfold pairsOk at h
    split at h
    · rename_i hq
      rcases List.mem_cons.1 hp with rfl | hp
      · unfold pairOk at hq
        split at hq
        · cases hq
        · rename_i hd
          split at hq
          · rename_i hb; exact ⟨hd, .inl hb⟩
          · exact ⟨hd, .inr hq⟩
      · exact ih h p hp
    · cases h

theorem drawGo_ok {all : List Oper} {hsAll : List Bool} : ∀ (os : List Oper) (hs : List Bool) (acc : List Nat) (i m : Nat) (seg : List (Nat × Oper)), drawGo all os hs acc i m seg = true → all.drop i = os → hsAll.drop i = hs → i ≤ all.length → i ≤ hsAll.length → BefOk all acc i → m ≤ i →
    (∀ h, m ≤ h → h < i → hsAll[h]? = some false) → (m = 0 ∨ hsAll[m - 1]? = some true) → (∀ (j : Nat) (o : Oper), m ≤ j → j < i → all[j]? = some o → (j, o) ∈ seg) →
    hsAll.length = all.length ∧ (∀ (j : Nat), i ≤ j → ∀ (o : Oper) (e : Edge), all[j]? = some o → e ∈ o.after → Region.binds .any e = true → e.on < j) ∧
    (∀ (h j : Nat), hsAll[h]? = some true → h < j → i ≤ j → j < all.length → Wt all j h) ∧ (∀ (h k : Nat), i ≤ h → hsAll[h]? = some true → k < h → Wt all h k) ∧
    (∀ (k j : Nat) (x y : Oper), k < j → i ≤ j → all[k]? = some x → all[j]? = some y → hsAll[j]? = some false → (∀ h, k ≤ h → h < j → hsAll[h]? = some false) → sameDst x.dst y.dst = false ∧ (Wt all j k ∨ apart all x y = true)) := by
  intro os
  induction os with
  | nil =>
    intro hs acc i m seg h hos hhs hi hi' hb hm hseg0 hm0 hseg
    cases hs with
    | cons => simp [drawGo] at h
    | nil =>
      have e1 : all.length = i := by have := List.drop_eq_nil_iff.1 hos; omega
      have e2 : hsAll.length = i := by have := List.drop_eq_nil_iff.1 hhs; omega
      refine ⟨by omega, fun j hj o e ho => ?_, fun h j _ _ hj hl => by omega, fun h k hh hk => ?_, fun k j x y _ hj _ hy => ?_⟩
      · have := (List.getElem?_eq_some_iff.1 ho).1; omega
      · have := (List.getElem?_eq_some_iff.1 hk).1; omega
      · have := (List.getElem?_eq_some_iff.1 hy).1; omega
  | cons o os ih =>
    intro hs acc i m seg h hos hhs hi hi' hb hm hseg0 hm0 hseg
    cases hs with
    | nil => simp [drawGo] at h
    | cons hd hs =>
      have hil : i < all.length := by
        rcases Nat.lt_or_ge i all.length with h | h
        · exact h
        · rw [List.drop_eq_nil_of_le h] at hos; cases hos
      have hil' : i < hsAll.length := by
        rcases Nat.lt_or_ge i hsAll.length with h | h
        · exact h
        · rw [List.drop_eq_nil_of_le h] at hhs; cases hhs
      rw [List.drop_eq_getElem_cons hil] at hos
      rw [List.drop_eq_getElem_cons hil'] at hhs
      obtain ⟨ho, hos⟩ := List.cons.inj hos
      obtain ⟨hh, hhs⟩ := List.cons.inj hhs
      have ho : all[i]? = some o := by rw [List.getElem?_eq_getElem hil, ho]
      have hh : hsAll[i]? = some hd := by rw [List.getElem?_eq_getElem hil', hh]
      unfold drawGo at h
      rw [forceK_eq] at h
      split at h
      · rename_i hon hcov
        have hbits := befOf_ok hb ho o.after.toList (fun e he => by simpa using he) hon
        have hb' : BefOk all (befOf acc i o.after.toList :: acc) (i + 1) := by
          refine ⟨by simp [hb.1], fun j b hj ht => ?_⟩
          by_cases hji : j = i
          · subst hji; simp [getN] at ht; exact hbits b ht
          · have : i + 1 - 1 - j = (i - 1 - j) + 1 := by omega
            rw [this] at ht
            exact hb.2 j b (by omega) ht
        have hold : ∀ h, hsAll[h]? = some true → h < i → h < m := fun h hh hi => by
          rcases Nat.lt_or_ge h m with h' | h'
          · exact h'
          · rw [hseg0 h h' hi] at hh; cases hh
        have base : ∀ j, j < m → Wt all i j := fun j hj => hbits j (covers_bit hcov hj)
        have key : ∀ (hd' : Bool) (m' : Nat) (seg' : List (Nat × Oper)), drawGo all os hs (befOf acc i o.after.toList :: acc) (i + 1) m' seg' = true → m' ≤ i + 1 → (∀ h, m' ≤ h → h < i + 1 → hsAll[h]? = some false) → (m' = 0 ∨ hsAll[m' - 1]? = some true) →
            (∀ (j : Nat) (o : Oper), m' ≤ j → j < i + 1 → all[j]? = some o → (j, o) ∈ seg') → (hd = true → ∀ k, k < i → Wt all i k) →
            (hd = false → ∀ (k : Nat) (x : Oper), m ≤ k → k < i → all[k]? = some x → sameDst x.dst o.dst = false ∧ (Wt all i k ∨ apart all x o = true)) →
            hsAll.length = all.length ∧ (∀ (j : Nat), i ≤ j → ∀ (o : Oper) (e : Edge), all[j]? = some o → e ∈ o.after → Region.binds .any e = true → e.on < j) ∧
            (∀ (h j : Nat), hsAll[h]? = some true → h < j → i ≤ j → j < all.length → Wt all j h) ∧ (∀ (h k : Nat), i ≤ h → hsAll[h]? = some true → k < h → Wt all h k) ∧
            (∀ (k j : Nat) (x y : Oper), k < j → i ≤ j → all[k]? = some x → all[j]? = some y → hsAll[j]? = some false → (∀ h, k ≤ h → h < j → hsAll[h]? = some false) → sameDst x.dst y.dst = false ∧ (Wt all j k ∨ apart all x y = true)) := by
          intro _ m' seg' hgo hm' hs0 hm0' hsg hfirst hpair
          obtain ⟨r1, r2, r3, r4, r5⟩ := ih hs _ (i + 1) m' seg' hgo hos hhs hil hil' hb' hm' hs0 hm0' hsg
          refine ⟨r1, fun j hj o' e ho' he hbd => ?_, fun h0 j hh' hlt hij hjl => ?_, fun h0 k hih hh' hk => ?_, fun k j x y hkj hij hx hy hj hno => ?_⟩
          · by_cases e1 : j = i
            · subst e1
              rw [ho] at ho'
              obtain rfl := Option.some.inj ho'
              exact onLt_ok hon e (by simpa using he) hbd
            · exact r2 j (by omega) o' e ho' he hbd
          · by_cases e1 : j = i
            · subst e1; exact base h0 (hold h0 hh' hlt)
            · exact r3 h0 j hh' hlt (by omega) hjl
          · by_cases e1 : h0 = i
            · subst e1
              rw [hh] at hh'
              exact hfirst (Option.some.inj hh') k hk
            · exact r4 h0 k (by omega) hh' hk
          · by_cases e1 : j = i
            · subst e1
              rw [ho] at hy
              obtain rfl := Option.some.inj hy
              rw [hh] at hj
              refine hpair (Option.some.inj hj) k x ?_ hkj hx
              rcases Nat.lt_or_ge k m with h' | h'
              · exfalso
                rcases hm0 with e | e
                · omega
                · rw [hno (m - 1) (by omega) (by omega)] at e; cases e
              · exact h'
            · exact r5 k j x y hkj (by omega) hx hy hj hno
        cases hd with
        | true =>
          simp only at h
          split at h
          · rename_i hci
            rw [forceK_eq] at h
            exact key true (i + 1) [] h (Nat.le_refl _) (fun h a b => by omega) (.inr hh) (fun j o a b => by omega) (fun _ k hk => hbits k (covers_bit hci hk)) (fun e => (by cases e))
          · cases h
        | false =>
          simp only at h
          split at h
          · rename_i hpo
            rw [forceK_eq] at h
            refine key false m _ h (by omega) (fun h a b => ?_) hm0 (fun j o' a b ho' => ?_) (fun e => (by cases e)) (fun _ k x hk hki hx => ?_)
            · by_cases e1 : h = i
              · subst e1; exact hh
              · exact hseg0 h a (by omega)
            · by_cases e1 : j = i
              · subst e1
                rw [ho] at ho'
                obtain rfl := Option.some.inj ho'
                exact List.mem_cons.2 (.inl rfl)
              · exact List.mem_cons.2 (.inr (hseg j o' a (by omega) ho'))
            · obtain ⟨h1, h2⟩ := pairsOk_ok hpo (k, x) (hseg k x hk hki hx)
              exact ⟨h1, h2.imp (hbits k) id⟩
          · cases h
      · cases h

theorem drawOk_ok {all : List Oper} {hs : List Bool} (h : drawOk all hs = true) : DrawOk all hs := by
  obtain ⟨r1, r2, r3, r4, r5⟩ := drawGo_ok (all := all) (hsAll := hs) all hs [] 0 0 [] h rfl rfl (Nat.zero_le _) (Nat.zero_le _) ⟨rfl, fun j b hj => by omega⟩ (Nat.le_refl _) (fun h a b => by omega) (.inl rfl) (fun j o a b => by omega)
  exact ⟨r1, fun j o e => r2 j (Nat.zero_le _) o e, fun h j a b c => r3 h j a b (Nat.zero_le _) c, fun h i a b => r4 h i (Nat.zero_le _) a b, fun i j x y a b c d e => r5 i j x y a (Nat.zero_le _) b c d e⟩


/-! ### Any order -/

theorem Sat.ref {B : Bs} {w : World} {β : Env} {fp : Nat → Nat → Prop} {ts ts' : List SV} {ks : List KB} {a : Act} (h : Sat B w β fp ts ks a) (hr : Ref ts ts') : Sat B w β fp ts' ks a :=
  ⟨h.went, h.df, h.len.trans hr.1, fun t s v hs hv => by
    obtain ⟨s0, e, r⟩ := hr.2 t s hs
    exact r.den (h.tm t s0 v e hv)⟩
/-- Blocks that will be known. -/
theorem Sat.moreTo {B : Bs} {w : World} {β : Env} {fp : Nat → Nat → Prop} {ts : List SV} {ks : List KB} {a : Act} (h : Sat B w β fp ts ks a) (l : List KB) (hl : ∀ k ∈ l, isArena k = false) : Sat B w β fp ts (ks ++ l) a := by
  have hm := h.went.mem
  refine ⟨⟨⟨⟨hm.xa, hm.xb, hm.dis, hm.kw, hm.kn, fun i L k hk hne hL => ?_⟩, fun i hi => hm.kl i (by simp at hi; omega), fun i t dom cols hi => ?_⟩, h.went.st, h.went.ext, h.went.own⟩, h.df, h.len, h.tm⟩
  · by_cases hi : i < ks.length
    · rw [List.getElem?_append_left hi] at hk
      exact hm.kb i L k hk hne hL
    · rw [hm.kl i (by omega)] at hL
      cases hL
  · by_cases hi' : i < ks.length
    · rw [List.getElem?_append_left hi'] at hi
      exact hm.ka i t dom cols hi
    · rw [List.getElem?_append_right (by omega)] at hi
      have := hl _ (List.mem_of_getElem? hi)
      simp [isArena] at this

/-- One that is laid now. -/
theorem Mem.fill {X : Nat → Prop} {w w1 : World} {β : Env} {fp : Nat → Nat → Prop} {ks : List KB} (h : Mem X w β fp ks) (h1 : Step (fun _ => False) w w1) (hsz : w1.heap.size = w.heap.size) {i : Nat} {k : KB} (hn : β i = none) (hki : ks[i]? = some k) (o : Obj) (L : Loc) (hL : L.b = w.heap.size)
    (hk : ∀ (M' : Nat → Prop) (β' : Env), (∀ b, b < w.heap.size → M' b → Mx X fp b) → Ext β β' → KBat (w1.alloc o) M' β' L (· = w.heap.size) k) : Went X w β fp (w1.alloc o) (upd β i (some L)) (updP fp i (· = w.heap.size)) ks := by
  have hil : i < ks.length := (List.getElem?_eq_some_iff.1 hki).1
  have hfi : ∀ b, ¬ fp i b := fun b hb => by obtain ⟨L', hL'⟩ := h.kn i b hb; rw [hn] at hL'; cases hL'
  have hst : Step (fun b => ∃ i, fp i b) w (w1.alloc o) := (h1.mono (fun _ _ e => e.elim)).trans (Step.alloc _ w1 o)
  refine h.go hst (ext_upd L hn) (fun j b hb => ?_) (fun p q b hp hq => ?_) (fun j b hb => ?_) (fun j hj => ?_) (fun j t dom cols hj => ?_) (fun j b hb => ?_) (fun j L' k' hk' hne hL' => ?_)
  · by_cases e : j = i
    · subst e; rw [updP_same] at hb; exact .inr (by omega)
    · rw [updP_other _ _ e] at hb; exact .inl ⟨j, hb⟩
  · by_cases e1 : p = i <;> by_cases e2 : q = i
    · omega
    · subst e1; rw [updP_same] at hp; rw [updP_other _ _ e2] at hq; have := h.kw q b hq; omega
    · subst e2; rw [updP_same] at hq; rw [updP_other _ _ e1] at hp; have := h.kw p b hp; omega
    · rw [updP_other _ _ e1] at hp; rw [updP_other _ _ e2] at hq; exact h.dis p q b hp hq
  · by_cases e : j = i
    · subst e; rw [updP_same] at hb; subst hb; simp [hsz]
    · rw [updP_other _ _ e] at hb; have := h.kw j b hb; simp [hsz]; omega
  · rw [upd_other _ _ (show j ≠ i by omega)]; exact h.kl j hj
  · obtain ⟨L', hL'⟩ := h.ka j t dom cols hj
    exact ⟨L', ext_upd L hn j L' hL'⟩
  · by_cases e : j = i
    · subst e; exact ⟨L, upd_same _ _ _⟩
    · rw [updP_other _ _ e] at hb; rw [upd_other _ _ e]; exact h.kn j b hb
  · by_cases e : j = i
    · subst e
      rw [upd_same] at hL'
      cases hL'
      rw [hki] at hk'
      cases hk'
      rw [updP_same]
      exact .inr (hk _ _ (fun b hb hm => hm.imp id (fun ⟨q, hq⟩ => by
        by_cases e : q = j
        · subst e; rw [updP_same] at hq; omega
        · rw [updP_other _ _ e] at hq; exact ⟨q, hq⟩)) (ext_upd L hn))
    · rw [upd_other _ _ e] at hL'
      exact .inl ⟨hk', hL', updP_other _ _ e, fun b hb => (Below.heap_alloc w1 o b (by rw [hsz]; exact h.kw j b hb)).trans (h1.block b (h.kw j b hb) (fun e => e))⟩

theorem cev_false {P : Program} {TT : Nat → Option TI} {ts : List SV} {ks k1 : List KB} {g : Operand} {args : List Operand} {tys : List TypeId} {s : SV} (h : cev P TT ts ks g args tys (fun h' x k => (h', x, k) = (false, s, k1))) : k1 = ks := by
  unfold cev at h
  rw [valK_eq] at h
  split at h
  · rw [valsK_eq, appK_eq] at h
    cases h with
    | data r h1 h2 h3 h4 => exact ((Prod.mk.inj (Prod.mk.inj h4).2).2).symm
    | view r as' fr h1 h2 h3 h4 h5 => exact ((Prod.mk.inj (Prod.mk.inj h5).2).2).symm
    | frz r as' fr h1 h2 h3 h4 h5 => cases (Prod.mk.inj h5).1
    | mem r ks' h1 h2 => cases (Prod.mk.inj h2).1
  · exact h.elim

/-- One operation carried out, in a state that fits. -/
theorem stp_sound {P : Program} {TT : Nat → Option TI} {B : Bs} {w : World} {β : Env} {fp : Nat → Nat → Prop} {ts : List SV} {ks : List KB} {a : Act} {rd : Option Nat} {n : Nat} {Q : Exit → Act → World → Prop} (hTT : TTok P TT) {all : List Oper} {o : Oper} {i : Nat} {h : Bool} {s : SV} {k1 : List KB} (hst : Stp P TT all ts ks o h s k1) (hi : all.toArray[i]? = some o) {next : Act → World → Prop} (hS : Sat B w β fp ts ks a)
    (hn : ∀ v w' β' fp', Sat B w' β' fp' (putT o.dst s ts) k1 (a.put o.dst v) → next (a.put o.dst v) w') : wpOpIn (wideF rd) n P all.toArray Q i next a w := by
  unfold wpOpIn
  cases hst with
  | ev hg hev =>
    have hw := wanted_of (all := all) hS.slot hg
    simp only [hi, hw, if_true]
    exact evs_sound hTT hev hS.went.mem hS.val (fun v w' β' fp' hW hd => hn v w' β' fp' ((hS.on hW).put _ hd))
  | skip hg =>
    have hw := wanted_of (all := all) hS.slot hg
    simp only [hi, hw, Bool.false_eq_true, if_false]
    exact ⟨fun _ _ => trivial, hn _ w β fp (hS.put _ (.v _))⟩

section
variable {P : Program} {TT : Nat → Option TI} {B : Bs} {rd : Option Nat} {n : Nat} {Q : Exit → Act → World → Prop}
  {all : List Oper} {hs : List Bool} {S : Nat → SV} {T : Nat → List SV} {κ : Nat → List KB}

def Way (P : Program) (TT : Nat → Option TI) (all : List Oper) (hs : List Bool) (S : Nat → SV) (T : Nat → List SV) (κ : Nat → List KB) : Prop :=
  ∀ (p : Nat) (o : Oper) (h : Bool), all[p]? = some o → hs[p]? = some h → ∃ tr, Ref (T p) tr ∧ Stp P TT all tr (κ p) o h (S p) (κ (p + 1)) ∧ T (p + 1) = putT o.dst (S p) tr

def dst (all : List Oper) (i : Nat) : Option Tmp := (all[i]?).bind (·.dst)

/-- Where it stands: the stretch from m to h, of which some are done. -/
structure Inv (B : Bs) (all : List Oper) (hs : List Bool) (S : Nat → SV) (T : Nat → List SV) (κ : Nat → List KB) (m h : Nat) (listed : Array Bool) (a : Act) (w : World) : Prop where
  sz : listed.size = all.length
  low : ∀ i, i < m → listed.getD i false = true
  mh : m ≤ h
  hN : h ≤ all.length
  soft : ∀ i, m ≤ i → i < h → hs[i]? = some false
  stop : h = all.length ∨ hs[h]? = some true
  high : ∀ i, h ≤ i → listed.getD i false = false
  cl : ∀ (j : Nat) (o : Oper) (e : Edge), all[j]? = some o → listed.getD j false = true → e ∈ o.after → Region.binds .any e = true → listed.getD e.on false = true
  st : ∃ β fp, Sat B w β fp (sg (dst all) S (fun i => listed.getD i false) (T m) m (h - m)) (κ h) a ∧ ∀ j, m ≤ j → j < h → listed.getD j false = false → ∀ p, (κ j).length ≤ p → p < (κ (j + 1)).length → β p = none

theorem Stp.adds {ts : List SV} {ks k1 : List KB} {o : Oper} {s : SV} (h : Stp P TT all ts ks o false s k1) : ∃ l, k1 = ks ++ l ∧ l.length ≤ 1 ∧ ∀ k ∈ l, isArena k = false := by
  generalize hnot : (fun k : KB => isArena k = false) = NA
  show ∃ l, k1 = ks ++ l ∧ l.length ≤ 1 ∧ ∀ k ∈ l, (fun k : KB => isArena k = false) k
  rw [hnot]
  generalize hb : false = b at h
  cases h with
  | skip => exact ⟨[], by simp⟩
  | ev hg hev =>
    cases hev with
    | pure => exact ⟨[], by simp⟩
    | mem _ _ hc hm hev =>
      have hf : isFresh o.op = true := by
        unfold hardOf at hb
        split at hb
        · assumption
        · cases hb
      obtain ⟨k, rfl, hk⟩ := fresh_next hf hev
      exact ⟨[k], rfl, by simp, fun k' hk' => by rw [← hnot]; simp at hk'; subst hk'; exact hk⟩
    | call g args tys _ _ _ ho hev =>
      subst hb
      exact ⟨[], by rw [cev_false hev]; simp, by simp, by simp⟩

theorem way_adds (hw : Way P TT all hs S T κ) (hl : hs.length = all.length) {m h : Nat} (hN : h ≤ all.length) (soft : ∀ i, m ≤ i → i < h → hs[i]? = some false) : ∀ k j, m ≤ j → j + k ≤ h → ∃ l, κ (j + k) = κ j ++ l ∧ ∀ k ∈ l, isArena k = false := by
  intro k
  induction k with
  | zero => intro j _ _; exact ⟨[], by simp, by simp⟩
  | succ k ih =>
    intro j hj hk
    obtain ⟨l, hl', hna⟩ := ih j hj (by omega)
    have hlt : j + k < all.length := by omega
    obtain ⟨tr, _, hst, _⟩ := hw (j + k) _ false (List.getElem?_eq_getElem hlt) (soft (j + k) (by omega) (by omega))
    obtain ⟨l2, e2, _, hnb⟩ := hst.adds
    exact ⟨l ++ l2, by rw [← Nat.add_assoc, e2, hl']; simp, fun k hk => (List.mem_append.1 hk).elim (hna k) (hnb k)⟩

theorem way_ref (hw : Way P TT all hs S T κ) (hl : hs.length = all.length) (m : Nat) : ∀ k, m + k ≤ all.length → Ref (sg (dst all) S (fun _ => true) (T m) m k) (T (m + k)) := by
  intro k
  induction k with
  | zero => intro _; exact Ref.refl _
  | succ k ih =>
    intro hk
    have hlt : m + k < all.length := by omega
    obtain ⟨tr, hr, _, e⟩ := hw (m + k) _ _ (List.getElem?_eq_getElem hlt) (List.getElem?_eq_getElem (by omega))
    rw [← Nat.add_assoc, e]
    have : dst all (m + k) = all[m + k].dst := by simp [dst, hlt]
    simp only [sg, if_true, this]
    exact ((ih (by omega)).trans hr).put _ _

theorem sg_congr {D : Nat → Option Tmp} {S : Nat → SV} {E E' : Nat → Bool} {ts : List SV} {m : Nat} : ∀ k, (∀ i, m ≤ i → i < m + k → E i = E' i) → sg D S E ts m k = sg D S E' ts m k := by
  intro k
  induction k with
  | zero => intro _; rfl
  | succ k ih =>
    intro h
    simp only [sg, h (m + k) (by omega) (by omega), ih (fun i a b => h i a (by omega))]
theorem sg_none {D : Nat → Option Tmp} {S : Nat → SV} {E : Nat → Bool} {ts : List SV} {m : Nat} : ∀ k, (∀ i, m ≤ i → i < m + k → E i = false) → sg D S E ts m k = ts := by
  intro k
  induction k with
  | zero => intro _; rfl
  | succ k ih =>
    intro h
    simp [sg, h (m + k) (by omega) (by omega), ih (fun i a b => h i a (by omega))]

theorem segEnd (hl : hs.length = all.length) : ∀ (k m : Nat), m + k = all.length → ∃ h, m ≤ h ∧ h ≤ all.length ∧ (∀ i, m ≤ i → i < h → hs[i]? = some false) ∧ (h = all.length ∨ hs[h]? = some true) := by
  intro k
  induction k with
  | zero => intro m hm; exact ⟨m, Nat.le_refl _, by omega, fun i a b => by omega, .inl (by omega)⟩
  | succ k ih =>
    intro m hm
    have hlt : m < hs.length := by omega
    cases hb : hs[m]'hlt with
    | true => exact ⟨m, Nat.le_refl _, by omega, fun i a b => by omega, .inr (by rw [List.getElem?_eq_getElem hlt, hb])⟩
    | false =>
      obtain ⟨h, a, b, c, d⟩ := ih (m + 1) (by omega)
      refine ⟨h, by omega, b, fun i hi hi' => ?_, d⟩
      by_cases e : i = m
      · subst e; rw [List.getElem?_eq_getElem hlt, hb]
      · exact c i (by omega) hi'

theorem Inv.start (hw : Way P TT all hs S T κ) (hdr : DrawOk all hs) {m : Nat} (hm : m ≤ all.length) {listed : Array Bool} (hsz : listed.size = all.length) (hE : ∀ i, i < all.length → (listed.getD i false = true ↔ i < m)) {a : Act} {w : World} {β : Env} {fp : Nat → Nat → Prop}
    (hS : Sat B w β fp (T m) (κ m) a) : ∃ h, Inv B all hs S T κ m h listed a w := by
  obtain ⟨h, h1, h2, h3, h4⟩ := segEnd hdr.len (all.length - m) m (by omega)
  have hF : ∀ i, m ≤ i → listed.getD i false = false := fun i hi => by
    by_cases hil : i < all.length
    · cases hb : listed.getD i false with
      | false => rfl
      | true => have := (hE i hil).1 hb; omega
    · simp [Array.getD, hsz, hil]
  obtain ⟨l, hl, hla⟩ := way_adds hw hdr.len h2 h3 (h - m) m (Nat.le_refl _) (by omega)
  rw [show m + (h - m) = h from by omega] at hl
  have hn : ∀ p, (κ m).length ≤ p → β p = none := hS.went.mem.kl
  have hS' := hS.moreTo l hla
  rw [← hl] at hS'
  refine ⟨h, hsz, fun i hi => (hE i (by omega)).2 hi, h1, h2, h3, h4, fun i hi => hF i (by omega), fun j o e hj hEj he hb => ?_, ⟨β, fp, ?_, fun j hj hjh hEj p hp hp' => ?_⟩⟩
  · have hjl : j < all.length := (List.getElem?_eq_some_iff.1 hj).1
    have := (hE j hjl).1 hEj
    have := hdr.on j o e hj he hb
    exact (hE e.on (by omega)).2 (by omega)
  · rw [sg_none _ (fun i a _ => hF i a)]; exact hS'
  · obtain ⟨l1, e1, _⟩ := way_adds hw hdr.len h2 h3 (j - m) m (Nat.le_refl _) (by omega)
    obtain ⟨l2, e2, _⟩ := way_adds hw hdr.len h2 h3 (h - (j + 1)) (j + 1) (by omega) (by omega)
    rw [show m + (j - m) = j from by omega] at e1
    rw [show j + 1 + (h - (j + 1)) = h from by omega] at e2
    exact hn p (by rw [e1] at hp; simp at hp; omega)

theorem wt_listed {listed : Array Bool} (cl : ∀ (j : Nat) (o : Oper) (e : Edge), all[j]? = some o → listed.getD j false = true → e ∈ o.after → Region.binds .any e = true → listed.getD e.on false = true) {j i : Nat} (h : Wt all j i) :
    (∀ o e, all[j]? = some o → e ∈ o.after → Region.binds .any e = true → listed.getD e.on false = true) → listed.getD i false = true := by
  have hc : ∀ {j i}, Wt all j i → listed.getD j false = true → listed.getD i false = true := fun {j i} h => by
    induction h with
    | edge ho he hb hi => intro hj; exact hi ▸ cl _ _ _ ho hj he hb
    | trans _ _ ih1 ih2 => intro hj; exact ih2 (ih1 hj)
  induction h with
  | edge ho he hb hi => intro hr; exact hi ▸ hr _ _ ho he hb
  | trans h1 h2 ih1 _ => intro hr; exact hc h2 (ih1 hr)
theorem wt_closed {listed : Array Bool} (cl : ∀ (j : Nat) (o : Oper) (e : Edge), all[j]? = some o → listed.getD j false = true → e ∈ o.after → Region.binds .any e = true → listed.getD e.on false = true) {j i : Nat} (h : Wt all j i) (hj : listed.getD j false = true) : listed.getD i false = true :=
  wt_listed cl h (fun o e ho he hb => cl j o e ho hj he hb)

theorem offDst_look {d : Option Tmp} {l : List Nat} {t : Nat} (h : offDst d l = true) (hd : d = some t) (ht : memN t l = true) : False := by
  subst hd
  simp [offDst, ht] at h

/-- The slots that the next operation looks at are as they are in the order of the text. -/
theorem Inv.slots {m h j : Nat} {listed : Array Bool} {a : Act} {w : World} (hw : Way P TT all hs S T κ) (hdr : DrawOk all hs) (hI : Inv B all hs S T κ m h listed a w) {o : Oper} (ho : all[j]? = some o) (hmj : m ≤ j) (hjh : j < h) (hEj : listed.getD j false = false)
    (hrd : ∀ e ∈ o.after, Region.binds .any e = true → listed.getD e.on false = true) {tr : List SV} (hr : Ref (T j) tr) {t : Nat} (ht : memN t (looks all o) = true) {s' : SV} (hs' : tr[t]? = some s') :
    ∃ s, (sg (dst all) S (fun i => listed.getD i false) (T m) m (h - m))[t]? = some s ∧ RefV s s' := by
  have hjN : j < all.length := (List.getElem?_eq_some_iff.1 ho).1
  have hWj : ∀ i, Wt all j i → listed.getD i false = true := fun i hi => wt_listed hI.cl hi (fun o' e ho' he hb => by
    rw [ho] at ho'; obtain rfl := Option.some.inj ho'; exact hrd e he hb)
  have h1 := (way_ref hw hdr.len m (j - m) (by omega)).trans (by rw [show m + (j - m) = j from by omega]; exact hr)
  obtain ⟨s, hs1, hrv⟩ := h1.2 t s' hs'
  have htl : t < (T m).length := by
    have := (List.getElem?_eq_some_iff.1 hs1).1
    rwa [sg_length] at this
  refine ⟨s, ?_, hrv⟩
  have uniq : ∀ i i', m ≤ i → i < h → m ≤ i' → i' < h → dst all i = some t → dst all i' = some t → i = i' := by
    have one : ∀ i i', m ≤ i → i < i' → i' < h → dst all i = some t → dst all i' = some t → False := fun i i' a b c d e => by
      have hi' : i' < all.length := by have := hI.hN; omega
      have := (hdr.pair i i' _ _ b (List.getElem?_eq_getElem (by omega)) (List.getElem?_eq_getElem hi') (hI.soft i' (by omega) c) (fun q hq hq' => hI.soft q (by omega) (by omega))).1
      simp only [dst, List.getElem?_eq_getElem hi', List.getElem?_eq_getElem (show i < all.length by omega), Option.bind_some] at d e
      rw [d, e] at this
      simp [sameDst, Nat.beq_refl] at this
    intro i i' a b c d e f
    rcases Nat.lt_trichotomy i i' with h | h | h
    · exact (one i i' a h d e f).elim
    · exact h
    · exact (one i' i c h b f e).elim
  by_cases hex : ∃ i, m ≤ i ∧ i < h ∧ dst all i = some t
  · obtain ⟨i, a1, a2, a3⟩ := hex
    have hiN : i < all.length := by have := hI.hN; omega
    have hdi : all[i].dst = some t := by simpa [dst, hiN] using a3
    rcases Nat.lt_trichotomy i j with hij | hij | hij
    · -- written by one ahead
      have hp := (hdr.pair i j _ o hij (List.getElem?_eq_getElem hiN) ho (hI.soft j hmj hjh) (fun q hq hq' => hI.soft q (by omega) (by omega))).2
      have hEi : listed.getD i false = true := by
        rcases hp with hp | hp
        · exact hWj i hp
        · exfalso
          unfold apart at hp
          split at hp
          · rename_i hoff; exact offDst_look hoff hdi ht
          · cases hp
      rw [sg_on (j - m) t i a1 (by omega) rfl a3 htl (fun i' b1 b2 b3 => uniq i' i b1 (by omega) a1 a2 b3 a3)] at hs1
      rw [sg_on (h - m) t i a1 (by omega) hEi a3 htl (fun i' b1 b2 b3 => uniq i' i b1 (by omega) a1 a2 b3 a3)]
      exact hs1
    · subst hij
      rw [sg_off (i - m) t (fun i' b1 b2 _ b3 => by have := uniq i' i b1 (by omega) a1 a2 b3 a3; omega)] at hs1
      rw [sg_off (h - m) t (fun i' b1 b2 b4 b3 => by have := uniq i' i b1 (by omega) a1 a2 b3 a3; subst this; rw [hEj] at b4; cases b4)]
      exact hs1
    · have hp := (hdr.pair j i o _ hij ho (List.getElem?_eq_getElem hiN) (hI.soft i a1 a2) (fun q hq hq' => hI.soft q (by omega) (by omega))).2
      have hEi : listed.getD i false = false := by
        rcases hp with hp | hp
        · cases hb : listed.getD i false with
          | false => rfl
          | true => have := wt_closed hI.cl hp hb; rw [hEj] at this; cases this
        · exfalso
          unfold apart at hp
          split at hp
          · exact offDst_look hp hdi ht
          · cases hp
      rw [sg_off (j - m) t (fun i' b1 b2 _ b3 => by have := uniq i' i b1 (by omega) a1 a2 b3 a3; omega)] at hs1
      rw [sg_off (h - m) t (fun i' b1 b2 b4 b3 => by have := uniq i' i b1 (by omega) a1 a2 b3 a3; subst this; rw [hEi] at b4; cases b4)]
      exact hs1
  · rw [sg_off (j - m) t (fun i' b1 b2 _ b3 => hex ⟨i', b1, by omega, b3⟩)] at hs1
    rw [sg_off (h - m) t (fun i' b1 b2 _ b3 => hex ⟨i', b1, by omega, b3⟩)]
    exact hs1

theorem getD_set (l : Array Bool) (j i : Nat) (hj : j < l.size) : (l.setIfInBounds j true).getD i false = (l.getD i false || decide (i = j)) := by
  simp only [Array.getD_eq_getD_getElem?, Array.getElem?_setIfInBounds]
  by_cases e : j = i
  · subst e; simp [hj]
  · rw [if_neg e]; simp [Ne.symm e]

/-- One operation of the stretch, done when it is picked. -/
theorem Inv.next {m h j : Nat} {listed : Array Bool} {a : Act} {w : World} (hTT : TTok P TT) (hw : Way P TT all hs S T κ) (hdr : DrawOk all hs) (hI : Inv B all hs S T κ m h listed a w) {o : Oper} (ho : all[j]? = some o) (hmj : m ≤ j) (hjh : j < h) (hEj : listed.getD j false = false)
    (hrd : ∀ e ∈ o.after, Region.binds .any e = true → listed.getD e.on false = true) {K : Act → World → Prop} (hK : ∀ a' w', Inv B all hs S T κ m h (listed.setIfInBounds j true) a' w' → K a' w') : wpOpIn (wideF rd) n P all.toArray Q j K a w := by
  have hjN : j < all.length := (List.getElem?_eq_some_iff.1 ho).1
  have hjs : j < listed.size := by rw [hI.sz]; exact hjN
  have hsj := hI.soft j hmj hjh
  obtain ⟨tr, hr, hst, hT⟩ := hw j o false ho hsj
  obtain ⟨β, fp, hS, hnone⟩ := hI.st
  have hdj : dst all j = o.dst := by simp [dst, ho]
  -- the masked state
  have slot : ∀ t, Den w (Mx B.X fp) β (getT (mask (looks all o) tr) t) (a.tmps.getD t undef) := fun t => by
    rw [mask_get]
    split
    · rename_i ht
      rw [getT_eq]
      cases hs' : tr[t]? with
      | none => exact .any _
      | some s' =>
        obtain ⟨s, e, hrv⟩ := hI.slots hw hdr ho hmj hjh hEj hrd hr ht hs'
        have := hS.val (.tmp t)
        simp only [Go.Eng.val, Act.eval, getT_eq, e] at this
        exact hrv.den this
    · exact .any _
  have hval : ∀ x, Den w (Mx B.X fp) β (val (mask (looks all o) tr) x) (a.eval x) := fun x => by
    cases x with
    | tmp t => exact slot t
    | _ =>
      have := hS.val
      first | exact this (.const _) | exact this (.func _) | exact this (.global _)
  have hk : ∀ (i : Nat) (k : KB), (κ j)[i]? = some k → (κ h)[i]? = some k := fun i k hk => by
    obtain ⟨l, e, _⟩ := way_adds hw hdr.len hI.hN hI.soft (h - j) j hmj (by omega)
    rw [show j + (h - j) = h from by omega] at e
    rw [e, List.getElem?_append_left (List.getElem?_eq_some_iff.1 hk).1]; exact hk
  have hM0 : Mem0 B.X w β fp (κ j) := { hS.went.mem.toMem0 with kb := fun i L k hki hne hL => hS.went.mem.kb i L k (hk i k hki) hne hL }
  have hset : sg (dst all) S (fun i => (listed.setIfInBounds j true).getD i false) (T m) m (h - m) = putT o.dst (S j) (sg (dst all) S (fun i => listed.getD i false) (T m) m (h - m)) := by
    rw [← hdj]
    refine sg_set (h - m) j hmj (by omega) hEj (fun i => getD_set listed j i hjs) (fun i i' t a b c d e f => ?_)
    have one : ∀ i i', m ≤ i → i < i' → i' < h → dst all i = some t → dst all i' = some t → False := fun i i' a b c d e => by
      have hi' : i' < all.length := by have := hI.hN; omega
      have := (hdr.pair i i' _ _ b (List.getElem?_eq_getElem (by omega)) (List.getElem?_eq_getElem hi') (hI.soft i' (by omega) c) (fun q hq hq' => hI.soft q (by omega) (by omega))).1
      simp only [dst, List.getElem?_eq_getElem hi', List.getElem?_eq_getElem (show i < all.length by omega), Option.bind_some] at d e
      rw [d, e] at this
      simp [sameDst, Nat.beq_refl] at this
    rcases Nat.lt_trichotomy i i' with hh | hh | hh
    · exact (one i i' a hh (by omega) e f).elim
    · exact hh
    · exact (one i' i c hh (by omega) f e).elim
  have build : ∀ (v : Value) (w' : World) (β' : Env) (fp' : Nat → Nat → Prop), Went B.X w β fp w' β' fp' (κ h) → Den w' (Mx B.X fp') β' (S j) v →
      (∀ i, m ≤ i → i < h → i ≠ j → listed.getD i false = false → ∀ p, (κ i).length ≤ p → p < (κ (i + 1)).length → β' p = none) → Inv B all hs S T κ m h (listed.setIfInBounds j true) (a.put o.dst v) w' := by
    intro v w' β' fp' hW hd hn
    have hS' := hS.on hW
    refine ⟨by simp [hI.sz], fun i hi => by rw [getD_set _ _ _ hjs, hI.low i hi]; rfl, hI.mh, hI.hN, hI.soft, hI.stop, fun i hi => by rw [getD_set _ _ _ hjs, hI.high i hi]; simp; omega, fun i o' e ho' hi he hb => ?_, ⟨β', fp', ?_, fun i a1 a2 a3 => ?_⟩⟩
    · rw [getD_set _ _ _ hjs] at hi ⊢
      by_cases hij : i = j
      · subst hij
        rw [ho] at ho'
        obtain rfl := Option.some.inj ho'
        rw [hrd e he hb]; rfl
      · rw [hI.cl i o' e ho' (by simpa [hij] using hi) he hb]; rfl
    · rw [hset]; exact hS'.put _ hd
    · rw [getD_set _ _ _ hjs] at a3
      simp only [Bool.or_eq_false_iff, decide_eq_false_iff_not] at a3
      exact hn i a1 a2 a3.2 a3.1
  have hi : all.toArray[j]? = some o := by simpa using ho
  unfold wpOpIn
  generalize hb : false = b at hst
  generalize hk1 : κ (j + 1) = k1 at hst
  generalize hsj' : S j = sj at hst build
  cases hst with
  | skip hg =>
    have hw' := wanted_of (B := B) (β := β) (fp := fp) (w := w) (a := a) (all := all) (ts := mask (looks all o) tr) (fun t s hs _ => hs ▸ slot t) (mask_guard.trans hg)
    simp only [hi, hw', Bool.false_eq_true, if_false]
    exact ⟨fun _ _ => trivial, hK _ _ (build undef w β fp (Went.refl hS.went.mem) (.v _) (fun i a1 a2 _ a3 => hnone i a1 a2 a3))⟩
  | ev hg hev =>
    have hw' := wanted_of (B := B) (β := β) (fp := fp) (w := w) (a := a) (all := all) (ts := mask (looks all o) tr) (fun t s hs _ => hs ▸ slot t) (mask_guard.trans hg)
    simp only [hi, hw', if_true]
    cases hev with
    | pure _ hc hm hev =>
      rw [pev_agree (mask_val (all := all))] at hev
      obtain ⟨s', v, hK', hrun, hd⟩ := pev_sound hTT hev hval hM0.kb' hM0.apart
      subst hK'
      exact wpIn_of_run (nodefer_pev hev) hrun (hK _ _ (build v w β fp (Went.refl hS.went.mem) hd (fun i a1 a2 _ a3 => hnone i a1 a2 a3)))
    | call g args tys _ _ _ hop hev =>
      subst hb
      have hag : ∀ x ∈ (Op.call ⟨.value g, args, tys⟩).operands, val tr x = val (mask (looks all o) tr) x := fun x hx => mask_val (all := all) x (by rw [hop]; exact hx)
      rw [cev_agree hag] at hev
      refine cevFree_sound hTT hop hev (fun s k e => by cases (Prod.mk.inj e).1) hM0 hval (fun s k v w' hs' hst hden => ?_)
      obtain ⟨_, he⟩ := Prod.mk.inj hs'
      obtain ⟨rfl, rfl⟩ := Prod.mk.inj he
      exact hK _ _ (build v w' β fp (hS.went.mem.quiet hst) hden (fun i a1 a2 _ a3 => hnone i a1 a2 a3))
    | mem _ _ hc hm hev =>
      have hf : isFresh o.op = true := by
        unfold hardOf at hb
        split at hb
        · assumption
        · cases hb
      obtain ⟨k, ek, _⟩ := fresh_next hf hev
      rw [mev_agree hf (mask_val (all := all))] at hev
      obtain ⟨ob, L, k', s0, v, w1, hKs, hrun, hst1, hsz1, hLb, hkb, hden⟩ := fresh_ok (M := Mx B.X fp) (β := β) hTT hf hev hM0.mlt hval
      obtain ⟨rfl, rfl⟩ := Prod.mk.inj hKs
      have hlen : (κ (j + 1)).length = (κ j).length + 1 := by rw [hk1]; simp
      have hnn : β (κ j).length = none := hnone j hmj hjh hEj _ (Nat.le_refl _) (by omega)
      have hkh : (κ h)[(κ j).length]? = some k' := by
        obtain ⟨l, e, _⟩ := way_adds hw hdr.len hI.hN hI.soft (h - (j + 1)) (j + 1) (by omega) (by omega)
        rw [show j + 1 + (h - (j + 1)) = h from by omega, hk1] at e
        rw [e, List.getElem?_append_left (by simp)]; simp
      have hW := hS.went.mem.fill hst1 hsz1 hnn hkh ob L hLb hkb
      refine wpIn_of_run (fun c hc' => by rw [hc'] at hf; simp [isFresh] at hf) hrun (hK _ _ (build v _ _ _ hW (hden _ _ _ (upd_same _ _ _)) (fun i a1 a2 a4 a3 p hp hp' => ?_)))
      have hpj : p ≠ (κ j).length := fun e => by
        rcases Nat.lt_or_ge i j with hij | hij
        · obtain ⟨l, e1, _⟩ := way_adds hw hdr.len hI.hN hI.soft (j - (i + 1)) (i + 1) (by omega) (by omega)
          rw [show i + 1 + (j - (i + 1)) = j from by omega] at e1
          rw [e, e1] at hp'
          simp at hp'
          omega
        · obtain ⟨l, e1, _⟩ := way_adds hw hdr.len hI.hN hI.soft (i - (j + 1)) (j + 1) (by omega) (by omega)
          rw [show j + 1 + (i - (j + 1)) = i from by omega] at e1
          rw [e1] at hp
          simp at hp
          omega
      rw [upd_other _ _ hpj]
      exact hnone i a1 a2 a3 p hp hp'

theorem Inv.full {m h : Nat} {listed : Array Bool} {a : Act} {w : World} (hw : Way P TT all hs S T κ) (hdr : DrawOk all hs) (hI : Inv B all hs S T κ m h listed a w) (hE : ∀ i, i < h → listed.getD i false = true) : ∃ β fp, Sat B w β fp (T h) (κ h) a := by
  obtain ⟨β, fp, hS, _⟩ := hI.st
  have h1 := way_ref hw hdr.len m (h - m) (by have := hI.hN; have := hI.mh; omega)
  rw [show m + (h - m) = h from by have := hI.mh; omega] at h1
  rw [sg_congr (E' := fun _ => true) (h - m) (fun i a b => hE i (by omega))] at hS
  exact ⟨β, fp, hS.ref h1⟩

theorem any_order (hTT : TTok P TT) (hw : Way P TT all hs S T κ) (hdr : DrawOk all hs) (hQ : ∀ a w β fp, Sat B w β fp (T all.length) (κ all.length) a → Q .normal a w) :
    ∀ (fuel : Nat) (listed : Array Bool) (a : Act) (w : World) (m h : Nat) (l : List Nat), Inv B all hs S T κ m h listed a w → (∀ i, i < all.length → listed.getD i false = false → i ∈ l) → l.length ≤ fuel → wpAnyIn (wideF rd) n P .any all.toArray Q fuel listed a w := by
  have fin : ∀ (listed : Array Bool) (a : Act) (w : World) (m h : Nat), Inv B all hs S T κ m h listed a w → (∀ i, i < all.length → listed.getD i false = true) → Q .normal a w := by
    intro listed a w m h hI hall
    have hh : h = all.length := by
      rcases hI.stop with e | e
      · exact e
      · have hlt : h < all.length := by rw [← hdr.len]; exact (List.getElem?_eq_some_iff.1 e).1
        have := hI.high h (Nat.le_refl _)
        rw [hall h hlt] at this
        cases this
    obtain ⟨β, fp, hS⟩ := hI.full hw hdr (fun i hi => hall i (by have := hI.hN; omega))
    rw [hh] at hS
    exact hQ a w β fp hS
  intro fuel
  induction fuel with
  | zero =>
    intro listed a w m h l hI hl hlen
    have hnil : l = [] := List.eq_nil_of_length_eq_zero (by omega)
    have hall : ∀ i, i < all.length → listed.getD i false = true := fun i hi => by
      cases hb : listed.getD i false with
      | true => rfl
      | false => have := hl i hi hb; rw [hnil] at this; cases this
    refine ⟨?_, fin listed a w m h hI hall⟩
    refine List.eq_nil_iff_forall_not_mem.2 (fun j hj => ?_)
    obtain ⟨h0, o, ho, _⟩ := mem_ready.1 hj
    have hjl : j < all.length := by simpa using (Array.getElem?_eq_some_iff.1 ho).1
    have := hall j hjl
    have hjs : j < listed.size := by rw [hI.sz]; exact hjl
    simp [hjs] at h0 this
    rw [h0] at this; cases this
  | succ fuel ih =>
    intro listed a w m h l hI hl hlen
    refine ⟨fun hnil => fin listed a w m h hI (fun i hi => ?_), fun j hj => ?_⟩
    · -- none is ready: all are done
      induction i using Nat.strongRecOn with
      | _ i ihi =>
        cases hb : listed.getD i false with
        | true => rfl
        | false =>
          exfalso
          have his : i < listed.size := by rw [hI.sz]; exact hi
          have : i ∈ Region.ready .any all.toArray listed := mem_ready.2 ⟨by simpa [his] using hb, all[i], by simp [hi], fun e he hbd => by
            have := hdr.on i _ e (List.getElem?_eq_getElem hi) he hbd
            exact ihi e.on this (by omega)⟩
          rw [hnil] at this
          cases this
    · obtain ⟨h0, o, ho, hrd⟩ := mem_ready.1 hj
      have ho : all[j]? = some o := by simpa using ho
      have hjl : j < all.length := (List.getElem?_eq_some_iff.1 ho).1
      have hjs : j < listed.size := by rw [hI.sz]; exact hjl
      have hEj : listed.getD j false = false := by simpa [hjs] using h0
      have hmj : m ≤ j := by
        rcases Nat.lt_or_ge j m with h' | h'
        · rw [hI.low j h'] at hEj; cases hEj
        · exact h'
      have hWj : ∀ i, Wt all j i → listed.getD i false = true := fun i hi => wt_listed hI.cl hi (fun o' e ho' he hb => by
        rw [ho] at ho'; obtain rfl := Option.some.inj ho'; exact hrd e he hb)
      have hl' : ∀ i, i < all.length → (listed.setIfInBounds j true).getD i false = false → i ∈ l.erase j := fun i hi hE => by
        rw [getD_set _ _ _ hjs] at hE
        simp only [Bool.or_eq_false_iff, decide_eq_false_iff_not] at hE
        exact (List.mem_erase_of_ne hE.2).2 (hl i hi hE.1)
      have hlen' : (l.erase j).length ≤ fuel := by
        rw [List.length_erase_of_mem (hl j hjl hEj)]; omega
      rcases Nat.lt_trichotomy j h with hjh | hjh | hjh
      · exact hI.next hTT hw hdr ho hmj hjh hEj hrd (fun a' w' hI' => ih _ a' w' m h _ hI' hl' hlen')
      · subst hjh
        have hst : hs[j]? = some true := hI.stop.resolve_left (by omega)
        have hE : ∀ i, i < j → listed.getD i false = true := fun i hi => hWj i (hdr.first j i hst hi)
        obtain ⟨β, fp, hS⟩ := hI.full hw hdr hE
        obtain ⟨tr, hr, hstp, hT⟩ := hw j o true ho hst
        refine stp_sound hTT hstp (by simpa using ho) (hS.ref hr) (fun v w' β' fp' hS' => ?_)
        rw [← hT] at hS'
        obtain ⟨h', hI'⟩ := Inv.start hw hdr (m := j + 1) (by omega) (listed := listed.setIfInBounds j true) (by simp [hI.sz]) (fun i hi => by
          rw [getD_set _ _ _ hjs]
          simp only [Bool.or_eq_true, decide_eq_true_eq]
          constructor
          · rintro (h1 | h1)
            · rcases Nat.lt_or_ge i (j + 1) with h2 | h2
              · exact h2
              · rw [hI.high i (by omega)] at h1; cases h1
            · omega
          · intro h1
            by_cases e : i = j
            · exact .inr e
            · exact .inl (hE i (by omega))) hS'
        exact ih _ _ _ _ _ _ hI' hl' hlen'
      · exfalso
        have hst : hs[h]? = some true := hI.stop.resolve_left (by omega)
        have := hWj h (hdr.past h j hst hjh hjl)
        rw [hI.high h (Nat.le_refl _)] at this
        cases this
end

section
variable {P : Program} {TT : Nat → Option TI} {B : Bs} {w : World} {β : Env} {fp : Nat → Nat → Prop} {ts : List SV} {ks : List KB} {a : Act} {rd : Option Nat} {n : Nat} {Q : Exit → Act → World → Prop}
theorem region_draw (hTT : TTok P TT) (hmix : P.follows .mixedOrders = true) {ops : Array Oper} {hs : List Bool} (hdr : drawOk ops.toList hs = true) {id : Nat} {ts' : List SV} {ks' : List KB} (h : Tr P TT ops.toList ops.toList ts ks ts' ks' hs) (hS : Sat B w β fp ts ks a)
    (hQ : ∀ a' w' β' fp', Sat B w' β' fp' ts' ks' a' → Q .normal a' w') : (Code.region id ops true).wpIn (wideF rd) n P Q a w := by
  obtain ⟨S, T, κ, e1, e2, e3, e4, e5, hw⟩ := h.places
  have hdr := drawOk_ok hdr
  refine wpIn_region_any hmix ?_
  have hS0 : Sat B { w with drawn := w.drawn + 1 } β fp (T 0) (κ 0) a := by
    rw [e1, e2]
    exact hS.on (hS.went.mem.quiet ⟨rfl, rfl, rfl, Nat.le_refl _, fun _ _ _ => rfl⟩)
  obtain ⟨h', hI⟩ := Inv.start hw hdr (m := 0) (Nat.zero_le _) (listed := Array.replicate ops.size false) (by simp) (fun i hi => by
    simp at hi; simp [hi]) hS0
  have := any_order (rd := rd) (n := n) (Q := Q) hTT hw hdr (fun a' w' β' fp' hS' => hQ a' w' β' fp' (by rw [← e3, ← e4]; exact hS')) ops.size _ a _ 0 h' (List.range ops.size) hI (fun i hi _ => by simpa using hi) (by simp)
  simpa using this
/-! ### Every order tried -/
theorem atB_eq (l : List Bool) (i : Nat) : atB l i = (l[i]?).getD false := by
  induction l generalizing i with
  | nil => rfl
  | cons a l ih => cases i with
    | zero => rfl
    | succ i => simp [atB, ih]
theorem markB_eq (l : List Bool) (i : Nat) : markB l i = l.set i true := by
  induction l generalizing i with
  | nil => rfl
  | cons a l ih => cases i with
    | zero => rfl
    | succ i => simp [markB, ih]
theorem falses_eq (l : List Oper) : falses l = List.replicate l.length false := by
  induction l with
  | nil => rfl
  | cons a l ih => simp [falses, ih, List.replicate_succ]
theorem allT_eq {l : List Bool} (h : allT l = true) : ∀ i, i < l.length → l[i]? = some true := by
  induction l with
  | nil => intro i hi; simp at hi
  | cons a l ih =>
    intro i hi
    cases a with
    | false => simp [allT] at h
    | true =>
      cases i with
      | zero => rfl
      | succ i => simpa using ih (by simpa [allT] using h) i (by simpa using hi)
theorem edgesB_eq (done : List Bool) (l : List Edge) : edgesB done l = l.all (fun e => !Region.binds .any e || (done[e.on]?).getD false) := by
  induction l with
  | nil => rfl
  | cons e l ih =>
    simp only [edgesB, List.all_cons, ← ih, atB_eq]
    cases Region.binds .any e <;> cases (done[e.on]?).getD false <;> simp
theorem mem_ready {ops : Array Oper} {done : List Bool} (hl : done.length = ops.size) {i : Nat} : i ∈ Region.ready .any ops done.toArray ↔ ∃ o, ops.toList[i]? = some o ∧ atB done i = false ∧ edgesB done o.after.toList = true := by
  unfold Region.ready
  rw [List.mem_filter, List.mem_range]
  have he : ∀ o : Oper, edgesB done o.after.toList = o.after.all (fun e => !Region.binds .any e || done.toArray.getD e.on false) := fun o => by
    rw [edgesB_eq, ← Array.all_toList]
    simp [Array.getD_eq_getD_getElem?]
  constructor
  · rintro ⟨hi, h⟩
    have ho : ops[i]? = some ops[i] := Array.getElem?_eq_getElem hi
    refine ⟨ops[i], by rw [Array.getElem?_toList]; exact ho, ?_, ?_⟩
    · rw [ho] at h
      rw [atB_eq]
      have hd : done[i]? = some (done[i]'(by omega)) := List.getElem?_eq_getElem _
      rw [hd]
      simp [Array.getD_eq_getD_getElem?, hd] at h
      simpa using h.1
    · rw [ho] at h
      rw [he]
      simp only [Option.map_some, Option.getD_some, Bool.and_eq_true] at h
      exact h.2
  · rintro ⟨o, ho, h1, h2⟩
    rw [Array.getElem?_toList] at ho
    have hi : i < ops.size := (Array.getElem?_eq_some_iff.1 ho).1
    refine ⟨hi, ?_⟩
    rw [ho]
    rw [atB_eq] at h1
    have hd : done[i]? = some (done[i]'(by omega)) := List.getElem?_eq_getElem _
    rw [hd] at h1
    simp only [Option.map_some, Option.getD_some, Bool.and_eq_true]
    refine ⟨?_, by rw [← he]; exact h2⟩
    simp only [Option.getD_some] at h1
    simp [Array.getD_eq_getD_getElem?, hd, h1]
theorem eachK_spec {done : List Bool} {F : Nat → Oper → Prop} : ∀ (os : List Oper) (p : Nat), eachK done F p os → ∀ j o, os[j]? = some o → atB done (p + j) = false → edgesB done o.after.toList = true → F (p + j) o := by
  intro os
  induction os with
  | nil => intro p h j o ho; simp at ho
  | cons a os ih =>
    intro p h j o ho h1 h2
    cases j with
    | zero =>
      simp only [List.getElem?_cons_zero, Option.some.injEq] at ho
      subst ho
      simp only [eachK, Nat.add_zero] at h h1
      rw [h1, h2] at h
      exact h.1
    | succ j =>
      have hr : eachK done F (p + 1) os := by
        simp only [eachK] at h
        split at h
        · exact h
        · split at h
          · exact h.2
          · exact h
      have := ih (p + 1) hr j o (by simpa using ho) (by rw [show p + 1 + j = p + (j + 1) from by omega]; exact h1) h2
      rw [show p + (j + 1) = p + 1 + j from by omega]
      exact this
theorem hasReady_spec {done : List Bool} : ∀ (os : List Oper) (p : Nat), hasReady done p os = true → ∃ j o, os[j]? = some o ∧ atB done (p + j) = false ∧ edgesB done o.after.toList = true := by
  intro os
  induction os with
  | nil => intro p h; simp [hasReady] at h
  | cons a os ih =>
    intro p h
    have tail : hasReady done (p + 1) os = true → ∃ j o, (a :: os)[j]? = some o ∧ atB done (p + j) = false ∧ edgesB done o.after.toList = true := fun h => by
      obtain ⟨j, o, h1, h2, h3⟩ := ih (p + 1) h
      exact ⟨j + 1, o, by simpa using h1, by rw [show p + (j + 1) = p + 1 + j from by omega]; exact h2, h3⟩
    simp only [hasReady] at h
    split at h
    · exact tail h
    · rename_i h1
      split at h
      · rename_i h2
        exact ⟨0, a, rfl, h1, h2⟩
      · exact tail h
theorem sched_sound {ops : Array Oper} (hTT : TTok P TT) {K : List SV → List KB → Prop} (hQ : ∀ ts ks a w β fp, K ts ks → Sat B w β fp ts ks a → Q .normal a w) : ∀ (k : Nat) (done : List Bool) (ts : List SV) (ks : List KB) (a : Act) (w : World) (β : Env) (fp : Nat → Nat → Prop), done.length = ops.size → schedK P TT ops.toList K k done ts ks → Sat B w β fp ts ks a → wpAnyIn (wideF rd) n P .any ops Q k done.toArray a w := by
  intro k
  induction k with
  | zero =>
    intro done ts ks a w β fp hl h hS
    simp only [schedK] at h
    split at h
    · rename_i hd
      refine ⟨?_, hQ _ _ _ _ _ _ h hS⟩
      rw [List.eq_nil_iff_forall_not_mem]
      intro i hi
      obtain ⟨o, ho, h1, _⟩ := (mem_ready hl).1 hi
      have : i < ops.toList.length := (List.getElem?_eq_some_iff.1 ho).1
      rw [atB_eq, allT_eq hd i (by simpa [hl] using this)] at h1
      cases h1
    · exact h.elim
  | succ k ih =>
    intro done ts ks a w β fp hl h hS
    simp only [schedK] at h
    split at h
    · rename_i hr
      refine ⟨fun he => ?_, fun i hi => ?_⟩
      · obtain ⟨j, o, h1, h2, h3⟩ := hasReady_spec _ _ hr
        rw [Nat.zero_add] at h2
        have : j ∈ Region.ready .any ops done.toArray := (mem_ready hl).2 ⟨o, h1, h2, h3⟩
        rw [he] at this
        cases this
      · obtain ⟨o, ho, h1, h2⟩ := (mem_ready hl).1 hi
        have hF := eachK_spec _ _ h i o ho (by rw [Nat.zero_add]; exact h1) h2
        rw [Nat.zero_add] at hF
        split at hF
        · rename_i hg
          obtain ⟨hd, s, k1, hev, hk⟩ := exec_ev hF
          have hst : Stp P TT ops.toList ts ks o hd s k1 := .ev (by simp [guardOk, hg]) hev
          have hi' : ops.toList.toArray[i]? = some o := by
            rw [Array.getElem?_toList] at ho
            simpa using ho
          have := stp_sound (rd := rd) (n := n) (Q := Q) (next := wpAnyIn (wideF rd) n P .any ops Q k (done.toArray.setIfInBounds i true)) hTT hst hi' hS (fun v w' β' fp' hS' => by
            have := ih (markB done i) _ _ _ w' β' fp' (by rw [markB_eq]; simpa using hl) hk hS'
            rw [markB_eq] at this
            simpa using this)
          simpa using this
        · exact hF.elim
    · exact h.elim
theorem region_sched (hTT : TTok P TT) (hmix : P.follows .mixedOrders = true) {ops : Array Oper} {id : Nat} {w : World} {β : Env} {fp : Nat → Nat → Prop} {ts ts' : List SV} {ks ks' : List KB} {a : Act} (h : schedK P TT ops.toList (fun t k => t = ts' ∧ k = ks') ops.toList.length (falses ops.toList) ts ks) (hS : Sat B w β fp ts ks a)
    (hQ : ∀ a' w' β' fp', Sat B w' β' fp' ts' ks' a' → Q .normal a' w') : (Code.region id ops true).wpIn (wideF rd) n P Q a w := by
  refine wpIn_region_any hmix ?_
  have hS0 : Sat B { w with drawn := w.drawn + 1 } β fp ts ks a := hS.on (hS.went.mem.quiet ⟨rfl, rfl, rfl, Nat.le_refl _, fun _ _ _ => rfl⟩)
  have := sched_sound (rd := rd) (n := n) (B := B) (Q := Q) hTT (K := fun t k => t = ts' ∧ k = ks') (fun t k a w β fp hk hS => by
    obtain ⟨rfl, rfl⟩ := hk
    exact hQ _ _ _ _ hS) ops.toList.length (falses ops.toList) ts ks a _ β fp (by rw [falses_eq]; simp) h hS0
  rw [falses_eq] at this
  simpa using this
end
end Go.Eng
