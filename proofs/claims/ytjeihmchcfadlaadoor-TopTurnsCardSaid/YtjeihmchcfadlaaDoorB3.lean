/-
  Lean lists in plain Lean: what they have, how they stand. Conditions as said. hardtacklaw36.PrefixLean holds. Heaps in plain Lean: places of a heap as a function, two of them changed, up, down, the least thing. Conditions as said. wheel: the order of things, their key, two of them changed, up, down. Conditions: the places lie within the row. wheel: up and down. Conditions: the place lies within the row; the things' numbers are those from k on, each once; times rise with the numbers. wheel: down. Conditions: the place lies within the row; the things' numbers are those from k on, each once; times rise with the numbers. wheel: the first thing taken out. Conditions: the things' numbers are those from k on, each once; times rise with the numbers. wheel: New, push. Conditions: the numbers are pushed falling; times rise with the numbers. wheel: Pop of all things. Conditions: the things' numbers are those below n, each once; times rise with the numbers, and none is later than asked.
-/
import Derived.Test.YtjeihmchcfadlaaDoorB2
import Derived.Test.YtjeihmchcfadlaaDoorM4
import Derived.Test.YtjeihmchcfadlaaDoorB1
set_option linter.unusedVariables false
set_option linter.unusedSimpArgs false
namespace Go.Proofs.YtjeihmchcfadlaaDoor
open Go Go.Eng Go.Lib
/-- How many addresses a right prefix has. -/
def Pf.sz (p : Pf) : Nat := 2 ^ (32 - p.bits.toNat)
theorem Pf.sz_pos (p : Pf) : 0 < p.sz := Nat.pow_pos (by decide)
theorem right_mul {p : Pf} (h : p.right = true) : p.addr = p.addr / p.sz * p.sz := (right_iff.1 h).2.2.symm
theorem has_iff {p : Pf} (h : p.right = true) (x : Nat) : p.has x = true ↔ p.addr ≤ x ∧ x < p.addr + p.sz := by
  have hk := p.sz_pos
  have hm := right_mul h
  unfold Pf.has
  rw [h, Bool.true_and, beq_iff_eq]
  show x / p.sz * p.sz = p.addr ↔ _
  constructor
  · intro e
    rw [← e]
    exact ⟨Nat.div_mul_le_self _ _, Nat.lt_div_mul_add hk⟩
  · rintro ⟨h1, h2⟩
    rw [hm]
    congr 1
    refine Nat.div_eq_of_lt_le (by omega) ?_
    rw [Nat.add_mul, Nat.one_mul]
    omega
theorem has_no {p : Pf} (h : p.right = true) (x : Nat) : p.has x = false ↔ x < p.addr ∨ p.addr + p.sz ≤ x := by
  rw [← Bool.not_eq_true, has_iff h]
  omega
theorem sz_le {p q : Pf} (h : p.bits ≤ q.bits) : q.sz ≤ p.sz := Nat.pow_le_pow_right (by decide) (by omega)
theorem whole_some {a b p : Pf} (ha : a.right = true) (hb : b.right = true) (ho : a.addr + a.sz ≤ b.addr) (h : wholeP a b = some p) : p.addr = a.addr ∧ p.sz = 2 * a.sz ∧ p.bits ≤ a.bits ∧ b.addr = a.addr + a.sz ∧ b.sz = a.sz := by
  obtain ⟨a1, a2, _⟩ := right_iff.1 ha
  have hw := good_whole (a := a) (b := b) (p := p)
  unfold wholeP at h
  split at h
  · cases h
  · rename_i hno
    have n1 : a.bits = b.bits := Classical.byContradiction fun e => hno (.inl e)
    have n2 : a.bits ≠ 0 := fun e => hno (.inr (.inl e))
    split at h
    · rename_i hh
      cases h
      have hr : (⟨a.addr, a.bits - 1⟩ : Pf).right = true := by unfold Pf.has at hh; rw [Bool.and_eq_true] at hh; exact hh.1
      have hs : (⟨a.addr, a.bits - 1⟩ : Pf).sz = 2 * a.sz := by
        show 2 ^ (32 - (a.bits - 1).toNat) = 2 * 2 ^ (32 - a.bits.toNat)
        rw [show 32 - (a.bits - 1).toNat = 32 - a.bits.toNat + 1 by omega, Nat.pow_succ, Nat.mul_comm]
      have hsb : b.sz = a.sz := by unfold Pf.sz; rw [n1]
      have h2 := ((has_iff hr _).1 hh).2
      rw [hs] at h2
      refine ⟨rfl, hs, by show a.bits - 1 ≤ a.bits; omega, ?_, hsb⟩
      have ma := right_mul ha
      have mb := right_mul hb
      rw [hsb] at mb
      have hk := a.sz_pos
      have h2 : b.addr < a.addr + 2 * a.sz := h2
      generalize a.sz = k at *
      generalize a.addr / k = u at *
      generalize b.addr / k = v at *
      rw [ma, mb] at ho h2
      have e1 : u + 1 ≤ v := by
        refine Nat.le_of_mul_le_mul_right (c := k) ?_ hk
        rw [Nat.add_mul, Nat.one_mul]; exact ho
      have e2 : v < u + 2 := by
        refine Nat.lt_of_mul_lt_mul_right (a := k) ?_
        rw [Nat.add_mul]; exact h2
      have e3 : v = u + 1 := by omega
      rw [mb, ma, e3, Nat.add_mul, Nat.one_mul]
    · cases h
/-- Each below the top lies ahead of it. -/
def OrdS (st : List Pf) : Prop := st.Pairwise fun b a => a.addr + a.sz ≤ b.addr
/-- No two neighbours are halves. -/
def NoM : List Pf → Prop
  | b :: a :: r => wholeP a b = none ∧ NoM (a :: r)
  | _ => True
theorem NoM.tail {b : Pf} {r : List Pf} (h : NoM (b :: r)) : NoM r := by
  cases r with
  | nil => trivial
  | cons a r => exact h.2
def HasS (st : List Pf) (x : Nat) : Bool := st.any fun p => p.has x
/-- From what a stack came. -/
structure StI (st proc : List Pf) : Prop where
  good : GoodS st
  ord : OrdS st
  has : ∀ x, HasS st x = HasS proc x
  old : ∀ t ∈ st, ∃ c ∈ proc, c.addr = t.addr ∧ t.bits ≤ c.bits
theorem sti_coll : ∀ (n : Nat) (b : Pf) (r proc : List Pf), r.length ≤ n → StI (b :: r) proc → NoM r → StI (coll (b :: r)) proc ∧ NoM (coll (b :: r)) := by
  intro n
  induction n with
  | zero =>
    intro b r proc hl h hn
    have := List.eq_nil_of_length_eq_zero (Nat.le_zero.1 hl)
    subst this
    unfold coll
    exact ⟨h, trivial⟩
  | succ n ih =>
    intro b r proc hl h hn
    cases r with
    | nil => unfold coll; exact ⟨h, trivial⟩
    | cons a r =>
      unfold coll
      cases hw : wholeP a b with
      | none => exact ⟨h, hw, hn⟩
      | some p =>
        have hb := h.good b (by simp)
        have ha := h.good a (by simp)
        have ho := List.pairwise_cons.1 h.ord
        have ho2 := List.pairwise_cons.1 ho.2
        have hg := good_whole ha.1 hw
        obtain ⟨w1, w2, w3, w4, w5⟩ := whole_some ha.2 hb.2 (ho.1 a (by simp)) hw
        refine ih p r proc (by simpa using hl) ⟨fun q hq => ?_, ?_, fun x => ?_, fun t ht => ?_⟩ hn.tail
        · rcases List.mem_cons.1 hq with rfl | hq
          · exact hg
          · exact h.good q (by simp [hq])
        · exact List.pairwise_cons.2 ⟨fun c hc => by rw [w1]; exact ho2.1 c hc, ho2.2⟩
        · rw [← h.has x]
          unfold HasS
          simp only [List.any_cons]
          rw [← Bool.or_assoc]
          congr 1
          rw [Bool.eq_iff_iff, Bool.or_eq_true, has_iff hg.2, has_iff hb.2, has_iff ha.2, w1, w2, w4, w5]
          omega
        · rcases List.mem_cons.1 ht with rfl | ht
          · obtain ⟨c, hc, c1, c2⟩ := h.old a (by simp)
            exact ⟨c, hc, by rw [w1]; exact c1, by omega⟩
          · exact h.old t (by simp [ht])
theorem sti_push {st proc : List Pf} {p : Pf} (h : StI st proc) (hn : NoM st) (hp : p.addr < 4294967296 ∧ p.right = true) (hle : ∀ c ∈ proc, leP c p = true) : StI (push st p) (proc ++ [p]) ∧ NoM (push st p) := by
  have hle' : ∀ c ∈ proc, c.addr < p.addr ∨ c.addr = p.addr ∧ c.bits ≤ p.bits := fun c hc => by
    have := of_decide_eq_true (hle c hc)
    omega
  have hcat : ∀ x, HasS (proc ++ [p]) x = (HasS proc x || p.has x) := fun x => by simp [HasS, List.any_append]
  cases st with
  | nil =>
    have hc : push [] p = [p] := by show coll [p] = [p]; unfold coll; rfl
    rw [hc]
    refine ⟨⟨fun q hq => ?_, List.pairwise_singleton .., fun x => ?_, fun t ht => ⟨p, by simp, ?_⟩⟩, trivial⟩
    · rw [List.mem_singleton.1 hq]; exact hp
    · rw [hcat, ← h.has x]; simp [HasS]
    · rw [List.mem_singleton.1 ht]; exact ⟨rfl, Int.le_refl _⟩
  | cons b r =>
    have hb := h.good b (by simp)
    obtain ⟨c, hc, c1, c2⟩ := h.old b (by simp)
    have hcp := hle' c hc
    show StI (if b.has p.addr then b :: r else coll (p :: b :: r)) (proc ++ [p]) ∧ NoM (if b.has p.addr then b :: r else coll (p :: b :: r))
    cases hh : b.has p.addr with
    | true =>
      rw [if_pos rfl]
      refine ⟨⟨h.good, h.ord, fun x => ?_, fun t ht => ?_⟩, hn⟩
      · rw [hcat, ← h.has x]
        cases hx : p.has x with
        | false => rw [Bool.or_false]
        | true =>
          rw [Bool.or_true]
          have h1 := (has_iff hb.2 _).1 hh
          have h2 := (has_iff hp.2 _).1 hx
          -- p lies within b
          have hin : b.has x = true := by
            rw [has_iff hb.2]
            refine ⟨by omega, ?_⟩
            have hbits : b.bits ≤ p.bits ∨ p.bits < b.bits := by omega
            rcases hbits with hbb | hbb
            · have mb := right_mul hb.2
              have mp := right_mul hp.2
              obtain ⟨b1, b2, _⟩ := right_iff.1 hb.2
              obtain ⟨p1, p2, _⟩ := right_iff.1 hp.2
              have hk := p.sz_pos
              have hd : b.sz = 2 ^ (p.bits.toNat - b.bits.toNat) * p.sz := by
                unfold Pf.sz
                rw [← Nat.pow_add]
                congr 1
                omega
              generalize 2 ^ (p.bits.toNat - b.bits.toNat) = d at hd
              have e1 : p.addr + p.sz ≤ b.addr + b.sz := by
                have e2 : p.addr / p.sz + 1 ≤ b.addr / b.sz * d + d := by
                  have h3 := h1.2
                  rw [mp, mb, hd, ← Nat.mul_assoc, ← Nat.add_mul] at h3
                  rw [hd] 
                  exact Nat.lt_of_mul_lt_mul_right h3
                have e3 := Nat.mul_le_mul_right p.sz e2
                rw [Nat.add_mul, Nat.one_mul, ← mp, Nat.add_mul, Nat.mul_assoc, ← hd, ← mb] at e3
                exact e3
              omega
            · -- then p is greater and begins where b does
              rcases hcp with hlt | ⟨_, hle2⟩
              · have mb := right_mul hb.2
                have mp := right_mul hp.2
                obtain ⟨b1, b2, _⟩ := right_iff.1 hb.2
                obtain ⟨p1, p2, _⟩ := right_iff.1 hp.2
                have hk := b.sz_pos
                have hd : p.sz = 2 ^ (b.bits.toNat - p.bits.toNat) * b.sz := by
                  unfold Pf.sz
                  rw [← Nat.pow_add]
                  congr 1
                  omega
                generalize 2 ^ (b.bits.toNat - p.bits.toNat) = d at hd
                rw [hd, ← Nat.mul_assoc] at mp
                exfalso
                have h3 := h1.2
                have h4 : b.addr < p.addr := by omega
                rw [mb, mp] at h4
                have h5 := Nat.lt_of_mul_lt_mul_right h4
                have h6 := Nat.mul_le_mul_right b.sz h5
                rw [Nat.succ_mul, ← mb, ← mp] at h6
                omega
              · omega
          unfold HasS
          rw [List.any_cons, hin, Bool.true_or]
      · obtain ⟨c, hc, e⟩ := h.old t ht
        exact ⟨c, by simp [hc], e⟩
    | false =>
      rw [if_neg (by decide)]
      have hno := (has_no hb.2 _).1 hh
      refine sti_coll _ p (b :: r) _ (Nat.le_refl _) ⟨fun q hq => ?_, ?_, fun x => ?_, fun t ht => ?_⟩ hn
      · rcases List.mem_cons.1 hq with rfl | hq
        · exact hp
        · exact h.good q hq
      · refine List.pairwise_cons.2 ⟨fun q hq => ?_, h.ord⟩
        have hbp : b.addr + b.sz ≤ p.addr := by omega
        rcases List.mem_cons.1 hq with rfl | hq
        · exact hbp
        · have := (List.pairwise_cons.1 h.ord).1 q hq
          omega
      · rw [hcat, ← h.has x]
        unfold HasS
        rw [List.any_cons, Bool.or_comm]
      · rcases List.mem_cons.1 ht with rfl | ht
        · exact ⟨t, by simp, rfl, Int.le_refl _⟩
        · obtain ⟨c, hc, e⟩ := h.old t ht
          exact ⟨c, by simp [hc], e⟩
theorem sti_lean : ∀ (n : Nat) (S : List Pf), S.length = n → GoodS S → S.Pairwise (fun p q => leP p q = true) → StI (leanS S) S ∧ NoM (leanS S) := by
  intro n
  induction n with
  | zero =>
    intro S h _ _
    have := List.eq_nil_of_length_eq_zero h
    subst this
    exact ⟨⟨fun p hp => by simp [leanS] at hp, .nil, fun _ => rfl, fun p hp => by simp [leanS] at hp⟩, trivial⟩
  | succ n ih =>
    intro S h hg hs
    have hne : S ≠ [] := fun e => by rw [e] at h; simp at h
    have e := (List.dropLast_concat_getLast hne).symm
    generalize S.dropLast = U at e
    generalize S.getLast hne = p at e
    subst e
    rw [leanS_snoc]
    rw [List.pairwise_append] at hs
    have h1 := ih U (by simpa using h) (fun q hq => hg q (by simp [hq])) hs.1
    exact sti_push h1.1 h1.2 (hg p (by simp)) (fun c hc => hs.2.2 c hc p (by simp))
theorem good_filter {l : List Pf} (hl : ∀ p ∈ l, p.addr < 4294967296) : GoodS (srt (l.filter Pf.right)) := fun p hp => by
  have := List.mem_filter.1 ((List.mergeSort_perm (l.filter Pf.right) leP).mem_iff.1 hp)
  exact ⟨hl p this.1, this.2⟩
/-- How a lean list stands. -/
structure LeanI (l m : List Pf) : Prop where
  good : GoodS m
  ord : m.Pairwise fun a b => a.addr + a.sz ≤ b.addr
  nom : NoM m.reverse
  has : ∀ x, HasS m x = HasS l x
  len : m.length ≤ l.length
theorem has_filter (l : List Pf) (x : Nat) : HasS (l.filter Pf.right) x = HasS l x := by
  unfold HasS
  induction l with
  | nil => rfl
  | cons a l ih =>
    cases hr : a.right with
    | true => rw [List.filter_cons_of_pos hr, List.any_cons, List.any_cons, ih]
    | false =>
      rw [List.filter_cons_of_neg (by rw [hr]; simp), ih, List.any_cons]
      unfold Pf.has
      rw [hr]
      rfl
theorem has_perm {l m : List Pf} (h : l.Perm m) (x : Nat) : HasS l x = HasS m x := by
  unfold HasS
  rw [Bool.eq_iff_iff, List.any_eq_true, List.any_eq_true]
  exact ⟨fun ⟨p, hp, e⟩ => ⟨p, h.mem_iff.1 hp, e⟩, fun ⟨p, hp, e⟩ => ⟨p, h.mem_iff.2 hp, e⟩⟩
theorem leanL_is (l : List Pf) (hl : ∀ p ∈ l, p.addr < 4294967296) : LeanI l (leanL l) := by
  have hg := good_filter hl
  have h := sti_lean _ _ rfl hg (srt_sorted _)
  have hlen := (good_leanS _ _ rfl hg).2
  unfold leanL
  refine ⟨fun p hp => h.1.good p (List.mem_reverse.1 hp), ?_, by rw [List.reverse_reverse]; exact h.2, fun x => ?_, ?_⟩
  · rw [List.pairwise_reverse]
    exact h.1.ord
  · rw [has_perm (List.reverse_perm _), h.1.has, show HasS (srt (l.filter Pf.right)) x = HasS (l.filter Pf.right) x from has_perm (List.mergeSort_perm _ leP) x, has_filter]
  · rw [List.length_reverse]
    refine Nat.le_trans hlen ?_
    unfold srt
    rw [List.length_mergeSort]
    exact List.length_filter_le ..
/-- What stands so is lean. -/
theorem leanS_same : ∀ (n : Nat) (m : List Pf), m.length = n → GoodS m → (m.Pairwise fun a b => a.addr + a.sz ≤ b.addr) → NoM m.reverse → leanS m = m.reverse := by
  intro n
  induction n with
  | zero =>
    intro m h _ _ _
    have := List.eq_nil_of_length_eq_zero h
    subst this
    rfl
  | succ n ih =>
    intro m h hg ho hn
    have hne : m ≠ [] := fun e => by rw [e] at h; simp at h
    have e := (List.dropLast_concat_getLast hne).symm
    generalize m.dropLast = U at e
    generalize m.getLast hne = p at e
    subst e
    rw [List.reverse_append] at hn ⊢
    rw [List.pairwise_append] at ho
    have hn : NoM (p :: U.reverse) := hn
    show leanS (U ++ [p]) = p :: U.reverse
    rw [leanS_snoc, ih U (by simpa using h) (fun q hq => hg q (by simp [hq])) ho.1 hn.tail]
    cases hu : U.reverse with
    | nil => show coll [p] = [p]; unfold coll; rfl
    | cons b r =>
      rw [hu] at hn
      have hbU : b ∈ U := List.mem_reverse.1 (by rw [hu]; simp)
      have hb := hg b (by simp [hbU])
      have hbp := ho.2.2 b hbU p (by simp)
      show (if b.has p.addr then b :: r else coll (p :: b :: r)) = _
      rw [if_neg (by rw [(has_no hb.2 _).2 (.inr hbp)]; simp)]
      unfold coll
      rw [hn.1]
theorem rises_ord {m : List Pf} (ho : m.Pairwise fun a b => a.addr + a.sz ≤ b.addr) : Rises m := by
  refine ho.imp ?_
  intro a b h
  have := a.sz_pos
  omega
theorem leanL_same {m : List Pf} (hg : GoodS m) (ho : m.Pairwise fun a b => a.addr + a.sz ≤ b.addr) (hn : NoM m.reverse) : leanL m = m := by
  have hf : m.filter Pf.right = m := List.filter_eq_self.2 fun p hp => (hg p hp).2
  unfold leanL
  rw [hf, ← srt_eq (List.Perm.refl m) (rises_ord ho), leanS_same _ m rfl hg ho hn, List.reverse_reverse]
theorem leanL_perm {l m : List Pf} (h : l.Perm m) : leanL l = leanL m := by
  have hr : Rises (srt (l.filter Pf.right)) := (srt_sorted _).imp fun h => of_decide_eq_true h
  unfold leanL
  rw [show srt (l.filter Pf.right) = srt (m.filter Pf.right) from srt_eq ((List.mergeSort_perm _ leP).trans (h.filter Pf.right)) hr]
end Go.Proofs.YtjeihmchcfadlaaDoor
namespace Go.Proofs.YtjeihmchcfadlaaDoor
open Go Go.Eng Go.Lib
set_option maxRecDepth 100000
/-- A list that is not empty is not nil. -/
def zOf : Nat → Z
  | 0 => .iff
  | _ + 1 => .no
theorem bne_self2 (b : Bool) : (b != b) = false := by cases b <;> rfl
theorem pfs_front (l : List Pf) (q : Pf) (j : Nat) (hj : j < 1 + l.length) : catF 1 (chunk [DV.int IntKind.u32 q.addr, DV.int IntKind.i64 q.bits] 2) (pfs l) j = pfs (q :: l) j := by
  unfold catF
  split
  · have : j = 0 := by omega
    subst this
    rfl
  · obtain ⟨k, rfl⟩ : ∃ k, j = k + 1 := ⟨j - 1, by omega⟩
    rfl
theorem lean_at {l m : List Pf} (h : LeanI l m) {i : Nat} (hi : i < m.length) : m.getD i ⟨0, 0⟩ ∈ m ∧ (m.getD i ⟨0, 0⟩).addr < 4294967296 ∧ (m.getD i ⟨0, 0⟩).right = true := by
  have := getD_mem hi
  exact ⟨this, h.good _ this⟩
theorem lean_next {l m : List Pf} (h : LeanI l m) {i : Nat} (h0 : 0 < i) (hi : i < m.length) : (m.getD (i - 1) ⟨0, 0⟩).addr < (m.getD i ⟨0, 0⟩).addr ∧ (m.getD (i - 1) ⟨0, 0⟩).has (m.getD i ⟨0, 0⟩).addr = false := by
  have h1 := lean_at h (show i - 1 < m.length by omega)
  have ho := List.pairwise_iff_getElem.1 h.ord (i - 1) i (by omega) hi (by omega)
  have e1 : m.getD (i - 1) ⟨0, 0⟩ = m[i - 1] := by rw [List.getD_eq_getElem?_getD, List.getElem?_eq_getElem (by omega)]; rfl
  have e2 : m.getD i ⟨0, 0⟩ = m[i] := by rw [List.getD_eq_getElem?_getD, List.getElem?_eq_getElem hi]; rfl
  rw [e1] at h1 ⊢
  rw [e2]
  have := m[i - 1].sz_pos
  exact ⟨by omega, (has_no h1.2.2 _).2 (.inr ho)⟩
theorem u32_nat (x : Int) : ∃ b : Nat, b < 4294967296 ∧ IntKind.u32.wrap x = b := by
  have : 0 ≤ IntKind.u32.wrap x ∧ IntKind.u32.wrap x ≤ 4294967295 := by rw [IntKind.wrap_u32]; omega
  exact ⟨(IntKind.u32.wrap x).toNat, by omega, by omega⟩
set_option maxHeartbeats 8000000 in
theorem plean_ok (z : Bool) (l : List Pf) (hl : ∀ p ∈ l, p.addr < 4294967296) (a : Nat) (ha : a < 4294967296) (k : Int) : FnOk Tryd.prog 5 [.d (.sl z l.length 2 (pfs l)), .d (.int .u32 a), .d (.int .i64 k)] (.d (.bool true)) := by
  refine fnOk_of_run (TT := TT) (IN := lookI []) TT_ok INok_nil mixed 1000 Tryd.func5 rfl (enters Tryd.func5 (by kernel_rfl) rfl) rfl 105 (by kernel_rfl) ?_
  conv => whnf
  refine .one (.data _ plives_ok rfl rfl ?_)
  conv => whnf
  refine brF rfl ?_
  conv => whnf
  by_cases h1 : l.length > 60
  · refine brT (decide_eq_true (by omega)) ?_
    conv => whnf
  refine brF (decide_eq_false (by omega)) ?_
  conv => whnf
  have hI := leanL_is l hl
  have hlm := hI.len
  have hm : ∀ p ∈ leanL l, p.addr < 4294967296 := fun p hp => (hI.good p hp).1
  have hs1 : leanL (leanL l) = leanL l := leanL_same hI.good hI.ord hI.nom
  have hs2 : leanL l.reverse = leanL l := leanL_perm (List.reverse_perm l)
  refine .one (.data _ (lean_ok z l hl (by omega)) rfl rfl ?_)
  generalize hM : leanL l = m at *
  conv => whnf
  rcases (show (0 ≤ k ∧ k < l.length) ∨ (0 ≤ k ∧ ¬ k < l.length) ∨ ¬ 0 ≤ k by omega) with hk | hk | hk
  refine brT (decide_eq_true hk.1) ?_
  conv => whnf
  refine brT (decide_eq_true hk.2) ?_
  conv => whnf
  refine ⟨hk, ?_⟩
  conv => whnf
  refine ⟨by decide, ?_⟩
  conv => whnf
  obtain ⟨b, hb, hab⟩ : ∃ b : Nat, b < 4294967296 ∧ IntKind.u32.wrap (IntKind.u32.wrap (((l.getD k.toNat ⟨0, 0⟩).addr : Int) + (a : Int).tmod 3) - 1) = b := u32_nat _
  rw [hab]
  rotate_left
  refine brT (decide_eq_true hk.1) ?_
  conv => whnf
  refine brF (decide_eq_false hk.2) ?_
  conv => whnf
  obtain ⟨b, hb, hab⟩ : ∃ b : Nat, b < 4294967296 ∧ (a : Int) = b := ⟨a, ha, rfl⟩
  rw [hab]
  rotate_left
  refine brF (decide_eq_false hk) ?_
  conv => whnf
  obtain ⟨b, hb, hab⟩ : ∃ b : Nat, b < 4294967296 ∧ (a : Int) = b := ⟨a, ha, rfl⟩
  rw [hab]
  all_goals
    have hin1 := in_ok m.isEmpty m b hb hm (by omega)
    have hin2 := in_ok z l b hb hl (by omega)
    rw [show (m.any fun p => p.has b) = (l.any fun p => p.has b) from hI.has b] at hin1
    refine .one (.data _ hin1 rfl rfl ?_)
    conv => whnf
    refine .one (.data _ hin2 rfl rfl ?_)
    conv => whnf
    refine brF (bne_self2 _) ?_
    conv => whnf
    refine brF (decide_eq_false (by omega)) ?_
    conv => whnf
    refine .inv Nat (fun i => i ≤ m.length) (fun i => [(53, .d (.int .i64 i))]) (fun i => []) (fun i => m.length - i) ⟨0, [], Nat.zero_le _, ?_⟩ ?_
    · conv => whnf
      repeat' (first | exact True.intro | exact rfl | exact fun _ => Iff.rfl | exact fun _ _ => rfl | exact renM_ent rfl _ | refine And.intro ?_ ?_)
    intro i hi
    conv => whnf
    refine ⟨fun c1 => ?_, fun c1 => ?_⟩
    · have c1 : (i : Int) < m.length := of_decide_eq_true c1
      have him : i < m.length := by omega
      have hw1 : IntKind.i64.wrap ((i : Int) + 1) = ((i + 1 : Nat) : Int) := by rw [w64_in _ (by omega)]; omega
      obtain ⟨hpm, hpa, hpr⟩ := lean_at hI him
      have hc := pcheck_ok _ hpa
      rw [if_pos hpr] at hc
      have hnx := fun h0 => lean_next hI h0 him
      conv => whnf
      refine ⟨by omega, ?_⟩
      conv => whnf
      rw [Int.toNat_natCast]
      refine .data _ hc rfl rfl ?_
      conv => whnf
      refine brF rfl ?_
      conv => whnf
      by_cases h0 : i = 0
      · refine brF (decide_eq_false (by omega)) ?_
        conv => whnf
        refine ⟨i + 1, [], him, by omega, ?_⟩
        conv => whnf
        rw [hw1]
        repeat' (first | exact True.intro | exact rfl | exact fun _ => Iff.rfl | exact fun _ _ => rfl | exact renM_ent rfl _ | refine And.intro ?_ ?_)
      · have hw2 : IntKind.i64.wrap ((i : Int) - 1) = ((i - 1 : Nat) : Int) := by rw [w64_in _ (by omega)]; omega
        obtain ⟨hx1, hx2⟩ := hnx (by omega)
        obtain ⟨hqm, hqa, hqr⟩ := lean_at hI (show i - 1 < m.length by omega)
        have hh := has_ok _ hqa _ hpa
        rw [hx2] at hh
        refine brT (decide_eq_true (by omega)) ?_
        conv => whnf
        rw [hw2]
        refine ⟨by omega, ?_⟩
        conv => whnf
        rw [Int.toNat_natCast]
        refine brF (decide_eq_false (by omega)) ?_
        conv => whnf
        refine ⟨by omega, ?_⟩
        conv => whnf
        rw [hw2, Int.toNat_natCast]
        refine .data _ hh rfl rfl ?_
        conv => whnf
        refine brF rfl ?_
        conv => whnf
        refine ⟨i + 1, [], him, by omega, ?_⟩
        conv => whnf
        rw [hw1]
        repeat' (first | exact True.intro | exact rfl | exact fun _ => Iff.rfl | exact fun _ _ => rfl | exact renM_ent rfl _ | refine And.intro ?_ ?_)
    · conv => whnf
      refine .nilT 10 36 2 (pfs []) _ _ rfl ?_
      conv => whnf
      refine .inv Nat (fun j => j ≤ l.length) (fun j => [(10, .all 0), (89, .d (.int .i64 j))]) (fun j => [(0, .row 36 2 j (zOf j) (pfs (l.take j).reverse))]) (fun j => l.length - j) ⟨0, [0], Nat.zero_le _, ?_⟩ ?_
      · conv => whnf
        repeat' (first | exact True.intro | exact rfl | exact subZ_self _ | exact Or.inr rfl | exact fun _ _ => rfl | exact fun _ h => absurd h (Nat.not_lt_zero _) | refine And.intro ?_ ?_)
      intro j hj
      conv => whnf
      refine ⟨fun c2 => ?_, fun c2 => ?_⟩
      · have c2 : (j : Int) < l.length := of_decide_eq_true c2
        have hjl : j < l.length := by omega
        have hw1 : IntKind.i64.wrap ((j : Int) + 1) = ((j + 1 : Nat) : Int) := by rw [w64_in _ (by omega)]; omega
        have htk := take_getD hjl
        conv => whnf
        refine ⟨by omega, ?_⟩
        conv => whnf
        rw [Int.toNat_natCast]
        refine ⟨by omega, ?_⟩
        conv => whnf
        refine ⟨j + 1, [3], hjl, by omega, ?_⟩
        conv => whnf
        rw [hw1]
        repeat' (first | exact True.intro | exact rfl | exact subZ_self _ | exact Or.inr rfl | exact fun _ _ => rfl | exact fun _ h => absurd h (Nat.not_lt_zero _) | refine And.intro ?_ ?_)
        · omega
        · intro x hx
          rw [htk, List.reverse_append]
          exact pfs_front (l.take j).reverse _ x (by rw [List.length_reverse, List.length_take]; omega)
      · have c2 : ¬ (j : Int) < l.length := of_decide_eq_false c2
        obtain rfl : j = l.length := by omega
        rw [List.take_length]
        have hL := lean_ok m.isEmpty m hm (by omega)
        rw [hs1] at hL
        have hS := psame_ok m.isEmpty m.isEmpty m m (by omega) (by omega)
        rw [decide_eq_true rfl] at hS
        have hrev : ∀ p ∈ l.reverse, p.addr < 4294967296 := fun p hp => hl p (List.mem_reverse.1 hp)
        conv => whnf
        refine .one (.data _ hL rfl rfl ?_)
        conv => whnf
        refine .one (.data _ hS rfl rfl ?_)
        conv => whnf
        refine brT rfl ?_
        conv => whnf
        have hz : zOf l.length = .iff ∨ zOf l.length = .no := by
          cases l.length
          · exact .inl rfl
          · exact .inr rfl
        have hR := fun y => lean_ok y l.reverse hrev (by rw [List.length_reverse]; omega)
        simp only [hs2, List.length_reverse] at hR
        rcases hz with hz | hz
        · rw [hz]
          refine .one (.frz (r := .d (.sl m.isEmpty m.length 2 (pfs m))) (as' := [.d (.sl (Nat.beq l.length 0) l.length 2 (pfs l.reverse))]) (fr := [0]) (hR _) ?_ rfl rfl ?_)
          · conv => whnf
            exact ⟨rfl, rfl⟩
          conv => whnf
          refine .one (.data _ hS rfl rfl ?_)
          conv => whnf
        · rw [hz]
          refine .one (.frz (r := .d (.sl m.isEmpty m.length 2 (pfs m))) (as' := [.d (.sl false l.length 2 (pfs l.reverse))]) (fr := [0]) (hR _) ?_ rfl rfl ?_)
          · conv => whnf
            exact ⟨rfl, rfl⟩
          conv => whnf
          refine .one (.data _ hS rfl rfl ?_)
          conv => whnf
end Go.Proofs.YtjeihmchcfadlaaDoor
namespace Go.Proofs.YtjeihmchcfadlaaDoor
open Go Go.Eng
/-- Two things of a row change places. -/
def swpF {α : Type} (g : Nat → α) (i j : Nat) : Nat → α := fun x => if x = i then g j else if x = j then g i else g x
theorem swpF_l {α : Type} (g : Nat → α) (i j : Nat) : swpF g i j i = g j := if_pos rfl
theorem swpF_r {α : Type} (g : Nat → α) (i j : Nat) : swpF g i j j = g i := by
  unfold swpF
  split
  · rename_i h; rw [h]
  · exact if_pos rfl
theorem swpF_o {α : Type} (g : Nat → α) {i j x : Nat} (h1 : x ≠ i) (h2 : x ≠ j) : swpF g i j x = g x := by
  unfold swpF
  rw [if_neg h1, if_neg h2]
/-- The first things of a row: each has its number, and is due when that says. -/
def IsW (A g : Nat → Nat) (L : Nat) (e : Nat → Int × Int) : Prop := ∀ x, x < L → e x = ((g x : Int), (A (g x) : Int))
theorem IsW.swp {A g : Nat → Nat} {L : Nat} {e : Nat → Int × Int} (h : IsW A g L e) {i j : Nat} (hi : i < L) (hj : j < L) : IsW A (swpF g i j) L (swpF e i j) := fun x hx => by
  by_cases h1 : x = i
  · subst h1; rw [swpF_l, swpF_l]; exact h j hj
  · by_cases h2 : x = j
    · subst h2; rw [swpF_r, swpF_r]; exact h i hi
    · rw [swpF_o _ h1 h2, swpF_o _ h1 h2]; exact h x hx
/-- A map's things are numbers, and its keys are numbers from k on. -/
def MapD (l : List (List DV × List SV)) : Prop := ∀ p ∈ l, ∃ y : Nat, p.2 = [.d (.int .i64 y)]
def MapLo (l : List (List DV × List SV)) (k : Nat) : Prop := ∀ p ∈ l, ∃ x : Nat, p.1 = [.int .i64 x] ∧ k ≤ x
theorem MapD.ren {ρ : List Nat} : ∀ {l : List (List DV × List SV)}, MapD l → renM ρ l = l
  | [], _ => rfl
  | (k, v) :: l, h => by
    obtain ⟨y, hy⟩ := h _ (List.mem_cons_self ..)
    have hy : v = [.d (.int .i64 y)] := hy
    have ih := MapD.ren (ρ := ρ) (l := l) fun p hp => h p (List.mem_cons_of_mem _ hp)
    simp only [renM, ih, hy, renL, renV]
theorem putM_mem {p : List DV × List SV} {key : List DV} {vs : List SV} : ∀ {l : List (List DV × List SV)}, p ∈ putM l key vs → p = (key, vs) ∨ p ∈ l
  | [], h => by simpa [putM] using h
  | (k, v) :: l, h => by
    simp only [putM] at h
    split at h
    · rcases List.mem_cons.1 h with h | h
      · exact .inl h
      · exact .inr (List.mem_cons_of_mem _ h)
    · rcases List.mem_cons.1 h with h | h
      · exact .inr (h ▸ List.mem_cons_self ..)
      · exact (putM_mem h).imp id (List.mem_cons_of_mem _)
theorem delM_mem {p : List DV × List SV} {key : List DV} : ∀ {l : List (List DV × List SV)}, p ∈ delM l key → p ∈ l
  | [], h => by simp [delM] at h
  | (k, v) :: l, h => by
    simp only [delM] at h
    split at h
    · exact List.mem_cons_of_mem _ h
    · rcases List.mem_cons.1 h with h | h
      · exact h ▸ List.mem_cons_self ..
      · exact List.mem_cons_of_mem _ (delM_mem h)
theorem MapD.put {l : List (List DV × List SV)} (h : MapD l) (key : List DV) (y : Nat) : MapD (putM l key [.d (.int .i64 y)]) := fun p hp => by
  rcases putM_mem hp with rfl | hp
  · exact ⟨y, rfl⟩
  · exact h p hp
theorem MapD.del {l : List (List DV × List SV)} (h : MapD l) (key : List DV) : MapD (delM l key) := fun p hp => h p (delM_mem hp)
theorem MapLo.put {l : List (List DV × List SV)} {k : Nat} (h : MapLo l k) {x : Nat} (hx : k ≤ x) {y : Int} (hy : y = x) (vs : List SV) : MapLo (putM l [.int .i64 y] vs) k := fun p hp => by
  rcases putM_mem hp with rfl | hp
  · exact ⟨x, by rw [hy], hx⟩
  · exact h p hp
theorem MapLo.del {l : List (List DV × List SV)} {k : Nat} (h : MapLo l k) (key : List DV) : MapLo (delM l key) k := fun p hp => h p (delM_mem hp)
theorem MapLo.less {l : List (List DV × List SV)} {k k' : Nat} (h : MapLo l k) (hk : k' ≤ k) : MapLo l k' := fun p hp => by
  obtain ⟨x, h1, h2⟩ := h p hp
  exact ⟨x, h1, by omega⟩
theorem MapLo.none : ∀ {l : List (List DV × List SV)} {k : Nat}, MapLo l (k + 1) → findM l [.int .i64 k] = Option.none
  | [], _, _ => rfl
  | (a, v) :: l, k, h => by
    obtain ⟨x, h1, h2⟩ := h _ (List.mem_cons_self ..)
    have h1 : a = [.int .i64 x] := h1
    have ih := MapLo.none (l := l) (k := k) fun p hp => h p (List.mem_cons_of_mem _ hp)
    show (if keyEq [.int .i64 k] a then some v else findM l [.int .i64 k]) = Option.none
    rw [h1, ih, if_neg]
    simp only [keyEq, dEq, Bool.and_true, Bool.and_eq_true, beq_iff_eq, not_and]
    intro _ e
    omega
/-- Nothing stands ahead of what is above it. -/
def HeapW (g : Nat → Nat) (L : Nat) : Prop := ∀ j, 0 < j → j < L → g ((j - 1) / 2) ≤ g j
/-- But for the thing at i, which may stand too low. -/
def UpW (g : Nat → Nat) (L i : Nat) : Prop := (∀ j, 0 < j → j < L → j ≠ i → g ((j - 1) / 2) ≤ g j) ∧ ∀ j, 0 < j → j < L → (j - 1) / 2 = i → 0 < i → g ((i - 1) / 2) ≤ g j
/-- But for the thing at i, which may stand too high. -/
def DownW (g : Nat → Nat) (L i : Nat) : Prop := (∀ j, 0 < j → j < L → (j - 1) / 2 ≠ i → g ((j - 1) / 2) ≤ g j) ∧ ∀ j, 0 < j → j < L → (j - 1) / 2 = i → 0 < i → g ((i - 1) / 2) ≤ g j
theorem UpW.swap {g : Nat → Nat} {L i : Nat} (h : UpW g L i) (h0 : 0 < i) (hi : i < L) (hlt : g i < g ((i - 1) / 2)) : UpW (swpF g i ((i - 1) / 2)) L ((i - 1) / 2) := by
  obtain ⟨h1, h2⟩ := h
  have ha : (i - 1) / 2 < i := by omega
  generalize hA : (i - 1) / 2 = a at *
  refine ⟨fun j j0 jL jn => ?_, fun j j0 jL jp a0 => ?_⟩
  · by_cases ji : j = i
    · subst ji
      rw [hA, swpF_r, swpF_l]
      omega
    · have hj := h1 j j0 jL ji
      rw [swpF_o g ji jn]
      by_cases b1 : (j - 1) / 2 = i
      · rw [b1, swpF_l]
        exact h2 j j0 jL b1 h0
      · by_cases b2 : (j - 1) / 2 = a
        · rw [b2] at hj
          rw [b2, swpF_r]
          omega
        · rw [swpF_o g b1 b2]
          exact hj
  · have hj := h1 a a0 (by omega) (by omega)
    rw [swpF_o g (show (a - 1) / 2 ≠ i by omega) (show (a - 1) / 2 ≠ a by omega)]
    by_cases ji : j = i
    · subst ji
      rw [swpF_l]
      exact hj
    · rw [swpF_o g ji (show j ≠ a by omega)]
      have := h1 j j0 jL ji
      rw [jp] at this
      omega
theorem UpW.done {g : Nat → Nat} {L i : Nat} (h : UpW g L i) (hn : i = 0 ∨ g ((i - 1) / 2) ≤ g i) : HeapW g L := by
  intro j j0 jL
  by_cases ji : j = i
  · subst ji
    rcases hn with hn | hn
    · omega
    · exact hn
  · exact h.1 j j0 jL ji
theorem DownW.swap {g : Nat → Nat} {L i c : Nat} (h : DownW g L i) (hc : (c - 1) / 2 = i) (c0 : 0 < c) (hcL : c < L) (hlt : g c < g i) (hle : ∀ j, 0 < j → j < L → (j - 1) / 2 = i → g c ≤ g j) : DownW (swpF g i c) L c := by
  obtain ⟨h1, h2⟩ := h
  refine ⟨fun j j0 jL jn => ?_, fun j j0 jL jp _ => ?_⟩
  · by_cases ji : j = i
    · subst ji
      rw [swpF_l, swpF_o g (show (j - 1) / 2 ≠ j by omega) jn]
      exact h2 c c0 hcL hc j0
    · by_cases jc : j = c
      · subst jc
        rw [hc, swpF_l, swpF_r]
        omega
      · rw [swpF_o g ji jc]
        by_cases jp : (j - 1) / 2 = i
        · rw [jp, swpF_l]
          exact hle j j0 jL jp
        · rw [swpF_o g jp jn]
          exact h1 j j0 jL jp
  · rw [hc, swpF_l, swpF_o g (show j ≠ i by omega) (show j ≠ c by omega)]
    have := h1 j j0 jL (by omega)
    rw [jp] at this
    exact this
theorem DownW.done {g : Nat → Nat} {L i : Nat} (h : DownW g L i) (hn : ∀ j, 0 < j → j < L → (j - 1) / 2 = i → g i ≤ g j) : HeapW g L := by
  intro j j0 jL
  by_cases jp : (j - 1) / 2 = i
  · have := hn j j0 jL jp
    rw [jp]
    exact this
  · exact h.1 j j0 jL jp
theorem HeapW.least {g : Nat → Nat} {L : Nat} (h : HeapW g L) : ∀ j, j < L → g 0 ≤ g j := by
  intro j
  induction j using Nat.strongRecOn with
  | ind j ih =>
    intro hj
    by_cases j0 : j = 0
    · subst j0; exact Nat.le_refl _
    · have := ih ((j - 1) / 2) (by omega) (by omega)
      have := h j (by omega) hj
      omega
/-- The things are the numbers from k on, below n, each once. -/
structure AllW (g : Nat → Nat) (L k n : Nat) : Prop where
  len : L + k = n
  lo : ∀ i, i < L → k ≤ g i ∧ g i < n
  inj : ∀ i j, i < L → j < L → g i = g j → i = j
  onto : ∀ x, k ≤ x → x < n → ∃ i, i < L ∧ g i = x
theorem AllW.swap {g : Nat → Nat} {L k n i j : Nat} (h : AllW g L k n) (hi : i < L) (hj : j < L) : AllW (swpF g i j) L k n := by
  have key : ∀ x, x < L → ∃ y, y < L ∧ swpF g i j x = g y ∧ (x = i → y = j) ∧ (x ≠ i → x = j → y = i) ∧ (x ≠ i → x ≠ j → y = x) := by
    intro x hx
    by_cases e1 : x = i
    · exact ⟨j, hj, by rw [e1, swpF_l], fun _ => rfl, fun h => absurd e1 h, fun h => absurd e1 h⟩
    · by_cases e2 : x = j
      · exact ⟨i, hi, by rw [e2, swpF_r], fun h => absurd h e1, fun _ _ => rfl, fun _ h => absurd e2 h⟩
      · exact ⟨x, hx, swpF_o g e1 e2, fun h => absurd h e1, fun _ h => absurd h e2, fun _ _ => rfl⟩
  refine ⟨h.len, fun x hx => ?_, fun x y hx hy e => ?_, fun v h1 h2 => ?_⟩
  · obtain ⟨y, hy, e, _⟩ := key x hx
    rw [e]
    exact h.lo y hy
  · obtain ⟨x', hx', ex, x1, x2, x3⟩ := key x hx
    obtain ⟨y', hy', ey, y1, y2, y3⟩ := key y hy
    have := h.inj x' y' hx' hy' (by rw [← ex, ← ey, e])
    omega
  · obtain ⟨x, hx, e⟩ := h.onto v h1 h2
    by_cases e1 : x = i
    · exact ⟨j, hj, by rw [swpF_r, ← e1, e]⟩
    · by_cases e2 : x = j
      · exact ⟨i, hi, by rw [swpF_l, ← e2, e]⟩
      · exact ⟨x, hx, by rw [swpF_o g e1 e2, e]⟩
/-- A thing more, behind the others. -/
def addW (g : Nat → Nat) (L k : Nat) : Nat → Nat := fun x => if x < L then g x else k
theorem AllW.add {g : Nat → Nat} {L k n : Nat} (h : AllW g L (k + 1) n) : AllW (addW g L k) (L + 1) k n := by
  have hlt : ∀ x, x < L → addW g L k x = g x := fun x hx => if_pos hx
  have hL : addW g L k L = k := if_neg (Nat.lt_irrefl _)
  refine ⟨by have := h.len; omega, fun x hx => ?_, fun x y hx hy e => ?_, fun v h1 h2 => ?_⟩
  · by_cases e : x < L
    · rw [hlt x e]
      have := h.lo x e
      omega
    · rw [show x = L by omega, hL]
      have := h.len
      omega
  · by_cases ex : x < L
    · by_cases ey : y < L
      · rw [hlt x ex, hlt y ey] at e
        exact h.inj x y ex ey e
      · have := h.lo x ex
        rw [hlt x ex, show y = L by omega, hL] at e
        omega
    · by_cases ey : y < L
      · have := h.lo y ey
        rw [hlt y ey, show x = L by omega, hL] at e
        omega
      · omega
  · by_cases e : v = k
    · exact ⟨L, by omega, by rw [hL, e]⟩
    · obtain ⟨i, hi, hv⟩ := h.onto v (by omega) h2
      exact ⟨i, by omega, by rw [hlt i hi, hv]⟩
theorem UpW.add {g : Nat → Nat} {L k : Nat} (h : HeapW g L) : UpW (addW g L k) (L + 1) L := by
  have hlt : ∀ x, x < L → addW g L k x = g x := fun x hx => if_pos hx
  refine ⟨fun j j0 jL jn => ?_, fun j j0 jL jp _ => by omega⟩
  rw [hlt j (by omega), hlt _ (by omega)]
  exact h j j0 (by omega)
theorem AllW.first {g : Nat → Nat} {L k n : Nat} (h : AllW g L k n) (hh : HeapW g L) (h0 : 0 < L) : g 0 = k := by
  obtain ⟨i, hi, e⟩ := h.onto k (Nat.le_refl _) (by have := h.len; omega)
  have := hh.least i hi
  have := (h.lo 0 h0).1
  omega
/-- The first one is taken out: the last one stands in its place. -/
theorem AllW.cut {g : Nat → Nat} {L k n : Nat} (h : AllW g (L + 1) k n) (h0 : g 0 = k) : AllW (swpF g 0 L) L (k + 1) n := by
  have hs := h.swap (i := 0) (j := L) (by omega) (by omega)
  have hr : swpF g 0 L L = k := by rw [swpF_r, h0]
  refine ⟨by have := h.len; omega, fun x hx => ?_, fun x y hx hy e => hs.inj x y (by omega) (by omega) e, fun v h1 h2 => ?_⟩
  · have h1 := hs.lo x (by omega)
    have : swpF g 0 L x ≠ k := fun e => by
      have := hs.inj x L (by omega) (by omega) (by rw [e, hr])
      omega
    omega
  · obtain ⟨i, hi, e⟩ := hs.onto v (by omega) h2
    refine ⟨i, Classical.byContradiction fun hn => ?_, e⟩
    rw [show i = L by omega, hr] at e
    omega
theorem AllW.pop {g : Nat → Nat} {L k n : Nat} (h : AllW g (L + 1) k n) (h0 : g L = k) : AllW g L (k + 1) n := by
  refine ⟨by have := h.len; omega, fun x hx => ?_, fun x y hx hy e => h.inj x y (by omega) (by omega) e, fun v h1 h2 => ?_⟩
  · have h1 := h.lo x (by omega)
    have : g x ≠ k := fun e => by
      have := h.inj x L (by omega) (by omega) (by rw [e, h0])
      omega
    omega
  · obtain ⟨i, hi, e⟩ := h.onto v (by omega) h2
    refine ⟨i, Classical.byContradiction fun hn => ?_, e⟩
    rw [show i = L by omega, h0] at e
    omega
theorem HeapW.up {g : Nat → Nat} {L : Nat} (h : HeapW g L) : UpW g L 0 := ⟨fun j j0 jL _ => h j j0 jL, fun j j0 jL _ h0 => absurd h0 (Nat.lt_irrefl _)⟩
theorem DownW.cut {g : Nat → Nat} {L : Nat} (h : HeapW g (L + 1)) : DownW (swpF g 0 L) L 0 := by
  refine ⟨fun j j0 jL jn => ?_, fun j j0 jL jp h0 => absurd h0 (Nat.lt_irrefl _)⟩
  rw [swpF_o g (show j ≠ 0 by omega) (show j ≠ L by omega), swpF_o g (show (j - 1) / 2 ≠ 0 by omega) (show (j - 1) / 2 ≠ L by omega)]
  exact h j j0 (by omega)
end Go.Proofs.YtjeihmchcfadlaaDoor
namespace Go.Proofs.YtjeihmchcfadlaaDoor
open Go Go.Eng
set_option maxRecDepth 100000
set_option maxHeartbeats 4000000
/-- A thing as it stands: its number, and when it is due. -/
def thV (e : Int × Int) : SV := .agg [.d (.int .i64 e.1), .d (.int .i64 e.2)]
theorem before_ok (a b : Int × Int) : FnOk Tryd.prog 61 [thV a, thV b] (.d (.bool (if a.2 = b.2 then decide (a.1 < b.1) else decide (a.2 < b.2)))) := by
  refine fnOk_of_run (TT := TT) (IN := lookI []) TT_ok INok_nil mixed 1000 Tryd.func61 rfl (enters Tryd.func61 (by kernel_rfl) rfl) rfl 18 (by kernel_rfl) ?_
  conv => whnf
  by_cases h : a.2 = b.2
  · rw [if_pos h]
    refine brF (by simp [h]) ?_
    conv => whnf
  · rw [if_neg h]
    refine brT (by simpa using h) ?_
    conv => whnf
theorem key_ok (a : Int × Int) : FnOk Tryd.prog 62 [thV a] (.d (.int .i64 a.1)) := by
  refine fnOk_of_run (TT := TT) (IN := lookI []) TT_ok INok_nil mixed 1000 Tryd.func62 rfl (enters Tryd.func62 (by kernel_rfl) rfl) rfl 4 (by kernel_rfl) ?_
  conv => whnf
/-- The order of things that have their numbers' times. -/
theorem bef_is {A : Nat → Nat} {n : Nat} (hA : ∀ x y, x < y → y < n → A x < A y) {x y : Nat} (hx : x < n) (hy : y < n) : (if ((A x : Nat) : Int) = (A y : Nat) then decide ((x : Int) < y) else decide ((A x : Int) < (A y : Nat))) = decide (x < y) := by
  rcases Nat.lt_trichotomy x y with h | h | h
  · have := hA x y h hy
    rw [if_neg (by omega), decide_eq_true (by omega), decide_eq_true h]
  · subst h
    rw [if_pos rfl, decide_eq_false (by omega), decide_eq_false (by omega)]
  · have := hA y x h hx
    rw [if_neg (by omega), decide_eq_false (by omega), decide_eq_false (by omega)]
/-- The wheel's cells, its numbers' places, its things. -/
def wC (s : SV) : KB := .cells 102 [.fn 61 [], .fn 62 [], s, .map 1]
def thF (e : Nat → Int × Int) : Nat → List DV := fun i => [.int .i64 (e i).1, .int .i64 (e i).2]
def wK (e : Nat → Int × Int) (N : Nat) (z : Z) (l : List (List DV × List SV)) (s : SV) : List KB := [wC s, .map [EK.int .i64] false false l, .row 95 2 N z (thF e)]
def iN (n : Nat) : SV := .d (.int .i64 n)
theorem thF_swp (e : Nat → Int × Int) (i j : Nat) : oneF j 0 [.int .i64 (e i).1, .int .i64 (e i).2] (oneF i 0 [.int .i64 (e j).1, .int .i64 (e j).2] (thF e)) = thF (swpF e i j) := by
  funext x
  show oneF j 0 _ _ x = [.int .i64 (swpF e i j x).1, .int .i64 (swpF e i j x).2]
  unfold oneF
  by_cases h2 : x = j
  · subst h2
    rw [if_pos rfl, swpF_r]
    by_cases h1 : x = i
    · rw [if_pos h1]; rfl
    · rw [if_neg h1]; rfl
  · rw [if_neg h2]
    by_cases h1 : x = i
    · subst h1
      rw [if_pos rfl, swpF_l]; rfl
    · rw [if_neg h1, swpF_o e h1 h2]; rfl
def swpM (e : Nat → Int × Int) (l : List (List DV × List SV)) (i j : Nat) : List (List DV × List SV) := putM (putM l [.int .i64 (swpF e i j i).1] [iN i]) [.int .i64 (swpF e i j j).1] [iN j]
theorem swpM_d {l : List (List DV × List SV)} (h : MapD l) (e : Nat → Int × Int) (i j : Nat) : MapD (swpM e l i j) := (h.put _ i).put _ j
theorem swapW_ok (e : Nat → Int × Int) (N L : Nat) (z : Z) (l : List (List DV × List SV)) (hm : MapD l) (i j : Nat) (hi : i < L) (hj : j < L) (hL : L ≤ N) : COk Tryd.prog 87 [.ptr 0 0, iN i, iN j] (wK e N z l (.row 2 0 L))
    (fun s k => s = .tup [] ∧ k = wK (swpF e i j) N z (swpM e l i j) (.row 2 0 L)) := by
  refine cOk_of_run (TT := TT) (IN := lookI []) TT_ok INok_nil mixed 1000 Tryd.func87 rfl (enters Tryd.func87 (by kernel_rfl) rfl) 63 (by kernel_rfl) ?_
  conv => whnf
  apply Exists.intro
  refine ⟨wK (swpF e i j) N z l (.row 2 0 L), ?_, ?_⟩
  · conv => whnf
    refine ⟨⟨by omega, by omega, by omega⟩, ?_⟩
    conv => whnf
    refine ⟨⟨by omega, by omega, by omega⟩, ?_⟩
    conv => whnf
    refine ⟨⟨by omega, by omega, by omega⟩, ?_⟩
    conv => whnf
    refine ⟨?_, ?_⟩
    rotate_left
    · repeat' (first | exact True.intro | refine And.intro ?_ ?_ | (conv => whnf))
    conv => whnf
    refine ⟨⟨by omega, by omega, by omega⟩, ?_⟩
    conv => whnf
    refine ⟨?_, ?_⟩
    rotate_left
    · repeat' (first | exact True.intro | refine And.intro ?_ ?_ | (conv => whnf))
    conv => whnf
    refine ⟨rfl, ?_⟩
    · rw [Int.toNat_natCast, Int.toNat_natCast, Nat.zero_add, Nat.zero_add]
      exact congrArg (fun f => [wC (.row 2 0 L), KB.map [EK.int .i64] false false l, .row 95 2 N z f]) (thF_swp e i j)
  · conv => whnf
    refine ⟨⟨by omega, by omega, by omega⟩, ?_⟩
    conv => whnf
    rw [Int.toNat_natCast, Nat.zero_add]
    refine .data _ (key_ok _) rfl rfl ?_
    conv => whnf
    refine ⟨_, rfl, ?_⟩
    conv => whnf
    refine ⟨⟨by omega, by omega, by omega⟩, ?_⟩
    conv => whnf
    rw [Int.toNat_natCast, Nat.zero_add]
    refine .data _ (key_ok _) rfl rfl ?_
    conv => whnf
    refine ⟨_, rfl, ?_⟩
    conv => whnf
    refine ⟨[0, 1, 2], _, _, rfl, rfl, ?_, ?_, rfl, rfl⟩
    · exact rfl
    · conv => whnf
      repeat' (first | exact True.intro | exact rfl | exact subZ_self _ | exact Or.inr rfl | exact fun _ _ => rfl | exact fun _ h => absurd h (Nat.not_lt_zero _) | refine And.intro ?_ ?_)
      exact (swpM_d hm e i j).ren
end Go.Proofs.YtjeihmchcfadlaaDoor
namespace Go.Proofs.YtjeihmchcfadlaaDoor
open Go Go.Eng
set_option maxRecDepth 100000
set_option maxHeartbeats 4000000
/-- What up, down and cut are asked of, and what they leave. -/
structure InW (A : Nat → Nat) (n k0 k L : Nat) (e : Nat → Int × Int) (g : Nat → Nat) (l : List (List DV × List SV)) : Prop where
  is : IsW A g L e
  all : AllW g L k n
  lo : MapLo l k0
  dat : MapD l
theorem InW.swp {A : Nat → Nat} {n k0 k L : Nat} {e : Nat → Int × Int} {g : Nat → Nat} {l : List (List DV × List SV)} (h : InW A n k0 k L e g l) (hk : k0 ≤ k) {i j : Nat} (hi : i < L) (hj : j < L) : InW A n k0 k L (swpF e i j) (swpF g i j) (swpM e l i j) := by
  have h1 := h.is.swp hi hj
  have h2 := h.all.swap hi hj
  have e1 := h1 i hi
  have e2 := h1 j hj
  refine ⟨h1, h2, ?_, swpM_d h.dat e i j⟩
  have a1 := (h2.lo i hi).1
  have a2 := (h2.lo j hj).1
  exact (h.lo.put (x := swpF g i j i) (by omega) (by rw [e1]) _).put (x := swpF g i j j) (by omega) (by rw [e2]) _
theorem upW_ok (A : Nat → Nat) (n : Nat) (hA : ∀ x y, x < y → y < n → A x < A y) (k0 k N L : Nat) (hk : k0 ≤ k) (hN : N < 1000000) (hL : L ≤ N) (z : Z) (e : Nat → Int × Int) (g : Nat → Nat) (l : List (List DV × List SV)) (h : InW A n k0 k L e g l) (i : Nat) (hi : i < L) (hu : UpW g L i) :
    COk Tryd.prog 86 [.ptr 0 0, iN i] (wK e N z l (.row 2 0 L)) (fun s kk => s = .tup [] ∧ ∃ e' g' l', InW A n k0 k L e' g' l' ∧ HeapW g' L ∧ kk = wK e' N z l' (.row 2 0 L)) := by
  refine cOk_of_run (TT := TT) (IN := lookI []) TT_ok INok_nil mixed 1000 Tryd.func86 rfl (enters Tryd.func86 (by kernel_rfl) rfl) 33 (by kernel_rfl) ?_
  conv => whnf
  refine .inv ((Nat → Int × Int) × (Nat → Nat) × List (List DV × List SV) × Nat) (fun s => InW A n k0 k L s.1 s.2.1 s.2.2.1 ∧ UpW s.2.1 L s.2.2.2 ∧ s.2.2.2 < L) (fun s => [(1, iN s.2.2.2)]) (fun s => [(1, .map [EK.int .i64] false false s.2.2.1), (2, .row 95 2 N z (thF s.1))]) (fun s => s.2.2.2) ⟨(e, g, l, i), [0, 1, 2], ⟨h, hu, hi⟩, ?_⟩ ?_
  · conv => whnf
    repeat' (first | exact True.intro | exact rfl | exact subZ_self _ | exact Or.inr rfl | exact fun _ _ => rfl | exact fun _ h => absurd h (Nat.not_lt_zero _) | refine And.intro ?_ ?_)
    exact h.dat.ren
  intro s hs
  clear h hu hi
  conv => whnf
  generalize h1 : s.1 = e at hs ⊢
  generalize h2 : s.2.1 = g at hs ⊢
  generalize h3 : s.2.2.1 = l at hs ⊢
  generalize h4 : s.2.2.2 = i at hs ⊢
  obtain ⟨h, hu, hi⟩ := hs
  refine ⟨fun c1 => ?_, fun c1 => ?_⟩
  · have c1 : 0 < i := by have h : (i : Int) > 0 := of_decide_eq_true c1
                          omega
    have e1 : IntKind.i64.wrap ((i : Int) - 1) = ((i - 1 : Nat) : Int) := by rw [w64_in _ (by omega)]; omega
    have e2 : IntKind.i64.wrap (((i - 1 : Nat) : Int).tdiv 2) = ((i - 1) / 2 : Nat) := by
      rw [Int.tdiv_eq_ediv_of_nonneg (by omega), w64_in _ (by omega)]
      omega
    have hal : (i - 1) / 2 < L := by omega
    conv => whnf
    rw [e1]
    refine ⟨by decide, ?_⟩
    conv => whnf
    rw [e2]
    refine ⟨⟨by omega, by omega, by omega⟩, ?_⟩
    conv => whnf
    refine ⟨⟨by omega, by omega, by omega⟩, ?_⟩
    conv => whnf
    rw [Int.toNat_natCast, Int.toNat_natCast, Nat.zero_add, Nat.zero_add]
    have hb := before_ok (e i) (e ((i - 1) / 2))
    rw [h.is i hi, h.is _ hal, bef_is hA (h.all.lo i hi).2 (h.all.lo _ hal).2, ← h.is i hi, ← h.is _ hal] at hb
    refine .one (.data _ hb rfl rfl ?_)
    by_cases hlt : g i < g ((i - 1) / 2)
    · rw [decide_eq_true hlt]
      conv => whnf
      refine brF rfl ?_
      conv => whnf
      refine .rel _ (swapW_ok e N L z l h.dat i ((i - 1) / 2) hi hal hL) (fun r ks' hR => ?_)
      obtain ⟨rfl, rfl⟩ := hR
      conv => whnf
      refine ⟨(swpF e i ((i - 1) / 2), swpF g i ((i - 1) / 2), swpM e l i ((i - 1) / 2), (i - 1) / 2), [0, 1, 2], ⟨h.swp hk hi hal, hu.swap c1 hi hlt, hal⟩, show (i - 1) / 2 < i by omega, ?_⟩
      conv => whnf
      repeat' (first | exact True.intro | exact rfl | exact subZ_self _ | exact Or.inr rfl | exact fun _ _ => rfl | exact fun _ h => absurd h (Nat.not_lt_zero _) | refine And.intro ?_ ?_)
      exact (h.swp hk hi hal).dat.ren
    · rw [decide_eq_false hlt]
      conv => whnf
      refine brT rfl ?_
      conv => whnf
      refine ⟨[0, 1, 2], _, _, rfl, rfl, ?_, ?_, rfl, e, g, l, h, hu.done (.inr (by omega)), rfl⟩
      · exact rfl
      · conv => whnf
        repeat' (first | exact True.intro | exact rfl | exact subZ_self _ | exact Or.inr rfl | exact fun _ _ => rfl | exact fun _ h => absurd h (Nat.not_lt_zero _) | refine And.intro ?_ ?_)
        exact h.dat.ren
  · conv => whnf
    refine ⟨[0, 1, 2], _, _, rfl, rfl, ?_, ?_, rfl, e, g, l, h, hu.done (.inl (by have h : ¬ ((i : Int) > 0) := of_decide_eq_false c1
                                                                                  omega)), rfl⟩
    · exact rfl
    · conv => whnf
      repeat' (first | exact True.intro | exact rfl | exact subZ_self _ | exact Or.inr rfl | exact fun _ _ => rfl | exact fun _ h => absurd h (Nat.not_lt_zero _) | refine And.intro ?_ ?_)
      exact h.dat.ren
end Go.Proofs.YtjeihmchcfadlaaDoor
namespace Go.Proofs.YtjeihmchcfadlaaDoor
open Go Go.Eng
set_option maxRecDepth 100000
set_option maxHeartbeats 4000000
/-- Where the inner loop of down stands. -/
structure InnW (g : Nat → Nat) (L i b m : Nat) : Prop where
  lo : 2 * i + 1 ≤ b
  hi : b ≤ 2 * i + 3
  ml : m < L
  mi : m = i ∨ ((m - 1) / 2 = i ∧ 0 < m ∧ g m < g i)
  le : ∀ j, 0 < j → j < L → (j - 1) / 2 = i → j < b → g m ≤ g j
theorem InnW.next {g : Nat → Nat} {L i b m : Nat} (h : InnW g L i b m) (hb : b ≤ 2 * i + 2) (hL : b < L) : InnW g L i (b + 1) (if g b < g m then b else m) := by
  obtain ⟨h1, h2, h3, h4, h5⟩ := h
  split
  · rename_i hlt
    refine ⟨by omega, by omega, hL, .inr ⟨by omega, by omega, ?_⟩, fun j j0 jL jp jb => ?_⟩
    · rcases h4 with h4 | h4
      · rw [h4] at hlt; exact hlt
      · omega
    · by_cases e : j = b
      · rw [e]; exact Nat.le_refl _
      · have := h5 j j0 jL jp (by omega)
        omega
  · rename_i hlt
    refine ⟨by omega, by omega, h3, h4, fun j j0 jL jp jb => ?_⟩
    by_cases e : j = b
    · rw [e]; omega
    · exact h5 j j0 jL jp (by omega)
theorem downW_ok (A : Nat → Nat) (n : Nat) (hA : ∀ x y, x < y → y < n → A x < A y) (k0 k N L : Nat) (hk : k0 ≤ k) (hN : N < 1000000) (hL : L ≤ N) (z : Z) (e : Nat → Int × Int) (g : Nat → Nat) (l : List (List DV × List SV)) (h : InW A n k0 k L e g l) (i : Nat) (hi : i < L) (hu : DownW g L i) :
    COk Tryd.prog 88 [.ptr 0 0, iN i] (wK e N z l (.row 2 0 L)) (fun s kk => s = .tup [] ∧ ∃ e' g' l', InW A n k0 k L e' g' l' ∧ HeapW g' L ∧ kk = wK e' N z l' (.row 2 0 L)) := by
  refine cOk_of_run (TT := TT) (IN := lookI []) TT_ok INok_nil mixed 1000 Tryd.func88 rfl (enters Tryd.func88 (by kernel_rfl) rfl) 52 (by kernel_rfl) ?_
  conv => whnf
  refine .inv ((Nat → Int × Int) × (Nat → Nat) × List (List DV × List SV) × Nat) (fun s => InW A n k0 k L s.1 s.2.1 s.2.2.1 ∧ DownW s.2.1 L s.2.2.2 ∧ s.2.2.2 < L) (fun s => [(1, iN s.2.2.2)]) (fun s => [(1, .map [EK.int .i64] false false s.2.2.1), (2, .row 95 2 N z (thF s.1))]) (fun s => L - s.2.2.2) ⟨(e, g, l, i), [0, 1, 2], ⟨h, hu, hi⟩, ?_⟩ ?_
  · conv => whnf
    repeat' (first | exact True.intro | exact rfl | exact subZ_self _ | exact Or.inr rfl | exact fun _ _ => rfl | exact fun _ h => absurd h (Nat.not_lt_zero _) | refine And.intro ?_ ?_)
    exact h.dat.ren
  intro s hs
  clear h hu hi
  conv => whnf
  generalize h1 : s.1 = e at hs ⊢
  generalize h2 : s.2.1 = g at hs ⊢
  generalize h3 : s.2.2.1 = l at hs ⊢
  generalize h4 : s.2.2.2 = i at hs ⊢
  obtain ⟨h, hu, hi⟩ := hs
  have e1 : IntKind.i64.wrap (2 * (i : Int)) = ((2 * i : Nat) : Int) := by rw [w64_in _ (by omega)]; omega
  have e2 : IntKind.i64.wrap (((2 * i : Nat) : Int) + 1) = ((2 * i + 1 : Nat) : Int) := by rw [w64_in _ (by omega)]; omega
  have e3 : IntKind.i64.wrap (((2 * i : Nat) : Int) + 2) = ((2 * i + 2 : Nat) : Int) := by rw [w64_in _ (by omega)]; omega
  rw [e1, e2]
  refine .inv (Nat × Nat) (fun q => InnW g L i q.1 q.2) (fun q => [(4, iN q.2), (5, iN q.1)]) (fun q => []) (fun q => 2 * i + 3 - q.1) ⟨(2 * i + 1, i), [0, 1, 2], ⟨Nat.le_refl _, by omega, hi, .inl rfl, fun j j0 jL jp jb => by omega⟩, ?_⟩ ?_
  · conv => whnf
    repeat' (first | exact True.intro | exact rfl | exact subZ_self _ | exact Or.inr rfl | exact fun _ _ => rfl | exact fun _ h => absurd h (Nat.not_lt_zero _) | refine And.intro ?_ ?_)
    exact h.dat.ren
  intro q hq
  conv => whnf
  generalize hb : q.1 = b at hq ⊢
  generalize hm : q.2 = m at hq ⊢
  rw [e1, e3]
  have hmL := hq.ml
  rcases (show (b ≤ 2 * i + 2 ∧ b < L) ∨ (b ≤ 2 * i + 2 ∧ ¬ b < L) ∨ ¬ b ≤ 2 * i + 2 by omega) with hc | hc | hc
  · have e4 : IntKind.i64.wrap ((b : Int) + 1) = ((b + 1 : Nat) : Int) := by rw [w64_in _ (by omega)]; omega
    refine brT (decide_eq_true (by omega)) ?_
    conv => whnf
    refine brT (decide_eq_true (by omega)) ?_
    conv => whnf
    refine ⟨⟨by omega, by omega, by omega⟩, ?_⟩
    conv => whnf
    refine ⟨⟨by omega, by omega, by omega⟩, ?_⟩
    conv => whnf
    rw [Int.toNat_natCast, Int.toNat_natCast, Nat.zero_add, Nat.zero_add]
    have hbe := before_ok (e b) (e m)
    rw [h.is b hc.2, h.is m hmL, bef_is hA (h.all.lo b hc.2).2 (h.all.lo m hmL).2, ← h.is b hc.2, ← h.is m hmL] at hbe
    refine .one (.data _ hbe rfl rfl ?_)
    have hnx := hq.next hc.1 hc.2
    by_cases hlt : g b < g m
    · rw [if_pos hlt] at hnx
      rw [decide_eq_true hlt]
      conv => whnf
      refine brT rfl ?_
      conv => whnf
      refine ⟨(b + 1, b), [0, 1, 2], hnx, show 2 * i + 3 - (b + 1) < 2 * i + 3 - b by omega, ?_⟩
      conv => whnf
      rw [e4]
      repeat' (first | exact True.intro | exact rfl | exact subZ_self _ | exact Or.inr rfl | exact fun _ _ => rfl | exact fun _ h => absurd h (Nat.not_lt_zero _) | refine And.intro ?_ ?_)
      exact h.dat.ren
    · rw [if_neg hlt] at hnx
      rw [decide_eq_false hlt]
      conv => whnf
      refine brF rfl ?_
      conv => whnf
      refine ⟨(b + 1, m), [0, 1, 2], hnx, show 2 * i + 3 - (b + 1) < 2 * i + 3 - b by omega, ?_⟩
      conv => whnf
      rw [e4]
      repeat' (first | exact True.intro | exact rfl | exact subZ_self _ | exact Or.inr rfl | exact fun _ _ => rfl | exact fun _ h => absurd h (Nat.not_lt_zero _) | refine And.intro ?_ ?_)
      exact h.dat.ren
  refine brT (decide_eq_true (by omega)) ?_
  conv => whnf
  refine brF (decide_eq_false (by omega)) ?_
  conv => whnf
  have ho : 2 * i + 2 < b ∨ L ≤ b := by omega
  rotate_left
  refine brF (decide_eq_false (by omega)) ?_
  conv => whnf
  have ho : 2 * i + 2 < b ∨ L ≤ b := by omega
  all_goals
    have hex : ∀ j, 0 < j → j < L → (j - 1) / 2 = i → g m ≤ g j := fun j j0 jL jp => hq.le j j0 jL jp (by omega)
    by_cases hmi : m = i
    · subst hmi
      refine brT (by simp) ?_
      conv => whnf
      refine ⟨[0, 1, 2], _, _, rfl, rfl, ?_, ?_, rfl, e, g, l, h, hu.done hex, rfl⟩
      · exact rfl
      · conv => whnf
        repeat' (first | exact True.intro | exact rfl | exact subZ_self _ | exact Or.inr rfl | exact fun _ _ => rfl | exact fun _ h => absurd h (Nat.not_lt_zero _) | refine And.intro ?_ ?_)
        exact h.dat.ren
    · obtain ⟨m1, m2, m3⟩ := hq.mi.resolve_left hmi
      have hsw := h.swp hk hi hmL
      have hds := hu.swap m1 m2 hmL m3 hex
      refine brF (beq_eq_false_iff_ne.2 (by omega)) ?_
      conv => whnf
      refine .rel _ (swapW_ok e N L z l h.dat i m hi hmL hL) (fun r ks' hR => ?_)
      obtain ⟨rfl, rfl⟩ := hR
      conv => whnf
      refine ⟨(swpF e i m, swpF g i m, swpM e l i m, m), [0, 1, 2], ⟨hsw, hds, hmL⟩, show L - m < L - i by omega, ?_⟩
      conv => whnf
      repeat' (first | exact True.intro | exact rfl | exact subZ_self _ | exact Or.inr rfl | exact fun _ _ => rfl | exact fun _ h => absurd h (Nat.not_lt_zero _) | refine And.intro ?_ ?_)
      exact hsw.dat.ren
end Go.Proofs.YtjeihmchcfadlaaDoor
namespace Go.Proofs.YtjeihmchcfadlaaDoor
open Go Go.Eng
set_option maxRecDepth 100000
set_option maxHeartbeats 4000000
theorem MapD.map {σ : Nat → Nat} : ∀ {l : List (List DV × List SV)}, MapD l → mapM σ l = l
  | [], _ => rfl
  | (k, v) :: l, h => by
    obtain ⟨y, hy⟩ := h _ (List.mem_cons_self ..)
    have hy : v = [.d (.int .i64 y)] := hy
    have ih := MapD.map (σ := σ) (l := l) fun p hp => h p (List.mem_cons_of_mem _ hp)
    simp only [mapM, ih, hy, mapL, mapV]
theorem wK_map {σ : Nat → Nat} (h1 : σ 1 = 1) {e : Nat → Int × Int} {N : Nat} {z : Z} {l : List (List DV × List SV)} {s : SV} (hm : MapD l) (hs : mapV σ s = s) : mapB σ (wK e N z l s) = wK e N z l s := by
  show [KB.cells _ [.fn _ [], .fn _ [], mapV σ s, .map (σ 1)], KB.mapx _ _ _ (mapM σ l) _, _] = _
  rw [hs, h1, hm.map]
  rfl
/-- A contract over the wheel's blocks, others behind them. -/
theorem COk.wheel {f : FuncId} {al : List SV} {e : Nat → Int × Int} {N N' : Nat} {z z' : Z} {l : List (List DV × List SV)} {s s' : SV} {Q : (Nat → Int × Int) → (Nat → Nat) → List (List DV × List SV) → Prop} {V : SV → Prop} (rest : List KB)
    (h : COk Tryd.prog f al (wK e N z l s) (fun r kk => V r ∧ ∃ e' g' l', Q e' g' l' ∧ kk = wK e' N' z' l' s')) (hm : MapD l) (hQ : ∀ e' g' l', Q e' g' l' → MapD l')
    (ha : mapL (sig [0, 1, 2] (lenB (wK e N z l s ++ rest))) al = al) (hs : mapV (sig [0, 1, 2] (lenB (wK e N z l s ++ rest))) s = s) (hs' : mapV (sig [0, 1, 2] (lenB (wK e N z l s ++ rest))) s' = s') (hV : ∀ r, V r → mapV (sig [0, 1, 2] (lenB (wK e N z l s ++ rest))) r = r) :
    COk Tryd.prog f al (wK e N z l s ++ rest) (fun r kk => V r ∧ ∃ e' g' l', Q e' g' l' ∧ kk = wK e' N' z' l' s' ++ rest) :=
  COk.frame h [0, 1, 2] rfl ha (by rw [wK_map rfl hm hs]; rfl) fun s0 k0 ⟨h1, e', g', l', h2, h3⟩ => by
    refine ⟨by rw [hV s0 h1]; exact h1, e', g', l', h2, ?_⟩
    rw [h3, wK_map rfl (hQ _ _ _ h2) hs']
    unfold putBs
    rw [appB_eq]
    show (wK e' N' z' l' s' ++ rest) ++ [] = _
    rw [List.append_nil]
/-- The thing at M is nothing. -/
def offW (e : Nat → Int × Int) (M : Nat) : Nat → Int × Int := fun x => if x = M then (0, 0) else e x
theorem thF_off (e : Nat → Int × Int) (M : Nat) : oneF (0 + M) 0 [.int .i64 0, .int .i64 0] (thF e) = thF (offW e M) := by
  funext x
  show oneF (0 + M) 0 _ _ x = [.int .i64 (offW e M x).1, .int .i64 (offW e M x).2]
  unfold oneF offW
  rw [Nat.zero_add]
  by_cases h : x = M
  · rw [if_pos h, if_pos h]; rfl
  · rw [if_neg h, if_neg h]; rfl
theorem InW.pop {A : Nat → Nat} {n k0 k M : Nat} {e : Nat → Int × Int} {g : Nat → Nat} {l : List (List DV × List SV)} (h : InW A n k0 k (M + 1) e g l) (hl : g M = k) (key : List DV) : InW A n k0 (k + 1) M (offW e M) g (delM l key) := by
  refine ⟨fun x hx => ?_, h.all.pop hl, h.lo.del key, h.dat.del key⟩
  unfold offW
  rw [if_neg (by omega)]
  exact h.is x (by omega)
theorem cutW_ok (A : Nat → Nat) (n : Nat) (hA : ∀ x y, x < y → y < n → A x < A y) (k0 k N M : Nat) (hk : k0 ≤ k) (hN : N < 1000000) (hL : M + 1 ≤ N) (z : Z) (e : Nat → Int × Int) (g : Nat → Nat) (l : List (List DV × List SV)) (h : InW A n k0 k (M + 1) e g l) (hh : HeapW g (M + 1)) :
    COk Tryd.prog 65 [.ptr 0 0, .d (.int .i64 0)] (wK e N z l (.row 2 0 (M + 1))) (fun s kk => s = thV ((k : Int), (A k : Int)) ∧ ∃ e' g' l', InW A n k0 (k + 1) M e' g' l' ∧ HeapW g' M ∧ kk = wK e' N z l' (.row 2 0 M)) := by
  refine cOk_of_run (TT := TT) (IN := lookI []) TT_ok INok_nil mixed 1000 Tryd.func65 rfl (enters Tryd.func65 (by kernel_rfl) rfl) 62 (by kernel_rfl) ?_
  have hf := h.all.first hh (by omega)
  have e1 : IntKind.i64.wrap (((M + 1 : Nat) : Int) - 1) = (M : Int) := by rw [w64_in _ (by omega)]; omega
  have e0 : e 0 = ((k : Int), (A k : Int)) := by rw [h.is 0 (by omega), hf]
  conv => whnf
  rw [e1]
  refine ⟨⟨by omega, by omega, by omega⟩, ?_⟩
  conv => whnf
  rw [show 0 + Int.toNat 0 = 0 from rfl, e0]
  by_cases hM : M = 0
  refine brF (by simp [hM]) ?_
  have hin : InW A n k0 k (M + 1) e g l := h
  have hlast : g M = k := by rw [hM]; exact hf
  have hdn : 0 < M → DownW g M 0 := fun h => by omega
  rotate_left
  refine brT (by simpa using fun h : (0 : Int) = M => hM (by omega)) ?_
  conv => whnf
  refine .rel _ (COk.wheel (V := fun r => r = .tup []) (Q := fun e' g' l' => e' = swpF e 0 M ∧ l' = swpM e l 0 M) [.cells 95 [.d (.int .i64 0), .d (.int .i64 0)], .cells 95 [.d (.int .i64 ((k : Int), (A k : Int)).1), .d (.int .i64 ((k : Int), (A k : Int)).2)]]
    ((swapW_ok e N (M + 1) z l h.dat 0 M (by omega) (by omega) hL).imp fun r kk ⟨h1, h2⟩ => ⟨h1, _, g, _, ⟨rfl, rfl⟩, h2⟩) h.dat (fun e' g' l' h' => h'.2 ▸ swpM_d h.dat e 0 M) rfl rfl rfl (fun r hr => hr ▸ rfl)) (fun r ks' hR => ?_)
  obtain ⟨rfl, _, _, _, ⟨rfl, rfl⟩, rfl⟩ := hR
  have hin : InW A n k0 k (M + 1) (swpF e 0 M) (swpF g 0 M) (swpM e l 0 M) := h.swp hk (by omega) (by omega)
  have hlast : swpF g 0 M M = k := by rw [swpF_r, hf]
  have hdn : 0 < M → DownW (swpF g 0 M) M 0 := fun _ => DownW.cut hh
  clear h hh hf e0
  generalize swpM e l 0 M = l at *
  generalize swpF e 0 M = e at *
  generalize swpF g 0 M = g at *
  all_goals
    conv => whnf
    refine ⟨⟨by omega, by omega, by omega⟩, ?_⟩
    conv => whnf
    rw [Int.toNat_natCast, Nat.zero_add]
    refine ⟨by omega, ?_⟩
    conv => whnf
    refine .data _ (key_ok _) rfl rfl ?_
    conv => whnf
    refine ⟨_, rfl, ?_⟩
    conv => whnf
    have hp := hin.pop hlast [.int .i64 ((k : Int), (A k : Int)).1]
    rw [show ((M : Int) - 0).toNat = M by omega, thF_off]
    generalize delM l [.int .i64 ((k : Int), (A k : Int)).1] = l at hp ⊢
    by_cases h0 : 0 < M
    · refine brT (decide_eq_true (by omega)) ?_
      conv => whnf
      refine .rel _ (COk.wheel (V := fun r => r = .tup []) (Q := fun e' g' l' => InW A n k0 (k + 1) M e' g' l' ∧ HeapW g' M) [.cells 95 [.d (.int .i64 0), .d (.int .i64 0)], .cells 95 [.d (.int .i64 ((k : Int), (A k : Int)).1), .d (.int .i64 ((k : Int), (A k : Int)).2)], .cells 95 [.d (.int .i64 0), .d (.int .i64 0)]]
        ((downW_ok A n hA k0 (k + 1) N M (by omega) hN (by omega) z _ _ _ hp 0 h0 (hdn h0)).imp fun r kk ⟨h1, e', g', l', h2, h3, h4⟩ => ⟨h1, e', g', l', ⟨h2, h3⟩, h4⟩) hp.dat (fun e' g' l' h' => h'.1.dat) rfl rfl rfl (fun r hr => hr ▸ rfl)) (fun r ks' hR => ?_)
      obtain ⟨rfl, e', g', l', ⟨hi1, hh1⟩, rfl⟩ := hR
      conv => whnf
      refine .rel _ (COk.wheel (V := fun r => r = .tup []) (Q := fun e' g' l' => InW A n k0 (k + 1) M e' g' l' ∧ HeapW g' M) [.cells 95 [.d (.int .i64 0), .d (.int .i64 0)], .cells 95 [.d (.int .i64 ((k : Int), (A k : Int)).1), .d (.int .i64 ((k : Int), (A k : Int)).2)], .cells 95 [.d (.int .i64 0), .d (.int .i64 0)]]
        ((upW_ok A n hA k0 (k + 1) N M (by omega) hN (by omega) z _ _ _ hi1 0 h0 hh1.up).imp fun r kk ⟨h1, e', g', l', h2, h3, h4⟩ => ⟨h1, e', g', l', ⟨h2, h3⟩, h4⟩) hi1.dat (fun e' g' l' h' => h'.1.dat) rfl rfl rfl (fun r hr => hr ▸ rfl)) (fun r ks' hR => ?_)
      obtain ⟨rfl, e2, g2, l2, ⟨hi2, hh2⟩, rfl⟩ := hR
      conv => whnf
      refine ⟨[0, 1, 2], _, _, rfl, rfl, ?_, ?_, rfl, e2, g2, l2, hi2, hh2, rfl⟩
      · exact rfl
      · conv => whnf
        repeat' (first | exact True.intro | exact rfl | exact subZ_self _ | exact Or.inr rfl | exact fun _ _ => rfl | exact fun _ h => absurd h (Nat.not_lt_zero _) | refine And.intro ?_ ?_)
        exact hi2.dat.ren
    · refine brF (decide_eq_false (by omega)) ?_
      conv => whnf
      refine ⟨[0, 1, 2], _, _, rfl, rfl, ?_, ?_, rfl, _, _, _, hp, (fun j j0 jL => by omega), rfl⟩
      · exact rfl
      · conv => whnf
        repeat' (first | exact True.intro | exact rfl | exact subZ_self _ | exact Or.inr rfl | exact fun _ _ => rfl | exact fun _ h => absurd h (Nat.not_lt_zero _) | refine And.intro ?_ ?_)
        exact hp.dat.ren
end Go.Proofs.YtjeihmchcfadlaaDoor
namespace Go.Proofs.YtjeihmchcfadlaaDoor
open Go Go.Eng
set_option maxRecDepth 100000
set_option maxHeartbeats 4000000
theorem newW_ok (e : Nat → Int × Int) : COk Tryd.prog 30 [] [] (fun s k => s = .ptr 0 0 ∧ k = wK e 0 .iff [] (.all 2)) := by
  refine COk.nilCell (R := fun s k => s = .ptr 0 0 ∧ k = [wC nilS, .map [EK.int .i64] false false []]) ?_ 95 2 (fun s k h => by
    obtain ⟨h1, rfl⟩ := h
    exact .inr ⟨0, 2, _, _, _, _, thF e, rfl, rfl, h1, rfl⟩)
  refine cOk_of_run (TT := TT) (IN := lookI []) TT_ok INok_nil mixed 1000 Tryd.func30 rfl (enters Tryd.func30 (by kernel_rfl) rfl) 5 (by kernel_rfl) ?_
  conv => whnf
  refine ⟨[1, 0], .ptr 0 0, [wC nilS, .map [EK.int .i64] false false []], rfl, rfl, rfl, ?_, rfl, rfl⟩
  conv => whnf
  repeat' (first | exact True.intro | exact rfl | exact subZ_self _ | exact Or.inr rfl | exact fun _ _ => rfl | exact fun _ h => absurd h (Nat.not_lt_zero _) | refine And.intro ?_ ?_)
/-- One thing more, behind the others. -/
def behE (e : Nat → Int × Int) (N : Nat) (t : Int × Int) : Nat → Int × Int := fun x => if x < N then e x else t
theorem thF_cat (e : Nat → Int × Int) (N : Nat) (t : Int × Int) : ∀ x, x < N + 1 → catF N (thF e) (chunk [DV.int .i64 t.1, DV.int .i64 t.2] 2) x = thF (behE e N t) x := fun x hx => by
  unfold catF
  show _ = [DV.int .i64 (behE e N t x).1, DV.int .i64 (behE e N t x).2]
  unfold behE
  by_cases h : x < N
  · rw [if_pos h, if_pos h]
    rfl
  · rw [if_neg h, if_neg h]
    have : x = N := by omega
    subst this
    simp [chunk]
theorem InW.add {A : Nat → Nat} {n k N : Nat} {e : Nat → Int × Int} {g : Nat → Nat} {l : List (List DV × List SV)} (h : InW A n (k + 1) (k + 1) N e g l) (y : Nat) : InW A n k k (N + 1) (behE e N ((k : Int), (A k : Int))) (addW g N k) (putM l [.int .i64 k] [.d (.int .i64 y)]) := by
  refine ⟨fun x hx => ?_, h.all.add, (h.lo.less (by omega)).put (Nat.le_refl k) rfl _, h.dat.put _ _⟩
  unfold behE addW
  by_cases hx' : x < N
  · rw [if_pos hx', if_pos hx']; exact h.is x hx'
  · rw [if_neg hx', if_neg hx']
theorem upA_ok (A : Nat → Nat) (n : Nat) (hA : ∀ x y, x < y → y < n → A x < A y) (k0 k N : Nat) (hk : k0 ≤ k) (hN : N < 1000000) (z : Z) (e : Nat → Int × Int) (g : Nat → Nat) (l : List (List DV × List SV)) (h : InW A n k0 k N e g l) (i : Nat) (hi : i < N) (hu : UpW g N i) :
    COk Tryd.prog 86 [.ptr 0 0, iN i] (wK e N z l (.all 2)) (fun s kk => s = .tup [] ∧ ∃ e' g' l', InW A n k0 k N e' g' l' ∧ HeapW g' N ∧ kk = wK e' N z l' (.all 2)) :=
  COk.cellPost (COk.cellPre (i := 0) (j := 2) (s := .all 2) (s' := .row 2 0 N) rfl rfl (fun X w β fp u hM hd => hM.allRow rfl hd) (upW_ok A n hA k0 k N N hk hN (Nat.le_refl _) z e g l h i hi hu)) fun s kk h => by
    obtain ⟨h1, e', g', l', h2, h3, rfl⟩ := h
    exact .inr ⟨0, 2, _, _, .row 2 0 N, .all 2, rfl, rfl, fun X w β fp u hM hd => hM.rowAll rfl hd, h1, e', g', l', h2, h3, rfl⟩
/-- The wheel's blocks where the things' row has been moved. -/
def wG (e : Nat → Int × Int) (N : Nat) (z : Z) (l : List (List DV × List SV)) : List KB := [wC (.all 3), .map [EK.int .i64] false false l, .gone, .row 95 2 N z (thF e)]
theorem pushW_ok (A : Nat → Nat) (n : Nat) (hA : ∀ x y, x < y → y < n → A x < A y) (k N : Nat) (hN : N < 999999) (z : Z) (e : Nat → Int × Int) (g : Nat → Nat) (l : List (List DV × List SV)) (h : InW A n (k + 1) (k + 1) N e g l) (hh : HeapW g N) :
    COk Tryd.prog 64 [.ptr 0 0, thV ((k : Int), (A k : Int))] (wK e N z l (.all 2)) (fun s kk => s = .d .tt ∧ ∃ e' g' l', InW A n k k (N + 1) e' g' l' ∧ HeapW g' (N + 1) ∧ kk = wG e' (N + 1) z l') := by
  refine cOk_of_run (TT := TT) (IN := lookI []) TT_ok INok_nil mixed 1000 Tryd.func64 rfl (enters Tryd.func64 (by kernel_rfl) rfl) 51 (by kernel_rfl) ?_
  conv => whnf
  refine .one (.data _ (key_ok _) rfl rfl ?_)
  conv => whnf
  refine ⟨none, h.lo.none, ?_⟩
  conv => whnf
  refine ⟨by omega, ?_⟩
  conv => whnf
  have e1 : IntKind.i64.wrap (((N + 1 : Nat) : Int) - 1) = (N : Int) := by rw [w64_in _ (by omega)]; omega
  rw [e1]
  have ha := h.add N
  refine ⟨_, rfl, ?_⟩
  generalize putM l [.int .i64 ((k : Int), (A k : Int)).1] [.d (.int .i64 (N : Int))] = l1 at ha ⊢
  conv => whnf
  rw [e1]
  have hup : COk Tryd.prog 86 [.ptr 0 0, iN N] [wC (.all 2), .map [EK.int .i64] false false l1, .row 95 2 (N + 1) z (catF N (thF e) (chunk [.int .i64 ((k : Int), (A k : Int)).1, .int .i64 ((k : Int), (A k : Int)).2] 2))] _ :=
    COk.rowPre (q := 2) rfl (thF_cat e N ((k : Int), (A k : Int))) (upA_ok A n hA k k (N + 1) (Nat.le_refl _) (by omega) z _ _ _ ha N (by omega) (UpW.add hh))
  refine .rel _ (COk.frameX hup [0, 1, 5] rfl rfl ?_) (fun r ks' hR => ?_)
  · show [_, _, _] = [_, KB.mapx _ _ _ (mapM _ l1) _, _]
    rw [ha.dat.map]
    rfl
  obtain ⟨_, _, ⟨rfl, e', g', l', h2, h3, rfl⟩, hr0, hk0⟩ := hR
  have hr : r = .tup [] := hr0
  have hks : ks' = [.cells 102 [.fn 61 [], .fn 62 [], .all 5, .map 1], .map [EK.int .i64] false false (mapM (sig [0, 1, 5] 6) l'), .gone, .cells 95 [.d (.int .i64 ((k : Int), (A k : Int)).1), .d (.int .i64 ((k : Int), (A k : Int)).2)], .cells 95 [.d (.int .i64 ((k : Int), (A k : Int)).1), .d (.int .i64 ((k : Int), (A k : Int)).2)], .row 95 2 (N + 1) z (thF e')] := hk0
  rw [h2.dat.map] at hks
  clear hk0 hr0
  subst hr hks
  conv => whnf
  refine ⟨[0, 1, 2, 5], _, _, rfl, rfl, ?_, ?_, rfl, e', g', l', h2, h3, rfl⟩
  · exact rfl
  · conv => whnf
    repeat' (first | exact True.intro | exact rfl | exact subZ_self _ | exact Or.inr rfl | exact fun _ _ => rfl | exact fun _ h => absurd h (Nat.not_lt_zero _) | refine And.intro ?_ ?_)
    exact h2.dat.ren
theorem addW_ok (A : Nat → Nat) (n : Nat) (hA : ∀ x y, x < y → y < n → A x < A y) (k N : Nat) (hN : N < 999999) (z : Z) (e : Nat → Int × Int) (g : Nat → Nat) (l : List (List DV × List SV)) (h : InW A n (k + 1) (k + 1) N e g l) (hh : HeapW g N) :
    COk Tryd.prog 31 [.ptr 0 0, iN k, iN (A k)] (wK e N z l (.all 2)) (fun s kk => s = .d .tt ∧ ∃ e' g' l', InW A n k k (N + 1) e' g' l' ∧ HeapW g' (N + 1) ∧ kk = wG e' (N + 1) z l') := by
  refine cOk_of_run (TT := TT) (IN := lookI [(63, Tryd.f63, 1)]) TT_ok (INok_cons INok_nil Tryd.func63 (by kernel_rfl) (by kernel_rfl)) mixed 1000 Tryd.func31 rfl (enters Tryd.func31 (by kernel_rfl) rfl) 15 (by kernel_rfl) ?_
  conv => whnf
  refine .rel _ (pushW_ok A n hA k N hN z e g l h hh) (fun r ks' hR => ?_)
  obtain ⟨rfl, e', g', l', h2, h3, rfl⟩ := hR
  conv => whnf
  refine ⟨[0, 1, 2, 3], _, _, rfl, rfl, ?_, ?_, rfl, e', g', l', h2, h3, rfl⟩
  · exact rfl
  · conv => whnf
    repeat' (first | exact True.intro | exact rfl | exact subZ_self _ | exact Or.inr rfl | exact fun _ _ => rfl | exact fun _ h => absurd h (Nat.not_lt_zero _) | refine And.intro ?_ ?_)
    exact h2.dat.ren
theorem lenW_ok (N L : Nat) (z : Z) (e : Nat → Int × Int) (l : List (List DV × List SV)) (hm : MapD l) : COk Tryd.prog 33 [.ptr 0 0] (wK e N z l (.row 2 0 L)) (fun s kk => s = iN L ∧ kk = wK e N z l (.row 2 0 L)) := by
  refine cOk_of_run (TT := TT) (IN := lookI [(63, Tryd.f63, 1)]) TT_ok (INok_cons INok_nil Tryd.func63 (by kernel_rfl) (by kernel_rfl)) mixed 1000 Tryd.func33 rfl (enters Tryd.func33 (by kernel_rfl) rfl) 11 (by kernel_rfl) ?_
  conv => whnf
  refine ⟨[0, 1, 2], _, _, rfl, rfl, ?_, ?_, rfl, rfl⟩
  · exact rfl
  · conv => whnf
    repeat' (first | exact True.intro | exact rfl | exact subZ_self _ | exact Or.inr rfl | exact fun _ _ => rfl | exact fun _ h => absurd h (Nat.not_lt_zero _) | refine And.intro ?_ ?_)
    exact hm.ren
end Go.Proofs.YtjeihmchcfadlaaDoor
namespace Go.Proofs.YtjeihmchcfadlaaDoor
open Go Go.Eng
set_option maxRecDepth 100000
set_option maxHeartbeats 4000000
def upF : Nat → List DV := fun i => [.int .i64 i]
theorem upF_cat (k : Nat) : ∀ x, x < k + 1 → catF k upF (chunk [DV.int .i64 (k : Int)] 1) x = upF x := fun x hx => by
  unfold catF
  by_cases h : x < k
  · rw [if_pos h]
  · rw [if_neg h]
    have : x = k := by omega
    subst this
    simp [chunk, upF]
theorem popW_ok (A : Nat → Nat) (N : Nat) (hA : ∀ x y, x < y → y < N → A x < A y) (hB : ∀ x, x < N → A x ≤ 4294967296) (hN : N < 1000000) (z : Z) (e : Nat → Int × Int) (g : Nat → Nat) (l : List (List DV × List SV)) (h : InW A N 0 0 N e g l) (hh : HeapW g N) :
    COk Tryd.prog 32 [.ptr 0 0, .d (.int .i64 4294967296)] (wK e N z l (.row 2 0 N)) (fun s kk => s = .all 3 ∧ ∃ e' l', MapD l' ∧ kk = wK e' N z l' (.row 2 0 0) ++ [.row 3 1 N .iff upF]) := by
  refine cOk_of_run (TT := TT) (IN := lookI [(63, Tryd.f63, 1)]) TT_ok (INok_cons INok_nil Tryd.func63 (by kernel_rfl) (by kernel_rfl)) mixed 1000 Tryd.func32 rfl (enters Tryd.func32 (by kernel_rfl) rfl) 35 (by kernel_rfl) ?_
  conv => whnf
  refine .nilT 5 3 1 upF _ _ rfl ?_
  conv => whnf
  refine .inv ((Nat → Int × Int) × (Nat → Nat) × List (List DV × List SV) × Nat × Nat) (fun s => InW A N 0 s.2.2.2.1 s.2.2.2.2 s.1 s.2.1 s.2.2.1 ∧ HeapW s.2.1 s.2.2.2.2) (fun s => [(5, .all 3)]) (fun s => [(0, wC (.row 2 0 s.2.2.2.2)), (1, .map [EK.int .i64] false false s.2.2.1), (2, .row 95 2 N z (thF s.1)), (3, .row 3 1 s.2.2.2.1 .iff upF)]) (fun s => s.2.2.2.2) ⟨(e, g, l, 0, N), [0, 1, 2, 3], ⟨h, hh⟩, ?_⟩ ?_
  · conv => whnf
    repeat' (first | exact True.intro | exact rfl | exact subZ_self _ | exact Or.inr rfl | exact fun _ _ => rfl | exact fun _ h => absurd h (Nat.not_lt_zero _) | refine And.intro ?_ ?_)
    exact h.dat.ren
  intro s hs
  clear h hh
  conv => whnf
  generalize h1 : s.1 = e at hs ⊢
  generalize h2 : s.2.1 = g at hs ⊢
  generalize h3 : s.2.2.1 = l at hs ⊢
  generalize h4 : s.2.2.2.1 = k at hs ⊢
  generalize h5 : s.2.2.2.2 = L at hs ⊢
  obtain ⟨h, hh⟩ := hs
  have hlen := h.all.len
  by_cases hL : L = 0
  · subst hL
    obtain rfl : k = N := by omega
    refine brF (decide_eq_false (by omega)) ?_
    conv => whnf
    refine ⟨[0, 1, 2, 3], _, _, rfl, rfl, ?_, ?_, rfl, e, l, h.dat, rfl⟩
    · exact rfl
    · conv => whnf
      repeat' (first | exact True.intro | exact rfl | exact subZ_self _ | exact Or.inr rfl | exact fun _ _ => rfl | exact fun _ h => absurd h (Nat.not_lt_zero _) | refine And.intro ?_ ?_)
      exact h.dat.ren
  · obtain ⟨M, rfl⟩ : ∃ M, L = M + 1 := ⟨L - 1, by omega⟩
    have hf := h.all.first hh (by omega)
    have hkN : k < N := by omega
    have e0 : e 0 = ((k : Int), (A k : Int)) := by rw [h.is 0 (by omega), hf]
    have hBk := hB k hkN
    refine brT (decide_eq_true (by omega)) ?_
    conv => whnf
    refine ⟨⟨by omega, by omega, by omega⟩, ?_⟩
    conv => whnf
    rw [show 0 + Int.toNat 0 = 0 from rfl, e0]
    refine brT (decide_eq_true (by show (A k : Int) ≤ 4294967296; omega)) ?_
    conv => whnf
    refine .rel _ (COk.wheel (V := fun r => r = thV ((k : Int), (A k : Int))) (Q := fun e' g' l' => InW A N 0 (k + 1) M e' g' l' ∧ HeapW g' M) [.row 3 1 k .iff upF]
      ((cutW_ok A N hA 0 k N M (by omega) hN (by omega) z e g l h hh).imp fun r kk ⟨h1, e', g', l', h2, h3, h4⟩ => ⟨h1, e', g', l', ⟨h2, h3⟩, h4⟩) h.dat (fun e' g' l' h' => h'.1.dat) rfl rfl rfl (fun r hr => hr ▸ rfl)) (fun r ks' hR => ?_)
    obtain ⟨rfl, e', g', l', ⟨hi1, hh1⟩, rfl⟩ := hR
    conv => whnf
    refine ⟨by omega, ?_⟩
    conv => whnf
    refine ⟨(e', g', l', k + 1, M), [0, 1, 2, 5], ⟨hi1, hh1⟩, show M < M + 1 by omega, ?_⟩
    conv => whnf
    repeat' (first | exact True.intro | exact rfl | exact subZ_self _ | exact Or.inr rfl | exact fun _ _ => rfl | exact fun _ h => absurd h (Nat.not_lt_zero _) | refine And.intro ?_ ?_)
    · exact hi1.dat.ren
    · exact upF_cat k
end Go.Proofs.YtjeihmchcfadlaaDoor
