/-
  PrefixLean returns true at every input and leaves its arguments as they read.
  Conditions: the listed variables of the standard library hold what the text of the program lays (tied by the card).
-/
import Derived.Test.YtjeihmchcfadlaaDoorB2
import Derived.Test.YtjeihmchcfadlaaDoorB4
set_option linter.unusedVariables false
set_option linter.unusedSimpArgs false
namespace Go.Proofs.YtjeihmchcfadlaaDoor
open Go Go.Eng Go.Lib
/-- How many addresses a right prefix has. -/
def Pf.sz (p : Pf) : Nat := 2 ^ (32 - p.bits.toNat)
theorem Pf.sz_pos (p : Pf) : 0 < p.sz := Nat.pow_pos (by decide)
theorem right_mul {p : Pf} (h : p.right = true) : p.addr = p.addr / p.sz * p.sz := (right_iff.1 h).2.2.symm
theorem has_iff {p : Pf} (h : p.right = true) (x : Nat) : p.has x = true ↔ p.addr ≤ x ∧ x < p.addr + p.sz := by
  have hk := p.sz_pos
  have hm := right_mul h
  unfold Pf.has
  rw [h, Bool.true_and, beq_iff_eq]
  show x / p.sz * p.sz = p.addr ↔ _
  constructor
  · intro e
    rw [← e]
    exact ⟨Nat.div_mul_le_self _ _, Nat.lt_div_mul_add hk⟩
  · rintro ⟨h1, h2⟩
    rw [hm]
    congr 1
    refine Nat.div_eq_of_lt_le (by omega) ?_
    rw [Nat.add_mul, Nat.one_mul]
    omega
theorem has_no {p : Pf} (h : p.right = true) (x : Nat) : p.has x = false ↔ x < p.addr ∨ p.addr + p.sz ≤ x := by
  rw [← Bool.not_eq_true, has_iff h]
  omega
theorem sz_le {p q : Pf} (h : p.bits ≤ q.bits) : q.sz ≤ p.sz := Nat.pow_le_pow_right (by decide) (by omega)
theorem whole_some {a b p : Pf} (ha : a.right = true) (hb : b.right = true) (ho : a.addr + a.sz ≤ b.addr) (h : wholeP a b = some p) : p.addr = a.addr ∧ p.sz = 2 * a.sz ∧ p.bits ≤ a.bits ∧ b.addr = a.addr + a.sz ∧ b.sz = a.sz := by
  obtain ⟨a1, a2, _⟩ := right_iff.1 ha
  have hw := good_whole (a := a) (b := b) (p := p)
  unfold wholeP at h
  split at h
  · cases h
  · rename_i hno
    have n1 : a.bits = b.bits := Classical.byContradiction fun e => hno (.inl e)
    have n2 : a.bits ≠ 0 := fun e => hno (.inr (.inl e))
    split at h
    · rename_i hh
      cases h
      have hr : (⟨a.addr, a.bits - 1⟩ : Pf).right = true := by unfold Pf.has at hh; rw [Bool.and_eq_true] at hh; exact hh.1
      have hs : (⟨a.addr, a.bits - 1⟩ : Pf).sz = 2 * a.sz := by
        show 2 ^ (32 - (a.bits - 1).toNat) = 2 * 2 ^ (32 - a.bits.toNat)
        rw [show 32 - (a.bits - 1).toNat = 32 - a.bits.toNat + 1 by omega, Nat.pow_succ, Nat.mul_comm]
      have hsb : b.sz = a.sz := by unfold Pf.sz; rw [n1]
      have h2 := ((has_iff hr _).1 hh).2
      rw [hs] at h2
      refine ⟨rfl, hs, by show a.bits - 1 ≤ a.bits; omega, ?_, hsb⟩
      have ma := right_mul ha
      have mb := right_mul hb
      rw [hsb] at mb
      have hk := a.sz_pos
      have h2 : b.addr < a.addr + 2 * a.sz := h2
      generalize a.sz = k at *
      generalize a.addr / k = u at *
      generalize b.addr / k = v at *
      rw [ma, mb] at ho h2
      have e1 : u + 1 ≤ v := by
        refine Nat.le_of_mul_le_mul_right (c := k) ?_ hk
        rw [Nat.add_mul, Nat.one_mul]; exact ho
      have e2 : v < u + 2 := by
        refine Nat.lt_of_mul_lt_mul_right (a := k) ?_
        rw [Nat.add_mul]; exact h2
      have e3 : v = u + 1 := by omega
      rw [mb, ma, e3, Nat.add_mul, Nat.one_mul]
    · cases h
/-- Each below the top lies ahead of it. -/
def OrdS (st : List Pf) : Prop := st.Pairwise fun b a => a.addr + a.sz ≤ b.addr
/-- No two neighbours are halves. -/
def NoM : List Pf → Prop
  | b :: a :: r => wholeP a b = none ∧ NoM (a :: r)
  | _ => True
theorem NoM.tail {b : Pf} {r : List Pf} (h : NoM (b :: r)) : NoM r := by
  cases r with
  | nil => trivial
  | cons a r => exact h.2
def HasS (st : List Pf) (x : Nat) : Bool := st.any fun p => p.has x
/-- From what a stack came. -/
structure StI (st proc : List Pf) : Prop where
  good : GoodS st
  ord : OrdS st
  has : ∀ x, HasS st x = HasS proc x
  old : ∀ t ∈ st, ∃ c ∈ proc, c.addr = t.addr ∧ t.bits ≤ c.bits
theorem sti_coll : ∀ (n : Nat) (b : Pf) (r proc : List Pf), r.length ≤ n → StI (b :: r) proc → NoM r → StI (coll (b :: r)) proc ∧ NoM (coll (b :: r)) := by
  intro n
  induction n with
  | zero =>
    intro b r proc hl h hn
    have := List.eq_nil_of_length_eq_zero (Nat.le_zero.1 hl)
    subst this
    unfold coll
    exact ⟨h, trivial⟩
  | succ n ih =>
    intro b r proc hl h hn
    cases r with
    | nil => unfold coll; exact ⟨h, trivial⟩
    | cons a r =>
      unfold coll
      cases hw : wholeP a b with
      | none => exact ⟨h, hw, hn⟩
      | some p =>
        have hb := h.good b (by simp)
        have ha := h.good a (by simp)
        have ho := List.pairwise_cons.1 h.ord
        have ho2 := List.pairwise_cons.1 ho.2
        have hg := good_whole ha.1 hw
        obtain ⟨w1, w2, w3, w4, w5⟩ := whole_some ha.2 hb.2 (ho.1 a (by simp)) hw
        refine ih p r proc (by simpa using hl) ⟨fun q hq => ?_, ?_, fun x => ?_, fun t ht => ?_⟩ hn.tail
        · rcases List.mem_cons.1 hq with rfl | hq
          · exact hg
          · exact h.good q (by simp [hq])
        · exact List.pairwise_cons.2 ⟨fun c hc => by rw [w1]; exact ho2.1 c hc, ho2.2⟩
        · rw [← h.has x]
          unfold HasS
          simp only [List.any_cons]
          rw [← Bool.or_assoc]
          congr 1
          rw [Bool.eq_iff_iff, Bool.or_eq_true, has_iff hg.2, has_iff hb.2, has_iff ha.2, w1, w2, w4, w5]
          omega
        · rcases List.mem_cons.1 ht with rfl | ht
          · obtain ⟨c, hc, c1, c2⟩ := h.old a (by simp)
            exact ⟨c, hc, by rw [w1]; exact c1, by omega⟩
          · exact h.old t (by simp [ht])
theorem sti_push {st proc : List Pf} {p : Pf} (h : StI st proc) (hn : NoM st) (hp : p.addr < 4294967296 ∧ p.right = true) (hle : ∀ c ∈ proc, leP c p = true) : StI (push st p) (proc ++ [p]) ∧ NoM (push st p) := by
  have hle' : ∀ c ∈ proc, c.addr < p.addr ∨ c.addr = p.addr ∧ c.bits ≤ p.bits := fun c hc => by
    have := of_decide_eq_true (hle c hc)
    omega
  have hcat : ∀ x, HasS (proc ++ [p]) x = (HasS proc x || p.has x) := fun x => by simp [HasS, List.any_append]
  cases st with
  | nil =>
    have hc : push [] p = [p] := by show coll [p] = [p]; unfold coll; rfl
    rw [hc]
    refine ⟨⟨fun q hq => ?_, List.pairwise_singleton .., fun x => ?_, fun t ht => ⟨p, by simp, ?_⟩⟩, trivial⟩
    · rw [List.mem_singleton.1 hq]; exact hp
    · rw [hcat, ← h.has x]; simp [HasS]
    · rw [List.mem_singleton.1 ht]; exact ⟨rfl, Int.le_refl _⟩
  | cons b r =>
    have hb := h.good b (by simp)
    obtain ⟨c, hc, c1, c2⟩ := h.old b (by simp)
    have hcp := hle' c hc
    show StI (if b.has p.addr then b :: r else coll (p :: b :: r)) (proc ++ [p]) ∧ NoM (if b.has p.addr then b :: r else coll (p :: b :: r))
    cases hh : b.has p.addr with
    | true =>
      rw [if_pos rfl]
      refine ⟨⟨h.good, h.ord, fun x => ?_, fun t ht => ?_⟩, hn⟩
      · rw [hcat, ← h.has x]
        cases hx : p.has x with
        | false => rw [Bool.or_false]
        | true =>
          rw [Bool.or_true]
          have h1 := (has_iff hb.2 _).1 hh
          have h2 := (has_iff hp.2 _).1 hx
          -- p lies within b
          have hin : b.has x = true := by
            rw [has_iff hb.2]
            refine ⟨by omega, ?_⟩
            have hbits : b.bits ≤ p.bits ∨ p.bits < b.bits := by omega
            rcases hbits with hbb | hbb
            · have mb := right_mul hb.2
              have mp := right_mul hp.2
              obtain ⟨b1, b2, _⟩ := right_iff.1 hb.2
              obtain ⟨p1, p2, _⟩ := right_iff.1 hp.2
              have hk := p.sz_pos
              have hd : b.sz = 2 ^ (p.bits.toNat - b.bits.toNat) * p.sz := by
                unfold Pf.sz
                rw [← Nat.pow_add]
                congr 1
                omega
              generalize 2 ^ (p.bits.toNat - b.bits.toNat) = d at hd
              have e1 : p.addr + p.sz ≤ b.addr + b.sz := by
                have e2 : p.addr / p.sz + 1 ≤ b.addr / b.sz * d + d := by
                  have h3 := h1.2
                  rw [mp, mb, hd, ← Nat.mul_assoc, ← Nat.add_mul] at h3
                  rw [hd] 
                  exact Nat.lt_of_mul_lt_mul_right h3
                have e3 := Nat.mul_le_mul_right p.sz e2
                rw [Nat.add_mul, Nat.one_mul, ← mp, Nat.add_mul, Nat.mul_assoc, ← hd, ← mb] at e3
                exact e3
              omega
            · -- then p is greater and begins where b does
              rcases hcp with hlt | ⟨_, hle2⟩
              · have mb := right_mul hb.2
                have mp := right_mul hp.2
                obtain ⟨b1, b2, _⟩ := right_iff.1 hb.2
                obtain ⟨p1, p2, _⟩ := right_iff.1 hp.2
                have hk := b.sz_pos
                have hd : p.sz = 2 ^ (b.bits.toNat - p.bits.toNat) * b.sz := by
                  unfold Pf.sz
                  rw [← Nat.pow_add]
                  congr 1
                  omega
                generalize 2 ^ (b.bits.toNat - p.bits.toNat) = d at hd
                rw [hd, ← Nat.mul_assoc] at mp
                exfalso
                have h3 := h1.2
                have h4 : b.addr < p.addr := by omega
                rw [mb, mp] at h4
                have h5 := Nat.lt_of_mul_lt_mul_right h4
                have h6 := Nat.mul_le_mul_right b.sz h5
                rw [Nat.succ_mul, ← mb, ← mp] at h6
                omega
              · omega
          unfold HasS
          rw [List.any_cons, hin, Bool.true_or]
      · obtain ⟨c, hc, e⟩ := h.old t ht
        exact ⟨c, by simp [hc], e⟩
    | false =>
      rw [if_neg (by decide)]
      have hno := (has_no hb.2 _).1 hh
      refine sti_coll _ p (b :: r) _ (Nat.le_refl _) ⟨fun q hq => ?_, ?_, fun x => ?_, fun t ht => ?_⟩ hn
      · rcases List.mem_cons.1 hq with rfl | hq
        · exact hp
        · exact h.good q hq
      · refine List.pairwise_cons.2 ⟨fun q hq => ?_, h.ord⟩
        have hbp : b.addr + b.sz ≤ p.addr := by omega
        rcases List.mem_cons.1 hq with rfl | hq
        · exact hbp
        · have := (List.pairwise_cons.1 h.ord).1 q hq
          omega
      · rw [hcat, ← h.has x]
        unfold HasS
        rw [List.any_cons, Bool.or_comm]
      · rcases List.mem_cons.1 ht with rfl | ht
        · exact ⟨t, by simp, rfl, Int.le_refl _⟩
        · obtain ⟨c, hc, e⟩ := h.old t ht
          exact ⟨c, by simp [hc], e⟩
theorem sti_lean : ∀ (n : Nat) (S : List Pf), S.length = n → GoodS S → S.Pairwise (fun p q => leP p q = true) → StI (leanS S) S ∧ NoM (leanS S) := by
  intro n
  induction n with
  | zero =>
    intro S h _ _
    have := List.eq_nil_of_length_eq_zero h
    subst this
    exact ⟨⟨fun p hp => by simp [leanS] at hp, .nil, fun _ => rfl, fun p hp => by simp [leanS] at hp⟩, trivial⟩
  | succ n ih =>
    intro S h hg hs
    have hne : S ≠ [] := fun e => by rw [e] at h; simp at h
    have e := (List.dropLast_concat_getLast hne).symm
    generalize S.dropLast = U at e
    generalize S.getLast hne = p at e
    subst e
    rw [leanS_snoc]
    rw [List.pairwise_append] at hs
    have h1 := ih U (by simpa using h) (fun q hq => hg q (by simp [hq])) hs.1
    exact sti_push h1.1 h1.2 (hg p (by simp)) (fun c hc => hs.2.2 c hc p (by simp))
theorem good_filter {l : List Pf} (hl : ∀ p ∈ l, p.addr < 4294967296) : GoodS (srt (l.filter Pf.right)) := fun p hp => by
  have := List.mem_filter.1 ((List.mergeSort_perm (l.filter Pf.right) leP).mem_iff.1 hp)
  exact ⟨hl p this.1, this.2⟩
/-- How a lean list stands. -/
structure LeanI (l m : List Pf) : Prop where
  good : GoodS m
  ord : m.Pairwise fun a b => a.addr + a.sz ≤ b.addr
  nom : NoM m.reverse
  has : ∀ x, HasS m x = HasS l x
  len : m.length ≤ l.length
theorem has_filter (l : List Pf) (x : Nat) : HasS (l.filter Pf.right) x = HasS l x := by
  unfold HasS
  induction l with
  | nil => rfl
  | cons a l ih =>
    cases hr : a.right with
    | true => rw [List.filter_cons_of_pos hr, List.any_cons, List.any_cons, ih]
    | false =>
      rw [List.filter_cons_of_neg (by rw [hr]; simp), ih, List.any_cons]
      unfold Pf.has
      rw [hr]
      rfl
theorem has_perm {l m : List Pf} (h : l.Perm m) (x : Nat) : HasS l x = HasS m x := by
  unfold HasS
  rw [Bool.eq_iff_iff, List.any_eq_true, List.any_eq_true]
  exact ⟨fun ⟨p, hp, e⟩ => ⟨p, h.mem_iff.1 hp, e⟩, fun ⟨p, hp, e⟩ => ⟨p, h.mem_iff.2 hp, e⟩⟩
theorem leanL_is (l : List Pf) (hl : ∀ p ∈ l, p.addr < 4294967296) : LeanI l (leanL l) := by
  have hg := good_filter hl
  have h := sti_lean _ _ rfl hg (srt_sorted _)
  have hlen := (good_leanS _ _ rfl hg).2
  unfold leanL
  refine ⟨fun p hp => h.1.good p (List.mem_reverse.1 hp), ?_, by rw [List.reverse_reverse]; exact h.2, fun x => ?_, ?_⟩
  · rw [List.pairwise_reverse]
    exact h.1.ord
  · rw [has_perm (List.reverse_perm _), h.1.has, show HasS (srt (l.filter Pf.right)) x = HasS (l.filter Pf.right) x from has_perm (List.mergeSort_perm _ leP) x, has_filter]
  · rw [List.length_reverse]
    refine Nat.le_trans hlen ?_
    unfold srt
    rw [List.length_mergeSort]
    exact List.length_filter_le ..
/-- What stands so is lean. -/
theorem leanS_same : ∀ (n : Nat) (m : List Pf), m.length = n → GoodS m → (m.Pairwise fun a b => a.addr + a.sz ≤ b.addr) → NoM m.reverse → leanS m = m.reverse := by
  intro n
  induction n with
  | zero =>
    intro m h _ _ _
    have := List.eq_nil_of_length_eq_zero h
    subst this
    rfl
  | succ n ih =>
    intro m h hg ho hn
    have hne : m ≠ [] := fun e => by rw [e] at h; simp at h
    have e := (List.dropLast_concat_getLast hne).symm
    generalize m.dropLast = U at e
    generalize m.getLast hne = p at e
    subst e
    rw [List.reverse_append] at hn ⊢
    rw [List.pairwise_append] at ho
    have hn : NoM (p :: U.reverse) := hn
    show leanS (U ++ [p]) = p :: U.reverse
    rw [leanS_snoc, ih U (by simpa using h) (fun q hq => hg q (by simp [hq])) ho.1 hn.tail]
    cases hu : U.reverse with
    | nil => show coll [p] = [p]; unfold coll; rfl
    | cons b r =>
      rw [hu] at hn
      have hbU : b ∈ U := List.mem_reverse.1 (by rw [hu]; simp)
      have hb := hg b (by simp [hbU])
      have hbp := ho.2.2 b hbU p (by simp)
      show (if b.has p.addr then b :: r else coll (p :: b :: r)) = _
      rw [if_neg (by rw [(has_no hb.2 _).2 (.inr hbp)]; simp)]
      unfold coll
      rw [hn.1]
theorem rises_ord {m : List Pf} (ho : m.Pairwise fun a b => a.addr + a.sz ≤ b.addr) : Rises m := by
  refine ho.imp ?_
  intro a b h
  have := a.sz_pos
  omega
theorem leanL_same {m : List Pf} (hg : GoodS m) (ho : m.Pairwise fun a b => a.addr + a.sz ≤ b.addr) (hn : NoM m.reverse) : leanL m = m := by
  have hf : m.filter Pf.right = m := List.filter_eq_self.2 fun p hp => (hg p hp).2
  unfold leanL
  rw [hf, ← srt_eq (List.Perm.refl m) (rises_ord ho), leanS_same _ m rfl hg ho hn, List.reverse_reverse]
theorem leanL_perm {l m : List Pf} (h : l.Perm m) : leanL l = leanL m := by
  have hr : Rises (srt (l.filter Pf.right)) := (srt_sorted _).imp fun h => of_decide_eq_true h
  unfold leanL
  rw [show srt (l.filter Pf.right) = srt (m.filter Pf.right) from srt_eq ((List.mergeSort_perm _ leP).trans (h.filter Pf.right)) hr]
end Go.Proofs.YtjeihmchcfadlaaDoor
namespace Go.Proofs.YtjeihmchcfadlaaDoor
open Go Go.Eng Go.Lib
set_option maxRecDepth 100000
/-- A list that is not empty is not nil. -/
def zOf : Nat → Z
  | 0 => .iff
  | _ + 1 => .no
theorem bne_self2 (b : Bool) : (b != b) = false := by cases b <;> rfl
theorem pfs_front (l : List Pf) (q : Pf) (j : Nat) (hj : j < 1 + l.length) : catF 1 (chunk [DV.int IntKind.u32 q.addr, DV.int IntKind.i64 q.bits] 2) (pfs l) j = pfs (q :: l) j := by
  unfold catF
  split
  · have : j = 0 := by omega
    subst this
    rfl
  · obtain ⟨k, rfl⟩ : ∃ k, j = k + 1 := ⟨j - 1, by omega⟩
    rfl
theorem lean_at {l m : List Pf} (h : LeanI l m) {i : Nat} (hi : i < m.length) : m.getD i ⟨0, 0⟩ ∈ m ∧ (m.getD i ⟨0, 0⟩).addr < 4294967296 ∧ (m.getD i ⟨0, 0⟩).right = true := by
  have := getD_mem hi
  exact ⟨this, h.good _ this⟩
theorem lean_next {l m : List Pf} (h : LeanI l m) {i : Nat} (h0 : 0 < i) (hi : i < m.length) : (m.getD (i - 1) ⟨0, 0⟩).addr < (m.getD i ⟨0, 0⟩).addr ∧ (m.getD (i - 1) ⟨0, 0⟩).has (m.getD i ⟨0, 0⟩).addr = false := by
  have h1 := lean_at h (show i - 1 < m.length by omega)
  have ho := List.pairwise_iff_getElem.1 h.ord (i - 1) i (by omega) hi (by omega)
  have e1 : m.getD (i - 1) ⟨0, 0⟩ = m[i - 1] := by rw [List.getD_eq_getElem?_getD, List.getElem?_eq_getElem (by omega)]; rfl
  have e2 : m.getD i ⟨0, 0⟩ = m[i] := by rw [List.getD_eq_getElem?_getD, List.getElem?_eq_getElem hi]; rfl
  rw [e1] at h1 ⊢
  rw [e2]
  have := m[i - 1].sz_pos
  exact ⟨by omega, (has_no h1.2.2 _).2 (.inr ho)⟩
theorem u32_nat (x : Int) : ∃ b : Nat, b < 4294967296 ∧ IntKind.u32.wrap x = b := by
  have : 0 ≤ IntKind.u32.wrap x ∧ IntKind.u32.wrap x ≤ 4294967295 := by rw [IntKind.wrap_u32]; omega
  exact ⟨(IntKind.u32.wrap x).toNat, by omega, by omega⟩
set_option maxHeartbeats 8000000 in
theorem plean_ok (z : Bool) (l : List Pf) (hl : ∀ p ∈ l, p.addr < 4294967296) (a : Nat) (ha : a < 4294967296) (k : Int) : FnOk Tryd.prog 5 [.d (.sl z l.length 2 (pfs l)), .d (.int .u32 a), .d (.int .i64 k)] (.d (.bool true)) := by
  refine fnOk_of_run (TT := TT) (IN := lookI []) TT_ok INok_nil mixed 1000 Tryd.func5 rfl (enters Tryd.func5 (by kernel_rfl) rfl) rfl 105 (by kernel_rfl) ?_
  conv => whnf
  refine .one (.data _ plives_ok rfl rfl ?_)
  conv => whnf
  refine brF rfl ?_
  conv => whnf
  by_cases h1 : l.length > 60
  · refine brT (decide_eq_true (by omega)) ?_
    conv => whnf
  refine brF (decide_eq_false (by omega)) ?_
  conv => whnf
  have hI := leanL_is l hl
  have hlm := hI.len
  have hm : ∀ p ∈ leanL l, p.addr < 4294967296 := fun p hp => (hI.good p hp).1
  have hs1 : leanL (leanL l) = leanL l := leanL_same hI.good hI.ord hI.nom
  have hs2 : leanL l.reverse = leanL l := leanL_perm (List.reverse_perm l)
  refine .one (.data _ (lean_ok z l hl (by omega)) rfl rfl ?_)
  generalize hM : leanL l = m at *
  conv => whnf
  rcases (show (0 ≤ k ∧ k < l.length) ∨ (0 ≤ k ∧ ¬ k < l.length) ∨ ¬ 0 ≤ k by omega) with hk | hk | hk
  refine brT (decide_eq_true hk.1) ?_
  conv => whnf
  refine brT (decide_eq_true hk.2) ?_
  conv => whnf
  refine ⟨hk, ?_⟩
  conv => whnf
  refine ⟨by decide, ?_⟩
  conv => whnf
  obtain ⟨b, hb, hab⟩ : ∃ b : Nat, b < 4294967296 ∧ IntKind.u32.wrap (IntKind.u32.wrap (((l.getD k.toNat ⟨0, 0⟩).addr : Int) + (a : Int).tmod 3) - 1) = b := u32_nat _
  rw [hab]
  rotate_left
  refine brT (decide_eq_true hk.1) ?_
  conv => whnf
  refine brF (decide_eq_false hk.2) ?_
  conv => whnf
  obtain ⟨b, hb, hab⟩ : ∃ b : Nat, b < 4294967296 ∧ (a : Int) = b := ⟨a, ha, rfl⟩
  rw [hab]
  rotate_left
  refine brF (decide_eq_false hk) ?_
  conv => whnf
  obtain ⟨b, hb, hab⟩ : ∃ b : Nat, b < 4294967296 ∧ (a : Int) = b := ⟨a, ha, rfl⟩
  rw [hab]
  all_goals
    have hin1 := in_ok m.isEmpty m b hb hm (by omega)
    have hin2 := in_ok z l b hb hl (by omega)
    rw [show (m.any fun p => p.has b) = (l.any fun p => p.has b) from hI.has b] at hin1
    refine .one (.data _ hin1 rfl rfl ?_)
    conv => whnf
    refine .one (.data _ hin2 rfl rfl ?_)
    conv => whnf
    refine brF (bne_self2 _) ?_
    conv => whnf
    refine brF (decide_eq_false (by omega)) ?_
    conv => whnf
    refine .inv Nat (fun i => i ≤ m.length) (fun i => [(53, .d (.int .i64 i))]) (fun i => []) (fun i => m.length - i) ⟨0, [], Nat.zero_le _, ?_⟩ ?_
    · conv => whnf
      repeat' (first | exact True.intro | exact rfl | exact fun _ => Iff.rfl | exact fun _ _ => rfl | exact renM_ent rfl _ | refine And.intro ?_ ?_)
    intro i hi
    conv => whnf
    refine ⟨fun c1 => ?_, fun c1 => ?_⟩
    · have c1 : (i : Int) < m.length := of_decide_eq_true c1
      have him : i < m.length := by omega
      have hw1 : IntKind.i64.wrap ((i : Int) + 1) = ((i + 1 : Nat) : Int) := by rw [w64_in _ (by omega)]; omega
      obtain ⟨hpm, hpa, hpr⟩ := lean_at hI him
      have hc := pcheck_ok _ hpa
      rw [if_pos hpr] at hc
      have hnx := fun h0 => lean_next hI h0 him
      conv => whnf
      refine ⟨by omega, ?_⟩
      conv => whnf
      rw [Int.toNat_natCast]
      refine .data _ hc rfl rfl ?_
      conv => whnf
      refine brF rfl ?_
      conv => whnf
      by_cases h0 : i = 0
      · refine brF (decide_eq_false (by omega)) ?_
        conv => whnf
        refine ⟨i + 1, [], him, by omega, ?_⟩
        conv => whnf
        rw [hw1]
        repeat' (first | exact True.intro | exact rfl | exact fun _ => Iff.rfl | exact fun _ _ => rfl | exact renM_ent rfl _ | refine And.intro ?_ ?_)
      · have hw2 : IntKind.i64.wrap ((i : Int) - 1) = ((i - 1 : Nat) : Int) := by rw [w64_in _ (by omega)]; omega
        obtain ⟨hx1, hx2⟩ := hnx (by omega)
        obtain ⟨hqm, hqa, hqr⟩ := lean_at hI (show i - 1 < m.length by omega)
        have hh := has_ok _ hqa _ hpa
        rw [hx2] at hh
        refine brT (decide_eq_true (by omega)) ?_
        conv => whnf
        rw [hw2]
        refine ⟨by omega, ?_⟩
        conv => whnf
        rw [Int.toNat_natCast]
        refine brF (decide_eq_false (by omega)) ?_
        conv => whnf
        refine ⟨by omega, ?_⟩
        conv => whnf
        rw [hw2, Int.toNat_natCast]
        refine .data _ hh rfl rfl ?_
        conv => whnf
        refine brF rfl ?_
        conv => whnf
        refine ⟨i + 1, [], him, by omega, ?_⟩
        conv => whnf
        rw [hw1]
        repeat' (first | exact True.intro | exact rfl | exact fun _ => Iff.rfl | exact fun _ _ => rfl | exact renM_ent rfl _ | refine And.intro ?_ ?_)
    · conv => whnf
      refine .nilT 10 36 2 (pfs []) _ _ rfl ?_
      conv => whnf
      refine .inv Nat (fun j => j ≤ l.length) (fun j => [(10, .all 0), (89, .d (.int .i64 j))]) (fun j => [(0, .row 36 2 j (zOf j) (pfs (l.take j).reverse))]) (fun j => l.length - j) ⟨0, [0], Nat.zero_le _, ?_⟩ ?_
      · conv => whnf
        repeat' (first | exact True.intro | exact rfl | exact subZ_self _ | exact Or.inr rfl | exact fun _ _ => rfl | exact fun _ h => absurd h (Nat.not_lt_zero _) | refine And.intro ?_ ?_)
      intro j hj
      conv => whnf
      refine ⟨fun c2 => ?_, fun c2 => ?_⟩
      · have c2 : (j : Int) < l.length := of_decide_eq_true c2
        have hjl : j < l.length := by omega
        have hw1 : IntKind.i64.wrap ((j : Int) + 1) = ((j + 1 : Nat) : Int) := by rw [w64_in _ (by omega)]; omega
        have htk := take_getD hjl
        conv => whnf
        refine ⟨by omega, ?_⟩
        conv => whnf
        rw [Int.toNat_natCast]
        refine ⟨by omega, ?_⟩
        conv => whnf
        refine ⟨j + 1, [3], hjl, by omega, ?_⟩
        conv => whnf
        rw [hw1]
        repeat' (first | exact True.intro | exact rfl | exact subZ_self _ | exact Or.inr rfl | exact fun _ _ => rfl | exact fun _ h => absurd h (Nat.not_lt_zero _) | refine And.intro ?_ ?_)
        · omega
        · intro x hx
          rw [htk, List.reverse_append]
          exact pfs_front (l.take j).reverse _ x (by rw [List.length_reverse, List.length_take]; omega)
      · have c2 : ¬ (j : Int) < l.length := of_decide_eq_false c2
        obtain rfl : j = l.length := by omega
        rw [List.take_length]
        have hL := lean_ok m.isEmpty m hm (by omega)
        rw [hs1] at hL
        have hS := psame_ok m.isEmpty m.isEmpty m m (by omega) (by omega)
        rw [decide_eq_true rfl] at hS
        have hrev : ∀ p ∈ l.reverse, p.addr < 4294967296 := fun p hp => hl p (List.mem_reverse.1 hp)
        conv => whnf
        refine .one (.data _ hL rfl rfl ?_)
        conv => whnf
        refine .one (.data _ hS rfl rfl ?_)
        conv => whnf
        refine brT rfl ?_
        conv => whnf
        have hz : zOf l.length = .iff ∨ zOf l.length = .no := by
          cases l.length
          · exact .inl rfl
          · exact .inr rfl
        have hR := fun y => lean_ok y l.reverse hrev (by rw [List.length_reverse]; omega)
        simp only [hs2, List.length_reverse] at hR
        rcases hz with hz | hz
        · rw [hz]
          refine .one (.frz (r := .d (.sl m.isEmpty m.length 2 (pfs m))) (as' := [.d (.sl (Nat.beq l.length 0) l.length 2 (pfs l.reverse))]) (fr := [0]) (hR _) ?_ rfl rfl ?_)
          · conv => whnf
            exact ⟨rfl, rfl⟩
          conv => whnf
          refine .one (.data _ hS rfl rfl ?_)
          conv => whnf
        · rw [hz]
          refine .one (.frz (r := .d (.sl m.isEmpty m.length 2 (pfs m))) (as' := [.d (.sl false l.length 2 (pfs l.reverse))]) (fr := [0]) (hR _) ?_ rfl rfl ?_)
          · conv => whnf
            exact ⟨rfl, rfl⟩
          conv => whnf
          refine .one (.data _ hS rfl rfl ?_)
          conv => whnf
end Go.Proofs.YtjeihmchcfadlaaDoor
namespace Go.Proofs.YtjeihmchcfadlaaDoor
open Go Go.Eng Go.ChangeShapes Go.WideShapes Go.RowKit

theorem prefixLean_contract (dss : List (List DV)) (h : DTs Tryd.prog Tryd.f5.params.toList dss) : FnOk Tryd.prog 5 (argsSV Tryd.prog Tryd.f5.params.toList dss) (.d (.bool true)) := by
  rw [Tryd.params5] at h ⊢
  match dss, h with
  | [a0, a1, a2], ⟨h0, h1, h2, _⟩ =>
    obtain ⟨z, l, d0, rfl, hd, hl⟩ := pfs_of h0
    obtain ⟨n1, rfl, w1⟩ := h1.int_inv Tryd.underlying22
    obtain ⟨n2, rfl, w2⟩ := h2.int_inv Tryd.underlying3
    have w1 : 0 ≤ n1 ∧ n1 ≤ 4294967295 := u_int w1
    obtain ⟨m, rfl⟩ := Int.eq_ofNat_of_zero_le w1.1
    have ha : argsSV Tryd.prog #[33, 22, 3].toList [[d0], [.int .u32 m], [.int .i64 n2]] = [.d d0, .d (.int .u32 m), .d (.int .i64 n2)] := by
      simp [argsSV, argSV, oneSV, Tryd.underlying33, Tryd.underlying22, Tryd.underlying3]
    rw [ha]
    exact (plean_ok z l hl m (by omega) n2).conv ⟨hd, DS.refl _, DS.refl _, trivial⟩
set_option maxRecDepth 100000 in
theorem prefixLean_lifted (os : Os) (started : os.Started) (H : Type) (enc : TypeId × Value → H) :
    ReturnsInHanded {} Tryd.checked os 5 .any (fun w args => (Rows.prefixLeanSpec.pre enc Tryd.prog Tryd.f5 [] false w args ∧ laidMetH Tryd.prog Rows.prefixLeanRow.laid w) ∧ sizedMet enc Tryd.prog Tryd.f5 (OpenSpec.ofChange Rows.prefixLeanSpec) false w args)
      (Rows.prefixLeanSpec.post enc Tryd.prog Tryd.f5 false true false false) := by
  refine returnsInHanded_of_change_and (C := Tryd.checked) (X := fun w _ => laidMetH Tryd.prog Rows.prefixLeanRow.laid w) (fun _ _ _ hh h => h.of_heap hh) own started (by kernel_rfl) Tryd.func5
    (ChangeSpec.witness_at (enc := enc) (C := Tryd.checked) (os := os) (X := fun w _ => laidMetH Tryd.prog Rows.prefixLeanRow.laid w) false (laidWorld os) #[.slice none 0 0, .int .u32 0, .int .i64 0] 8 rfl (by kernel_rfl) (by kernel_rfl) (by kernel_rfl) (by kernel_rfl) (by kernel_rfl) (laidWorld_met os _)) ?_
  intro W base args ds gs before hval0 hW _ _ hL _
  have hlen : ∃ d1 d2 d3, ds = [d1, d2, d3] := by
    obtain ⟨p, q, hA, _⟩ := hW
    have hA : DataW.TrodAll enc Tryd.prog W 0 (fun _ => true) true Tryd.f5.params.toList args.toList ds p := hA
    have := trodAll_len hA
    rw [Tryd.params5] at this
    match ds, this with
    | [d1, d2, d3], _ => exact ⟨d1, d2, d3, rfl⟩
  obtain ⟨d1, d2, d3, rfl⟩ := hlen
  exact law_calls kids full (m := 8) (fun t ht => by
    rw [Tryd.params5] at ht
    simp at ht
    rcases ht with rfl | rfl | rfl <;> exact ⟨by kernel_rfl, of_decide_eq_true (by kernel_rfl)⟩) prefixLean_contract hval0 rfl hW (by kernel_rfl) Tryd.underlying4 ⟨rfl, rfl, rfl⟩ (vok_of hL)

theorem prefixLean_row : Rows.PrefixLeanSaid :=
  OpenClaim.holds_of_wide 5 Tryd.f5 rfl rfl rfl rfl rfl rfl rfl ⟨rfl, rfl, rfl, rfl, rfl⟩ rfl rfl rfl rfl rfl (by kernel_rfl) Tryd.func5 (by kernel_rfl)
    (of_decide_eq_true (by kernel_rfl)) (by unfold Func.isWrapper; rw [if_neg (of_decide_eq_false (by kernel_rfl))]; exact ⟨rfl, rfl⟩)
    (fun os started H enc _ => prefixLean_lifted os started H enc)

theorem prefixLean_holds : Rows.PrefixLeanCardSaid :=
  Claim7.holds_tied_plain_at .later [] [.data, .data, .data, .data, .sentinel, .sentinel, .pinned] true (true, "d513b840ec91f2345823f5f8dd3534c259aa7cc5da73d820b30d898315585fed") true
    prefixLean_row (fun _ h => by cases h) (by kernel_rfl) (fun _ h => by cases h) prefixLean_row_tie rfl ⟨rfl, rfl⟩ (by kernel_rfl) rfl
    (fun f fn hf hfn => by
      obtain rfl : f = 5 := Option.some.inj ((show Tryd.prog.funcNamed "hardtack/hardtacklaw36.PrefixLean" = some 5 by kernel_rfl).symm.trans hf) |>.symm
      obtain rfl : fn = Tryd.f5 := (Option.some.inj (Tryd.func5.symm.trans hfn)).symm
      exact ⟨by kernel_rfl, fun j t ht => by
        rw [Tryd.params5] at ht
        rcases j with _ | _ | _ | j
        · obtain rfl : t = 33 := by simpa using ht.symm
          exact (show Tryd.prog.wantsStandIn 33 = false by kernel_rfl)
        · obtain rfl : t = 22 := by simpa using ht.symm
          exact (show Tryd.prog.wantsStandIn 22 = false by kernel_rfl)
        · obtain rfl : t = 3 := by simpa using ht.symm
          exact (show Tryd.prog.wantsStandIn 3 = false by kernel_rfl)
        · simp at ht⟩)
    (by kernel_rfl)
end Go.Proofs.YtjeihmchcfadlaaDoor
