/-
  The engine, part 8: comparisons of structs, conversions, parts of strings, builtins, calls of pure functions.
-/
import Derived.Test.YtdphkaiijlekhaaEg7
import Derived.LaidEql
namespace Go.Eng
open Go Go.RowKit

section
variable {P : Program} {TT : Nat → Option TI} {ts : List SV} {ks : List KB} {w : World} {M : Nat → Prop} {β : Env} {a : Act} {K : SV → Prop} {o : Oper}

theorem eqSK_spec {es : List EK} : ∀ {l m : List SV} {c : Bool → Prop} (_ : eqSK es l m c) (xs ys : List Value), l.length = xs.length → m.length = ys.length →
    (∀ (j : Nat) (s : SV) (u : Value), l[j]? = some s → xs[j]? = some u → Den w M β s u) → (∀ (j : Nat) (s : SV) (u : Value), m[j]? = some s → ys[j]? = some u → Den w M β s u) →
    c (eqCells es xs ys) ∧ xs.length = es.length ∧ ys.length = es.length ∧ (∀ (j : Nat) (k : EK) (x : Value), es[j]? = some k → xs[j]? = some x → fits k x) ∧ (∀ (j : Nat) (k : EK) (y : Value), es[j]? = some k → ys[j]? = some y → fits k y) := by
  induction es with
  | nil =>
    intro l m c h xs ys hl hm _ _
    cases l with
    | nil => cases m with
      | nil =>
        have : xs = [] := List.eq_nil_of_length_eq_zero (by simpa using hl.symm)
        have : ys = [] := List.eq_nil_of_length_eq_zero (by simpa using hm.symm)
        subst_vars
        exact ⟨h, rfl, rfl, by simp, by simp⟩
      | cons => exact h.elim
    | cons => exact h.elim
  | cons e es ih =>
    intro l m c h xs ys hl hm hdx hdy
    have go : ∀ (s t : SV) (l' m' : List SV) (b : Bool), l = s :: l' → m = t :: m' → (∀ u, Den w M β s u → fits e u) → (∀ u, Den w M β t u → fits e u) → (∀ u v, Den w M β s u → Den w M β t v → eqCell e u v = b) → eqSK es l' m' (fun q => c (b && q)) →
        c (eqCells (e :: es) xs ys) ∧ xs.length = (e :: es).length ∧ ys.length = (e :: es).length ∧ (∀ (j : Nat) (k : EK) (x : Value), (e :: es)[j]? = some k → xs[j]? = some x → fits k x) ∧ (∀ (j : Nat) (k : EK) (y : Value), (e :: es)[j]? = some k → ys[j]? = some y → fits k y) := by
      rintro s t l' m' b rfl rfl hs ht hst hq
      cases xs with
      | nil => simp at hl
      | cons x xs => cases ys with
        | nil => simp at hm
        | cons y ys =>
          have hx := hdx 0 s x rfl rfl
          have hy := hdy 0 t y rfl rfl
          obtain ⟨h1, h2, h3, h4, h5⟩ := ih hq xs ys (by simpa using hl) (by simpa using hm) (fun j s u a b => hdx (j + 1) s u (by simpa using a) (by simpa using b)) (fun j s u a b => hdy (j + 1) s u (by simpa using a) (by simpa using b))
          refine ⟨by simp only [eqCells, hst x y hx hy]; exact h1, by simp [h2], by simp [h3], fun j k z hj hz => ?_, fun j k z hj hz => ?_⟩
          · cases j with
            | zero => simp at hj hz; subst_vars; exact hs _ hx
            | succ j => exact h4 j k z (by simpa using hj) (by simpa using hz)
          · cases j with
            | zero => simp at hj hz; subst_vars; exact ht _ hy
            | succ j => exact h5 j k z (by simpa using hj) (by simpa using hz)
    unfold eqSK at h
    split at h
    · cases ‹e :: es = []›
    · rename_i he
      obtain ⟨rfl, rfl⟩ := List.cons.inj he
      split at h
      · rename_i hk1 hk2
        have hk1 := kEq_eq hk1
        have hk2 := kEq_eq hk2
        subst hk1 hk2
        exact go _ _ _ _ _ rfl rfl (fun u hu => by cases den_int hu; rfl) (fun u hu => by cases den_int hu; rfl) (fun u v hu hv => by cases den_int hu; cases den_int hv; rfl) h
      · exact h.elim
    · rename_i he
      obtain ⟨rfl, rfl⟩ := List.cons.inj he
      obtain ⟨p, h, hp⟩ := boolK_spec h
      obtain ⟨q, h, hq⟩ := boolK_spec h
      exact go _ _ _ _ (p == q) rfl rfl (fun u hu => by cases hu with | d hu => cases hp w M u hu; trivial) (fun u hu => by cases hu with | d hu => cases hq w M u hu; trivial)
        (fun u v hu hv => by cases hu with | d hu => cases hv with | d hv => cases hp w M u hu; cases hq w M v hv; rfl) h
    · rename_i he
      obtain ⟨rfl, rfl⟩ := List.cons.inj he
      exact go _ _ _ _ _ rfl rfl (fun u hu => by cases den_str hu; trivial) (fun u hu => by cases den_str hu; trivial) (fun u v hu hv => by cases den_str hu; cases den_str hv; simp [strV, eqCell, toList_str]) h
    · exact h.elim

theorem den_data {x : DV} {v : Value} (h : Den w M β (.d x) v) : Rd w M x v := by cases h; assumption

theorem run_eqGuard_rd {op : BinOp} {t : TypeId} {x y : Operand} {p q : DV} {u v : Value} (hu : Rd w M p u) (_hv : Rd w M q v) : (eqGuard op t x y u v).run P w = .ok () w := by
  cases hu <;> simp only [strV, eqGuard_at_int, eqGuard_at_bool, eqGuard_at_string, eqGuard_at_slice] <;> rfl

theorem eqIn_ptr_nil (d : Nat) (t e : TypeId) (p : Addr) (h : P.underlying t = some (.pointer e)) : (Op.equalIn (d + 1) t (.pointer (some p)) (.pointer none)).run P w = .ok false w := by
  simp [Op.equalIn, run_underlying h]
theorem eqIn_nil_ptr (d : Nat) (t e : TypeId) (p : Option Addr) (h : P.underlying t = some (.pointer e)) : (Op.equalIn (d + 1) t (.pointer none) (.pointer p)).run P w = .ok p.isNone w := by
  simp [Op.equalIn, run_underlying h]
theorem eqIn_ptr_ptr (d : Nat) (t e : TypeId) (p q : Addr) (i : TypeInfo) (b : Bool) (h : P.underlying t = some (.pointer e)) (hi : P.info? e = some i) (hz : i.size ≠ 0) (hs : (sameAddr p q).run P w = .ok b w) : (Op.equalIn (d + 1) t (.pointer (some p)) (.pointer (some q))).run P w = .ok b w := by
  simp [Op.equalIn, run_underlying h, run_sizeOf hi, hz, hs]
theorem eq_ptr {t : TypeId} {u v : Option Addr} {b : Bool} (h : ∀ d, (Op.equalIn (d + 1) t (.pointer u) (.pointer v)).run P w = .ok b w) (op : BinOp) (x y : Operand) :
    (op = .eql → (do eqGuard op t x y (.pointer u) (.pointer v); binOp op t (.pointer u) (.pointer v) : Sem Value).run P w = .ok (.bool b) w) ∧
    (op = .neq → (do eqGuard op t x y (.pointer u) (.pointer v); binOp op t (.pointer u) (.pointer v) : Sem Value).run P w = .ok (.bool (!b)) w) := by
  have e : (Op.equal t (.pointer u) (.pointer v)).run P w = .ok b w := h 9999
  refine ⟨fun ho => ?_, fun ho => ?_⟩ <;> subst ho <;> simp [eqGuard, binOp, e]

/-- Blocks that are known are not one. -/
def Apart (β : Env) (ks : List KB) : Prop := ∀ (i j : Nat) (L L' : Loc) (t t' : TypeId) (l l' : List SV), i ≠ j → ks[i]? = some (.cells t l) → ks[j]? = some (.cells t' l') → β i = some L → β j = some L' → L.b ≠ L'.b

def BoolD (x : DV) (b : Bool) : Prop := x = .bool b ∨ (x = .tt ∧ b = true) ∨ (x = .ff ∧ b = false)
theorem BoolD.rd {x : DV} {b : Bool} (h : BoolD x b) (w : World) (M : Nat → Prop) : Rd w M x (.bool b) := by
  rcases h with rfl | ⟨rfl, rfl⟩ | ⟨rfl, rfl⟩
  · exact .bool _
  · exact .tt
  · exact .ff
theorem negSK_spec {x : DV} {b : Bool} (hb : BoolD x b) {K : SV → Prop} (h : negSK x K) : ∃ s, K s ∧ ∀ (w : World) (M : Nat → Prop) (β : Env), Den w M β s (.bool (!b)) := by
  rcases hb with rfl | ⟨rfl, rfl⟩ | ⟨rfl, rfl⟩
  · exact ⟨_, h, fun _ _ _ => .d (.bool _)⟩
  · exact ⟨_, h, fun _ _ _ => .d .ff⟩
  · exact ⟨_, h, fun _ _ _ => .d .tt⟩

/-- Where a pointer into a family leads. -/
theorem arenaIx_spec {x : SV} {c : Nat → Nat → Prop} (h : arenaIx x c) {u : Value} (hu : Den w M β x u) : ∃ i n, c i n ∧ ((n = 0 ∧ u = .pointer none) ∨ ∃ m L, n = m + 1 ∧ β i = some L ∧ u = .pointer (some ⟨m, 0, none⟩)) := by
  unfold arenaIx at h
  split at h
  · rename_i i n
    cases hu with
    | npNil => exact ⟨_, _, h, .inl ⟨rfl, rfl⟩⟩
    | np _ m L hL => exact ⟨_, _, h, .inr ⟨m, L, rfl, hL, rfl⟩⟩
  · rename_i i n off
    split at h
    · cases hu with
      | ap _ m _ L hL => exact ⟨_, _, h, .inr ⟨m, L, rfl, hL, rfl⟩⟩
    · exact h.elim
  · exact h.elim

theorem ptrEqK_spec {P : Program} (hB : ∀ (i : Nat) (L : Loc) (k : KB), ks[i]? = some k → k ≠ .gone → β i = some L → ∃ fp, KBat w M β L fp k) (hA : Apart β ks) {x y : SV} {c : DV → Prop} (h : ptrEqK ks x y c) {u v : Value} (hu : Den w M β x u) (hv : Den w M β y v)
    {t e : TypeId} {i : TypeInfo} (ht : P.underlying t = some (.pointer e)) (hi : P.info? e = some i) (hz : i.size ≠ 0) : ∃ dv b p q, c dv ∧ BoolD dv b ∧ u = .pointer p ∧ v = .pointer q ∧ ∀ d, (Op.equalIn (d + 1) t (.pointer p) (.pointer q)).run P w = .ok b w := by
  unfold ptrEqK at h
  split at h
  · rename_i i' a'
    cases hu with
    | ptr _ _ L hL =>
    split at h
    · cases hv
      exact ⟨_, false, _, _, h, .inr (.inr ⟨rfl, rfl⟩), rfl, rfl, fun d => eqIn_ptr_nil d t e _ ht⟩
    · rename_i j' b'
      cases hv with
      | ptr _ _ L' hL' =>
      split at h
      · rename_i hij
        cases beq_of hij
        obtain rfl : L = L' := Option.some.inj (hL.symm.trans hL')
        have key : ∀ b, Nat.beq a' b' = b → ∀ d, (Op.equalIn (d + 1) t (.pointer (some ⟨L.b, a', none⟩)) (.pointer (some ⟨L.b, b', none⟩))).run P w = .ok b w := fun b hb d => by
          refine eqIn_ptr_ptr d t e _ _ i _ ht hi hz ?_
          simp only [sameAddr, beq_self_eq_true, if_true]
          show Result.ok _ _ = _
          cases b with
          | true => simp [Nat.eq_of_beq_eq_true hb]
          | false =>
            have : a' ≠ b' := fun e => by subst e; rw [show Nat.beq a' a' = true from Nat.beq_refl a'] at hb; cases hb
            simp [this]
        split at h
        · rename_i hb; exact ⟨_, true, _, _, h, .inr (.inl ⟨rfl, rfl⟩), rfl, rfl, key true hb⟩
        · rename_i hb; exact ⟨_, false, _, _, h, .inr (.inr ⟨rfl, rfl⟩), rfl, rfl, key false hb⟩
      · rename_i hij
        have hne : i' ≠ j' := fun e => by subst e; rw [show Nat.beq i' i' = true from Nat.beq_refl i'] at hij; cases hij
        rw [getBK_eq] at h
        split at h
        · rename_i t1 l1 hg1
          rw [getBK_eq] at h
          split at h
          · rename_i t2 l2 hg2
            have k1 := getB_some hg1 (by simp)
            have k2 := getB_some hg2 (by simp)
            obtain ⟨f1, hk1⟩ := blk_at hB hL k1 (by simp)
            obtain ⟨f2, hk2⟩ := blk_at hB hL' k2 (by simp)
            have hb := hA _ _ _ _ _ _ _ _ hne k1 k2 hL hL'
            cases hk1 with
            | cells _ _ v1 _ h1 =>
            cases hk2 with
            | cells _ _ v2 _ h2 =>
            exact ⟨_, false, _, _, h, .inr (.inr ⟨rfl, rfl⟩), rfl, rfl, fun d => eqIn_ptr_ptr d t e _ _ i _ ht hi hz (run_sameAddr_other w (fun e => hb (congrArg Addr.block e)) h1 h2)⟩
          · exact h.elim
        · exact h.elim
    · exact h.elim
  · cases hu
    split at h
    · cases hv
      exact ⟨_, true, _, _, h, .inr (.inl ⟨rfl, rfl⟩), rfl, rfl, fun d => eqIn_nil_ptr d t e _ ht⟩
    · cases hv
      exact ⟨_, false, _, _, h, .inr (.inr ⟨rfl, rfl⟩), rfl, rfl, fun d => eqIn_nil_ptr d t e _ ht⟩
    · cases hv
      exact ⟨_, false, _, _, h, .inr (.inr ⟨rfl, rfl⟩), rfl, rfl, fun d => eqIn_nil_ptr d t e _ ht⟩
    · cases hv with
      | npNil => exact ⟨_, true, _, _, h, .inl rfl, rfl, rfl, fun d => eqIn_nil_ptr d t e _ ht⟩
      | np _ n L hL => exact ⟨_, false, _, _, h, .inl rfl, rfl, rfl, fun d => eqIn_nil_ptr d t e _ ht⟩
    · exact h.elim
  · split at h
    · cases hv
      split at h
      · cases hu
        exact ⟨_, false, _, _, h, .inr (.inr ⟨rfl, rfl⟩), rfl, rfl, fun d => eqIn_ptr_nil d t e _ ht⟩
      · cases hu with
        | npNil => exact ⟨_, true, _, _, h, .inl rfl, rfl, rfl, fun d => eqIn_nil_ptr d t e _ ht⟩
        | np _ n L hL => exact ⟨_, false, _, _, h, .inl rfl, rfl, rfl, fun d => eqIn_ptr_nil d t e _ ht⟩
      · exact h.elim
    · obtain ⟨i', n, h, hn⟩ := arenaIx_spec h hu
      obtain ⟨j', m, h, hm⟩ := arenaIx_spec h hv
      rw [getBK_eq] at h
      split at h
      · rename_i t1 dom c1 hg1
        rw [getBK_eq] at h
        split at h
        · rename_i t2 dom' c2 hg2
          obtain ⟨⟨hdn, hdm⟩, h⟩ := h
          rcases hn with ⟨rfl, rfl⟩ | ⟨n, L, rfl, hL, rfl⟩
          · rcases hm with ⟨rfl, rfl⟩ | ⟨m, L', rfl, hL', rfl⟩
            · exact ⟨_, true, _, _, h, .inl rfl, rfl, rfl, fun d => eqIn_nil_ptr d t e _ ht⟩
            · exact ⟨_, false, _, _, h, .inl rfl, rfl, rfl, fun d => eqIn_nil_ptr d t e _ ht⟩
          · rcases hm with ⟨rfl, rfl⟩ | ⟨m, L', rfl, hL', rfl⟩
            · exact ⟨_, false, _, _, h, .inl rfl, rfl, rfl, fun d => eqIn_ptr_nil d t e _ ht⟩
            · refine ⟨_, n == m, _, _, h, .inl (by simp), rfl, rfl, fun d => eqIn_ptr_ptr d t e _ _ i _ ht hi hz ?_⟩
              by_cases hnm : n = m
              · subst hnm
                simp only [sameAddr, beq_self_eq_true, if_true]
                show Result.ok _ _ = _
                simp
              · obtain ⟨f1, hk1⟩ := blk_at hB hL (getB_some hg1 (by simp)) (by simp)
                obtain ⟨f2, hk2⟩ := blk_at hB hL' (getB_some hg2 (by simp)) (by simp)
                cases hk1 with
                | arena _ _ _ _ _ h1 =>
                cases hk2 with
                | arena _ _ _ _ _ h2 =>
                obtain ⟨v1, e1, _⟩ := h1 n (hdn (by omega))
                obtain ⟨v2, e2, _⟩ := h2 m (hdm (by omega))
                rw [show (n == m) = false from by simpa using hnm]
                exact run_sameAddr_other w (fun e => hnm (congrArg Addr.block e)) e1 e2
        · exact h.elim
      · exact h.elim

theorem pev_binOp (hTT : TTok P TT) (hT : ∀ x, Den w M β (val ts x) (a.eval x)) (hB : ∀ (i : Nat) (L : Loc) (k : KB), ks[i]? = some k → k ≠ .gone → β i = some L → ∃ fp, KBat w M β L fp k) (hA : Apart β ks) {op : BinOp} {t t' : TypeId} {x y : Operand} (ho : o.op = .binOp op t x y t') (h : pev P TT ts ks (.binOp op t x y t') K) : Ran P o a w M β K := by
  unfold Ran
  simp only [execOp, ho]
  simp only [pev, valK_eq] at h
  have hv := hT x
  generalize a.eval x = av at hv ⊢
  have hw := hT y
  generalize a.eval y = bv at hw ⊢
  split at h
  · rename_i p q hx hy
    rw [hx] at hv
    rw [hy] at hw
    split at h
    · rename_i size bytes agg zero desc eqk ht
      obtain ⟨info, d, z, hi, hu, _, _, _, _, _, _, _, _, hd⟩ := find_TT hTT ht
      obtain ⟨r, z, hK, hr, hd'⟩ := bin_sound (β := β) hu hd (den_data hv) (den_data hw) h
      refine ⟨r, z, hK, ?_, hd'⟩
      simp [run_eqGuard_rd (den_data hv) (den_data hw), hr]
    · exact h.elim
  · rename_i l m hx hy
    rw [hx] at hv
    rw [hy] at hw
    cases hv with
    | agg _ xs hlx hdx _ =>
    cases hw with
    | agg _ ys hly hdy _ =>
    split at h
    · rename_i size bytes agg zero desc e es ht
      have heq := (hTT _ _ ht).eqk (by simp) w xs ys
      simp only at heq
      split at h
      · obtain ⟨hK, h1, h2, h3, h4⟩ := eqSK_spec (w := w) (M := M) (β := β) h xs ys hlx hly hdx hdy
        obtain ⟨hr, hg⟩ := heq h1 h2 h3 h4
        refine ⟨_, _, hK, ?_, .d (.bool _)⟩
        have : (eqGuard .eql t x y (.agg xs.toArray) (.agg ys.toArray)).run P w = .ok () w := by simp [eqGuard, hg]
        simp [this, binOp, hr]
      · obtain ⟨hK, h1, h2, h3, h4⟩ := eqSK_spec (w := w) (M := M) (β := β) h xs ys hlx hly hdx hdy
        obtain ⟨hr, hg⟩ := heq h1 h2 h3 h4
        refine ⟨_, _, hK, ?_, .d (.bool _)⟩
        have : (eqGuard .neq t x y (.agg xs.toArray) (.agg ys.toArray)).run P w = .ok () w := by simp [eqGuard, hg]
        simp [this, binOp, hr]
      · exact h.elim
    · exact h.elim
  · rename_i i off n c f' hx hy
    rw [hx] at hv
    rw [hy] at hw
    split at h
    · rename_i size bytes agg zero e eqk ht
      obtain ⟨info, d, z, hi, hu, _, _, _, _, _, _, _, _, hd⟩ := find_TT hTT ht
      cases hd
      cases den_data hw
      cases hv with
      | cs _ _ _ _ L hL hnc =>
        split at h
        · refine ⟨_, .bool false, h, ?_, .d .ff⟩
          simp [eqGuard, binOp, eq_slice_nil t e (some _) _ _ hu]
        · refine ⟨_, .bool true, h, ?_, .d .tt⟩
          simp [eqGuard, binOp, eq_slice_nil t e (some _) _ _ hu]
        · exact h.elim
    · exact h.elim
  · rename_i i f' hx hy
    rw [hx] at hv
    rw [hy] at hw
    split at h
    · rename_i size bytes agg zero e eqk ht
      obtain ⟨info, d, z, hi, hu, _, _, _, _, _, _, _, _, hd⟩ := find_TT hTT ht
      cases hd
      cases den_data hw
      rw [getBK_eq] at h
      cases hk : getB ks i with
      | row e' sz n z f =>
        rw [hk] at h
        simp only at h
        have hks := getB_some hk (by simp)
        have hnn : ∀ L : Loc, β i = some L → (L.nil = true → z ≠ .no ∧ n = 0) ∧ (L.nil = false → z = .iff → 0 < n) := fun L hL => by
          obtain ⟨fp, hkb⟩ := hB i L _ hks (by simp) hL
          cases hkb with
          | rowNil _ _ _ _ h0 h1 h2 h3 h4 => exact ⟨fun _ => ⟨h4, rfl⟩, fun h => by rw [h1] at h; cases h⟩
          | row _ _ _ _ _ vs fz h0 h1 h2 hn h3 => exact ⟨fun h => (by rw [h1] at h; cases h), fun _ => h3⟩
        cases hv with
        | allNil _ L hL hnil =>
          obtain ⟨hz, rfl⟩ := (hnn L hL).1 hnil
          split at h
          · exact absurd rfl hz
          · split at h
            · refine ⟨_, .bool true, h, ?_, .d (.bool true)⟩
              simp [eqGuard, binOp, eq_slice_nil t e none 0 0 hu]
            · refine ⟨_, .bool false, h, ?_, .d (.bool false)⟩
              simp [eqGuard, binOp, eq_slice_nil t e none 0 0 hu]
            · exact h.elim
          · exact h.elim
        | all _ L hL hnil =>
          have hpos := (hnn L hL).2 hnil
          split at h
          · split at h
            · refine ⟨_, .bool false, h, ?_, .d .ff⟩
              simp [eqGuard, binOp, eq_slice_nil t e (some _) _ _ hu]
            · refine ⟨_, .bool true, h, ?_, .d .tt⟩
              simp [eqGuard, binOp, eq_slice_nil t e (some _) _ _ hu]
            · exact h.elim
          · have hb : Nat.beq n 0 = false := by
              have := hpos rfl
              cases n with
              | zero => omega
              | succ n => rfl
            rw [hb] at h
            split at h
            · refine ⟨_, .bool false, h, ?_, .d (.bool false)⟩
              simp [eqGuard, binOp, eq_slice_nil t e (some _) _ _ hu]
            · refine ⟨_, .bool true, h, ?_, .d (.bool true)⟩
              simp [eqGuard, binOp, eq_slice_nil t e (some _) _ _ hu]
            · exact h.elim
          · exact h.elim
      | _ => rw [hk] at h; exact h.elim
    · exact h.elim
  · split at h
    · rename_i size bytes agg zero e eqk ht
      obtain ⟨info, d, z, hi, hu, _, _, _, _, _, _, _, _, hd⟩ := find_TT hTT ht
      cases hd
      split at h
      · rename_i size' bytes' agg' zero' desc' eqk' hte
        obtain ⟨infoe, de, ze, hie, hue, hsze, _⟩ := find_TT hTT hte
        split at h
        · rename_i hble
          have hz : infoe.size ≠ 0 := by have := ble_of hble; simp only at hsze; omega
          split at h
          · obtain ⟨dv, b, p, q, hc, hbd, rfl, rfl, he⟩ := ptrEqK_spec (P := P) hB hA h hv hw hu hie hz
            refine ⟨_, _, hc, ?_, .d (hbd.rd _ _)⟩
            have := (eq_ptr he .eql x y).1 rfl
            simp only [Sem.run_bind] at this ⊢
            rw [this]; rfl
          · obtain ⟨dv, b, p, q, hc, hbd, rfl, rfl, he⟩ := ptrEqK_spec (P := P) hB hA h hv hw hu hie hz
            obtain ⟨s, hK, hs⟩ := negSK_spec hbd hc
            refine ⟨s, _, hK, ?_, hs _ _ _⟩
            have := (eq_ptr he .neq x y).2 rfl
            simp only [Sem.run_bind] at this ⊢
            rw [this]; rfl
          · exact h.elim
        · exact h.elim
      · exact h.elim
    · exact h.elim

theorem pev_unOp (hT : ∀ x, Den w M β (val ts x) (a.eval x)) {op : UnOp} {t : TypeId} {x : Operand} (ho : o.op = .unOp op t x) (h : pev P TT ts ks (.unOp op t x) K) : Ran P o a w M β K := by
  unfold Ran
  simp only [execOp, ho]
  simp only [pev, valK_eq] at h
  have hv := hT x
  generalize a.eval x = av at hv ⊢
  split at h
  · rename_i hx; rw [hx] at hv; cases den_data hv; exact ⟨_, _, h, by simp [Op.unary], .d .ff⟩
  · rename_i hx; rw [hx] at hv; cases den_data hv; exact ⟨_, _, h, by simp [Op.unary], .d .tt⟩
  · rename_i b hx; rw [hx] at hv; cases den_data hv; exact ⟨_, _, h, by simp [Op.unary], .d (.bool _)⟩
  · rename_i k n hx; rw [hx] at hv; cases den_data hv; exact ⟨_, _, h, by simp [Op.unary, Op.intArith], .d (.int _ _)⟩
  · rename_i k n hx; rw [hx] at hv; cases den_data hv; exact ⟨_, _, h, by simp [Op.unary, intBits_xor], .d (.int _ _)⟩
  · exact h.elim

end
end Go.Eng
