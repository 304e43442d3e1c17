/-
  The engine, part 7: index, arithmetic and comparisons, conversions, parts of strings, building of structs.
-/
import Derived.Test.YtdphkaiijlekhaaEg6
namespace Go.Eng
open Go Go.RowKit

section
variable {P : Program} {TT : Nat → Option TI} {ts : List SV} {ks : List KB} {w : World} {M : Nat → Prop} {β : Env} {a : Act} {K : SV → Prop} {o : Oper}

theorem pev_index (hTT : TTok P TT) (hT : ∀ x, Den w M β (val ts x) (a.eval x)) {t : TypeId} {x ix : Operand} (ho : o.op = .index t x ix) (h : pev P TT ts ks (.index t x ix) K) : Ran P o a w M β K := by
  unfold Ran
  simp only [execOp, ho]
  simp only [pev, valK_eq] at h
  have hv := hT x
  generalize a.eval x = av at hv ⊢
  have hw := hT ix
  generalize a.eval ix = iv at hw ⊢
  split at h
  · rename_i size bytes agg zero eqk ht
    obtain ⟨info, d, z, hi, hu, _, _, _, _, _, _, _, _, hd⟩ := find_TT hTT ht
    cases hd
    split at h
    · rename_i s k n hx hix
      rw [hx] at hv
      rw [hix] at hw
      cases den_int hw
      cases den_str hv
      obtain ⟨⟨h0, h1⟩, h⟩ := h
      have hlt : n.toNat < s.length := by omega
      refine ⟨_, .int .u8 (byteAt s n), h, ?_, .d (.int _ _)⟩
      simp [Instr.index, asIntOf, run_underlying hu, strV, h0, get_str, List.getElem?_eq_getElem hlt, byteAt]
    · exact h.elim
  · rename_i size bytes agg zero len e eqk ht
    obtain ⟨info, d, z, hi, hu, _, _, _, _, _, _, _, _, hd⟩ := find_TT hTT ht
    cases hd
    split at h
    · exact h.elim
    · rename_i size' bytes' agg' zero' desc' eqk' hte
      split at h
      · rename_i l k n hx hix
        rw [hx] at hv
        rw [hix] at hw
        cases den_int hw
        cases hv with
        | agg _ vs hl hdn h1' =>
          split at h
          · rename_i k'
            split at h
            · rename_i hlen
              have hlen := beq_of hlen
              rw [lenL_eq] at hlen
              obtain ⟨⟨h0, h1⟩, h⟩ := h
              obtain ⟨xs, rfl, hK⟩ := intsK_spec h
              have hxl : xs.length = len := by simpa using hlen
              have hget := pickI_get xs n h0 (by omega)
              have hvl : n.toNat < vs.length := by rw [← hl]; simp; omega
              have hval := den_int (hdn n.toNat (.d (.int k' (pickI xs n))) _ (by simp [hget]) (List.getElem?_eq_getElem hvl))
              refine ⟨_, .int k' (pickI xs n), hK, ?_, .d (.int _ _)⟩
              obtain ⟨infoe, de, ze, hie, hue, hsze, _, _, hage, _, _, _, _, hde⟩ := find_TT hTT hte
              simp only at hsze
              cases hde
              simp [Instr.index, asIntOf, run_underlying hu, h0, h1, run_sizeOf hie, hsze, part, run_isAgg hue, aggDesc, List.getElem?_eq_getElem hvl, hval]
            · exact h.elim
          · obtain ⟨⟨h0, h1⟩, h⟩ := h
            obtain ⟨r, v, hK, hr, hd'⟩ := part_cells (w := w) (M := M) (β := β) hTT hte l (n.toNat * size') vs hl hdn h1' h
            refine ⟨r, v, hK, ?_, hd'⟩
            obtain ⟨infoe, de, ze, hie, hue, hsze, _⟩ := find_TT hTT hte
            simp only at hsze
            simp [Instr.index, asIntOf, run_underlying hu, h0, h1, run_sizeOf hie, hsze, hr]
      · exact h.elim
  · exact h.elim

theorem boolK_spec {x : DV} {k : Bool → Prop} (h : boolK x k False) : ∃ b, k b ∧ ∀ (w : World) (M : Nat → Prop) (v : Value), Rd w M x v → v = .bool b := by
  unfold boolK at h
  split at h
  · exact ⟨_, h, fun _ _ _ hr => by cases hr; rfl⟩
  · exact ⟨_, h, fun _ _ _ hr => by cases hr; rfl⟩
  · exact ⟨_, h, fun _ _ _ hr => by cases hr; rfl⟩
  · exact h.elim


theorem append_str (a b : List UInt8) : (⟨a.toArray⟩ : ByteArray) ++ ⟨b.toArray⟩ = ⟨(a ++ b).toArray⟩ := by
  have : ((⟨a.toArray⟩ : ByteArray) ++ ⟨b.toArray⟩).data = (a ++ b).toArray := by simp
  exact congrArg ByteArray.mk this
theorem eqIn_slice_nil (d : Nat) (t e : TypeId) (ad : Option Addr) (l c : Nat) (h : P.underlying t = some (.slice e)) : (Op.equalIn (d + 1) t (.slice ad l c) (.slice none 0 0)).run P w = .ok ad.isNone w := by
  cases ad <;> simp [Op.equalIn, run_underlying h]
theorem eq_slice_nil (t e : TypeId) (ad : Option Addr) (l c : Nat) (h : P.underlying t = some (.slice e)) : (Op.equal t (.slice ad l c) (.slice none 0 0)).run P w = .ok ad.isNone w :=
  eqIn_slice_nil 9999 t e ad l c h
theorem eqIn_bool (d : Nat) (t : TypeId) (p q : Bool) (h : P.underlying t = some .bool) : (Op.equalIn (d + 1) t (.bool p) (.bool q)).run P w = .ok (p == q) w := by
  simp [Op.equalIn, run_underlying h]
theorem eq_bool (t : TypeId) (p q : Bool) (h : P.underlying t = some .bool) : (Op.equal t (.bool p) (.bool q)).run P w = .ok (p == q) w :=
  eqIn_bool 9999 t p q h

theorem bin_sound {t : TypeId} {td : TD} {d : TypeDesc} (hu : P.underlying t = some d) (htd : TDok P d td) {op : BinOp} {x y : DV} {u v : Value} (hx : Rd w M x u) (hy : Rd w M y v) (h : bin td op x y K) :
    ∃ r z, K r ∧ (binOp op t u v).run P w = .ok z w ∧ Den w M β r z := by
  unfold bin at h
  split at h
  · rename_i k a k' b
    cases hx
    cases hy
    split at h
    · obtain ⟨h0, h⟩ := h
      exact ⟨_, _, h, by simp [binOp, Op.shift, show ¬ b < 0 from by omega], .d (.int _ _)⟩
    · obtain ⟨h0, h⟩ := h
      exact ⟨_, _, h, by simp [binOp, Op.shift, show ¬ b < 0 from by omega], .d (.int _ _)⟩
    · rename_i op hn1 hn2
      split at h
      · exact h.elim
      · rename_i hk
        cases kEq_eq hk
        split at h
        · exact ⟨_, _, h, by simp [binOp, Op.intArith], .d (.int _ _)⟩
        · exact ⟨_, _, h, by simp [binOp, Op.intArith], .d (.int _ _)⟩
        · exact ⟨_, _, h, by simp [binOp, Op.intArith], .d (.int _ _)⟩
        · obtain ⟨h0, h⟩ := h
          exact ⟨_, _, h, by simp [binOp, Op.intDiv, h0], .d (.int _ _)⟩
        · obtain ⟨h0, h⟩ := h
          exact ⟨_, _, h, by simp [binOp, Op.intDiv, h0], .d (.int _ _)⟩
        · exact ⟨_, _, h, by rw [binOp_and, intBits_and]; rfl, .d (.int _ _)⟩
        · exact ⟨_, _, h, by rw [binOp_or, intBits_or]; rfl, .d (.int _ _)⟩
        · exact ⟨_, _, h, by rw [binOp_xor, intBits_xor]; rfl, .d (.int _ _)⟩
        · exact ⟨_, _, h, by rw [binOp_andNot, intBits_andNot]; rfl, .d (.int _ _)⟩
        · exact ⟨_, _, h, by rw [binOp_eql]; rfl, .d (.bool _)⟩
        · exact ⟨_, _, h, by rw [binOp_neq]; rfl, .d (.bool _)⟩
        · exact ⟨_, _, h, by rw [binOp_lss]; rfl, .d (.bool _)⟩
        · exact ⟨_, _, h, by rw [binOp_leq]; rfl, .d (.bool _)⟩
        · exact ⟨_, _, h, by rw [binOp_gtr]; rfl, .d (.bool _)⟩
        · exact ⟨_, _, h, by rw [binOp_geq]; rfl, .d (.bool _)⟩
        · exact h.elim
  · rename_i a b
    cases hx
    cases hy
    split at h
    · obtain ⟨h0, h⟩ := h
      refine ⟨_, strV (a ++ b), h, ?_, .d (.str _)⟩
      have : ¬ ((((⟨a.toArray⟩ : ByteArray).size + (⟨b.toArray⟩ : ByteArray).size : Nat) : Int) > IntKind.i64.max) := by
        rw [size_str, size_str, IntKind.max_i64]
        omega
      simp only [binOp, strV, Op.stringOp, if_neg this]
      rw [append_str]; rfl
    · exact ⟨_, _, h, by simp [binOp, strV, Op.stringOp, toList_str], .d (.bool _)⟩
    · exact ⟨_, _, h, by simp [binOp, strV, Op.stringOp, toList_str], .d (.bool _)⟩
    · exact ⟨_, _, h, by simp [binOp, strV, Op.stringOp, toList_str], .d (.bool _)⟩
    · exact ⟨_, _, h, by simp [binOp, strV, Op.stringOp, toList_str], .d (.bool _)⟩
    · exact ⟨_, _, h, by simp [binOp, strV, Op.stringOp, toList_str], .d (.bool _)⟩
    · exact ⟨_, _, h, by simp [binOp, strV, Op.stringOp, toList_str], .d (.bool _)⟩
    · exact h.elim
  · rename_i b n sz f f'
    cases hy
    split at h
    · rename_i e
      cases htd
      cases hx
      · exact ⟨_, .bool true, h, by simp [binOp, eq_slice_nil t e none 0 0 hu], .d (.bool _)⟩
      · exact ⟨_, .bool false, h, by simp [binOp, eq_slice_nil t e (some _) _ _ hu], .d (.bool _)⟩
    · rename_i e
      cases htd
      cases hx
      · exact ⟨_, .bool false, h, by simp [binOp, eq_slice_nil t e none 0 0 hu], .d (.bool _)⟩
      · exact ⟨_, .bool true, h, by simp [binOp, eq_slice_nil t e (some _) _ _ hu], .d (.bool _)⟩
    · exact h.elim
  · obtain ⟨p, h, hp⟩ := boolK_spec h
    obtain ⟨q, h, hq⟩ := boolK_spec h
    cases hp w M u hx
    cases hq w M v hy
    split at h
    · cases htd
      exact ⟨_, .bool (p == q), h, by simp [binOp, eq_bool t p q hu], .d (.bool _)⟩
    · cases htd
      exact ⟨_, .bool (!(p == q)), h, by simp [binOp, eq_bool t p q hu], .d (.bool _)⟩
    · exact h.elim

end
end Go.Eng
