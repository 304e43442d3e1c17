/-
  The engine, part 6: the other operations that change nothing that is known.
-/
import Derived.Test.YtdphkaiijlekhaaEg5
import Derived.Lib.Strings
namespace Go.Eng
open Go Go.RowKit

section
variable {P : Program} {TT : Nat → Option TI} {ts : List SV} {ks : List KB} {w : World} {M : Nat → Prop} {β : Env} {a : Act} {K : SV → Prop} {o : Oper}

theorem add_lit0 (b off n : Nat) : (⟨b, off, none⟩ : Addr).add n = ⟨b, off + n, none⟩ := by unfold Addr.add; split <;> simp_all

theorem getF_eq (l : List (Nat × TypeId)) (n : Nat) : getF l n = l[n]? := by
  induction l generalizing n with
  | nil => rfl
  | cons a l ih => cases n with
    | zero => rfl
    | succ n => simp [getF, ih]

theorem pev_move (hT : ∀ x, Den w M β (val ts x) (a.eval x)) {x : Operand} (ho : o.op = .move x ∨ o.op = .assign x) (h : K (val ts x)) : Ran P o a w M β K := by
  refine ⟨_, a.eval x, h, ?_, hT x⟩
  rcases ho with ho | ho <;> simp [execOp, ho]

theorem pev_pick (hT : ∀ x, Den w M β (val ts x) (a.eval x)) {c x y : Operand} (ho : o.op = .pick c x y) (h : pev P TT ts ks (.pick c x y) K) : Ran P o a w M β K := by
  unfold Ran
  simp only [execOp, ho]
  simp only [pev, valK_eq] at h
  have hc := hT c
  generalize a.eval c = cv at hc ⊢
  split at h
  · rename_i hx; rw [hx] at hc; cases hc with | d hc => cases hc; exact ⟨_, _, h, by simp [asBool], hT x⟩
  · rename_i hx; rw [hx] at hc; cases hc with | d hc => cases hc; exact ⟨_, _, h, by simp [asBool], hT y⟩
  · rename_i q hx; rw [hx] at hc; cases hc with | d hc =>
      cases hc
      cases q
      · exact ⟨_, _, h.2 rfl, by simp [asBool], hT y⟩
      · exact ⟨_, _, h.1 rfl, by simp [asBool], hT x⟩
  · exact h.elim

theorem run_fieldAt {t : TypeId} {fields : Array Field} {f : Field} {fi : TypeInfo} {j : Nat} (hu : P.underlying t = some (.struct fields)) (hf : fields[j]? = some f) (hi : P.info? f.type = some fi) (hz : fi.size ≠ 0) (ad : Addr) :
    (Instr.fieldAt t (.pointer (some ad)) j).run P w = .ok (.pointer (some (ad.add f.offset))) w := by
  simp [Instr.fieldAt, run_underlying hu, hf, Instr.sureAddr, fieldPlace, run_sizeOf hi, hz]

theorem pev_fieldAddr (hTT : TTok P TT) (hT : ∀ x, Den w M β (val ts x) (a.eval x)) {t : TypeId} {x : Operand} {f : Nat} (ho : o.op = .fieldAddr t x f) (h : pev P TT ts ks (.fieldAddr t x f) K) : Ran P o a w M β K := by
  unfold Ran
  simp only [execOp, ho]
  simp only [pev, valK_eq] at h
  split at h
  · rename_i size bytes agg zero fs eqk ht
    split at h
    · rename_i off ft hf
      rw [getF_eq] at hf
      obtain ⟨info, d, z, hi, hu, _, _, _, _, _, _, _, _, fields, rfl, hsz, hfs⟩ := find_TT hTT ht
      obtain ⟨fd, fi, hfd, hoff, hty, hfi, hz⟩ := hfs f off ft hf
      have hv := hT x
      generalize a.eval x = av at hv ⊢
      have hrun := fun ad => run_fieldAt (w := w) hu hfd (by rw [hty]; exact hfi) hz ad
      split at h
      · rename_i i o' hx; rw [hx] at hv; cases hv with
        | ptr _ _ b hbi => exact ⟨_, .pointer (some ((⟨b.b, o', none⟩ : Addr).add fd.offset)), h, by simp [hrun], by rw [add_lit0, hoff]; exact .ptr i (o' + off) b hbi⟩
      · rename_i c o' hx; rw [hx] at hv; cases hv with
        | dptr _ _ ad u h1 h2 h3 h4 => exact ⟨_, .pointer (some ((ad.add o').add fd.offset)), h, by simp [hrun], by rw [add_add, hoff]; exact .dptr c (o' + off) ad u h1 h2 h3 h4⟩
      · rename_i i j o' sz hx; rw [hx] at hv; cases hv with
        | rptr _ _ _ _ b hbi hjL => exact ⟨_, .pointer (some ((⟨b.b, j * sz + o', none⟩ : Addr).add fd.offset)), h, by simp [hrun], by rw [add_lit0, hoff, Nat.add_assoc]; exact .rptr i j (o' + off) sz b hbi hjL⟩
      · rename_i i n o' hx; rw [hx] at hv; cases hv with
        | ap _ n _ L hL => exact ⟨_, .pointer (some ((⟨n, o', none⟩ : Addr).add fd.offset)), h, by simp [hrun], by rw [add_lit0, hoff]; exact .ap i n (o' + off) L hL⟩
      · exact h.elim
    · exact h.elim
  · exact h.elim

theorem pev_field (hTT : TTok P TT) (hT : ∀ x, Den w M β (val ts x) (a.eval x)) {t : TypeId} {x : Operand} {f : Nat} (ho : o.op = .field t x f) (h : pev P TT ts ks (.field t x f) K) : Ran P o a w M β K := by
  unfold Ran
  simp only [execOp, ho]
  simp only [pev, valK_eq] at h
  split at h
  · rename_i size bytes agg zero fs eqk ht
    split at h
    · rename_i off ft hf
      rw [getF_eq] at hf
      obtain ⟨info, d, z, hi, hu, _, _, _, _, _, _, _, _, fields, rfl, hsz, hfs⟩ := find_TT hTT ht
      obtain ⟨fd, fi, hfd, hoff, hty, hfi, hz⟩ := hfs f off ft hf
      split at h
      · rename_i size' bytes' agg' zero' desc' eqk' htf
        have hv := hT x
        generalize a.eval x = av at hv ⊢
        split at h
        · rename_i l hx; rw [hx] at hv; cases hv with
          | agg _ vs hl hd h1 =>
            obtain ⟨r, v, hK, hr, hd'⟩ := part_cells (w := w) (M := M) (β := β) hTT htf l off vs hl hd h1 h
            refine ⟨r, v, hK, ?_, hd'⟩
            simp [Instr.field, run_underlying hu, hfd, asAgg, hty, hoff, hr]
        · exact h.elim
      · exact h.elim
    · exact h.elim
  · exact h.elim

theorem pev_indexAddr (hTT : TTok P TT) (hT : ∀ x, Den w M β (val ts x) (a.eval x)) (hB : ∀ (i : Nat) (L : Loc) (k : KB), ks[i]? = some k → k ≠ .gone → β i = some L → ∃ fp, KBat w M β L fp k) {t : TypeId} {x ix : Operand} (ho : o.op = .indexAddr t x ix) (h : pev P TT ts ks (.indexAddr t x ix) K) : Ran P o a w M β K := by
  unfold Ran
  simp only [execOp, ho]
  simp only [pev, valK_eq] at h
  have hv := hT x
  generalize a.eval x = av at hv ⊢
  have hw := hT ix
  generalize a.eval ix = iv at hw ⊢
  split at h
  · rename_i size bytes agg zero e eqk ht
    obtain ⟨info, d, z, hi, hu, _, _, _, _, _, _, _, _, hd⟩ := find_TT hTT ht
    cases hd
    split at h
    · exact h.elim
    · rename_i size' bytes' agg' zero' desc' eqk' hte
      obtain ⟨infoe, de, ze, hie, hue, hsze, _⟩ := find_TT hTT hte
      simp only at hsze
      split at h
      · rename_i k n hix
        rw [hix] at hw
        cases den_int hw
        split at h
        · rename_i nil m sz f hx; rw [hx] at hv
          split at h
          · rename_i hsz
            cases beq_of hsz
            obtain ⟨⟨h0, h1⟩, h⟩ := h
            cases hv with
            | d hv =>
              cases hv with
              | nil => exfalso; omega
              | sl _ _ _ ad cap u hcap hblk hlen hcell hrd =>
                obtain ⟨hb, hnm⟩ := hblk (by omega)
                refine ⟨_, .pointer (some (ad.add (n.toNat * size'))), h, ?_, ?_⟩
                · simp [Instr.indexAt, asIntOf, run_underlying hu, h0, h1, run_sizeOf hie, hsze]
                · have := Den.dptr (w := w) (M := M) (β := β) (f n.toNat) 0 (ad.add (n.toNat * size')) (u n.toNat) (by rw [block_add]; exact hb) (by rw [block_add]; exact hnm)
                    (fun j d hj => by rw [add_add]; exact hcell _ _ _ (by omega) hj) (fun j d hj => hrd _ _ _ (by omega) hj)
                  rw [add_add] at this
                  simpa using this
          · exact h.elim
        · rename_i b hx; rw [hx] at hv
          rw [getBK_eq] at h
          split at h
          · rename_i e' sz m z f hg
            split at h
            · rename_i hsz
              cases beq_of hsz
              obtain ⟨⟨h0, h1⟩, h⟩ := h
              cases hv with
              | allNil _ L hbi hnil =>
                obtain ⟨fp', hk⟩ := blk_at hB hbi (getB_some hg (by simp)) (by simp)
                cases hk with
                | rowNil => exfalso; omega
                | row _ _ _ _ _ vs fz hfp hnil' => rw [hnil] at hnil'; cases hnil'
              | all _ L hbi hnil =>
                obtain ⟨fp', hk⟩ := blk_at hB hbi (getB_some hg (by simp)) (by simp)
                cases hk with
                | rowNil _ _ _ _ _ hnil' => rw [hnil] at hnil'; cases hnil'
                | row _ _ _ _ _ vs fz hfp _ hLs hLn =>
                  refine ⟨_, .pointer (some ⟨L.b, n.toNat * size' + 0, none⟩), h, ?_, .rptr b n.toNat 0 size' L hbi (by omega)⟩
                  simp [Instr.indexAt, asIntOf, run_underlying hu, h0, hLn, h1, run_sizeOf hie, hsze, add_lit0]
            · exact h.elim
          · exact h.elim
        · rename_i b lo m hx; rw [hx] at hv
          rw [getBK_eq] at h
          split at h
          · rename_i e' sz q z f hg
            split at h
            · rename_i hsz
              cases beq_of hsz
              obtain ⟨⟨h0, h1, h2⟩, h⟩ := h
              cases hv with
              | rowNil _ L hbi hnil => exfalso; omega
              | row _ _ _ off L hbi hnil hc ho' =>
                obtain ⟨fp', hk⟩ := blk_at hB hbi (getB_some hg (by simp)) (by simp)
                cases hk with
                | rowNil _ _ _ _ _ hnil' => rw [hnil] at hnil'; cases hnil'
                | row _ _ _ _ _ vs fz hfp _ hLs hLn =>
                  have hoff : off = lo * L.sz := ho' (.inl (by omega))
                  refine ⟨_, .pointer (some ⟨L.b, (lo + n.toNat) * size' + 0, none⟩), h, ?_, .rptr b (lo + n.toNat) 0 size' L hbi (by omega)⟩
                  simp [Instr.indexAt, asIntOf, run_underlying hu, h0, h1, run_sizeOf hie, hsze, add_lit0, hoff, hLs, Nat.add_mul]
            · exact h.elim
          · exact h.elim
        · rename_i b off m c hx; rw [hx] at hv
          cases hv with
          | cs _ _ _ _ L hbi hnc =>
          split at h
          · split at h
            · obtain ⟨⟨h0, h1⟩, h⟩ := h
              refine ⟨_, .pointer (some ⟨L.b, off + n.toNat, none⟩), h, ?_, .aptr b off m n L h0 h1 hbi⟩
              simp [Instr.indexAt, asIntOf, run_underlying hu, h0, h1, run_sizeOf hie, hsze, add_lit0]
            · exact h.elim
          · obtain ⟨⟨h0, h1⟩, h⟩ := h
            refine ⟨_, .pointer (some ⟨L.b, off + n.toNat * size', none⟩), h, ?_, .ptr b _ L hbi⟩
            simp [Instr.indexAt, asIntOf, run_underlying hu, h0, h1, run_sizeOf hie, hsze, add_lit0]
        · exact h.elim
      · exact h.elim
  · rename_i size bytes agg zero len e eqk ht
    obtain ⟨info, d, z, hi, hu, _, _, _, _, _, _, _, _, hd⟩ := find_TT hTT ht
    cases hd
    split at h
    · exact h.elim
    · rename_i hlen
      have hlen := ble_of hlen
      split at h
      · exact h.elim
      · rename_i size' bytes' agg' zero' desc' eqk' hte
        obtain ⟨infoe, de, ze, hie, hue, hsze, _⟩ := find_TT hTT hte
        simp only at hsze
        split at h
        · rename_i k n hix
          rw [hix] at hw
          cases den_int hw
          split at h
          · rename_i b off hx; rw [hx] at hv; cases hv with
            | ptr _ _ bb hbi =>
            split at h
            · split at h
              · obtain ⟨⟨h0, h1⟩, h⟩ := h
                refine ⟨_, .pointer (some ⟨bb.b, off + n.toNat, none⟩), h, ?_, .aptr b off len n bb h0 h1 hbi⟩
                simp [Instr.indexAt, asIntOf, run_underlying hu, h0, h1, run_sizeOf hie, hsze, add_lit0, Instr.sureAddr]
              · exact h.elim
            · obtain ⟨⟨h0, h1⟩, h⟩ := h
              refine ⟨_, .pointer (some ⟨bb.b, off + n.toNat * size', none⟩), h, ?_, .ptr b _ bb hbi⟩
              simp [Instr.indexAt, asIntOf, run_underlying hu, h0, h1, run_sizeOf hie, hsze, add_lit0, Instr.sureAddr]
          · exact h.elim
        · exact h.elim
  · exact h.elim

theorem get_str (s : List UInt8) (i : Nat) : (⟨s.toArray⟩ : ByteArray)[i]? = s[i]? := by
  rcases Nat.lt_or_ge i s.length with h | h
  · rw [List.getElem?_eq_getElem h]
    have : i < (⟨s.toArray⟩ : ByteArray).size := by simpa [ByteArray.size] using h
    rw [getElem?_pos (⟨s.toArray⟩ : ByteArray) i this]
    rfl
  · rw [List.getElem?_eq_none h]
    have : ¬ i < (⟨s.toArray⟩ : ByteArray).size := by simpa [ByteArray.size] using h
    rw [getElem?_neg (⟨s.toArray⟩ : ByteArray) i this]
theorem size_str (s : List UInt8) : (⟨s.toArray⟩ : ByteArray).size = s.length := by simp [ByteArray.size]
theorem toList_str (s : List UInt8) : (⟨s.toArray⟩ : ByteArray).toList = s := by
  rw [Lib.toList_data]

theorem den_str {s : List UInt8} {v : Value} (h : Den w M β (.d (.str s)) v) : v = strV s := by
  cases h with
  | d h => cases h; rfl

end
end Go.Eng
