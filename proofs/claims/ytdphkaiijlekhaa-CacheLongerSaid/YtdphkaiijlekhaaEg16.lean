/-
  The engine, part 16: `mev` is sound.
-/
import Derived.Test.YtdphkaiijlekhaaEg15
namespace Go.Eng
open Go Go.RowKit

section
variable {P : Program} {TT : Nat → Option TI} {X : Nat → Prop} {w : World} {β : Env} {fp : Nat → Nat → Prop} {ts : List SV} {ks : List KB} {a : Act} {K : SV → List KB → Prop} {o : Oper} {r : Option Nat} {n : Nat} {next : Act → World → Prop} {Q : Exit → Act → World → Prop}

theorem newRowK_eq (ks : List KB) (k : KB) (K : SV → List KB → Prop) : newRowK ks k K = K (.all ks.length) (ks ++ [k]) := by
  simp [newRowK, addBK_eq, lenBK_eq]

theorem mev_store (hTT : TTok P TT) {t : TypeId} {x y : Operand} (ho : o.op = .store t x y) (h : mev TT ts ks (.store t x y) K) (hM : Mem X w β fp ks) (hT : ∀ x, Den w (Mx X fp) β (val ts x) (a.eval x)) (hn : MemNext X w β fp a o K next) : o.wpIn (wideF r) n P a w next Q := by
  have hnd : ∀ c, o.op ≠ .defer c := fun c hc => by rw [ho] at hc; cases hc
  simp only [mev] at h
  split at h
  · exact h.elim
  · rename_i size bytes agg zero desc eqk ht
    rw [valK_eq, valK_eq] at h
    have hv := hT y
    have hp := hT x
    obtain ⟨info, d, z, hi, hu, hsz, hrest⟩ := find_TT hTT ht
    simp only at hsz
    clear hrest
    split at h
    · rename_i i off hx
      rw [hx] at hp
      have ep : ∃ L, β i = some L ∧ a.eval x = .pointer (some ⟨L.b, off, none⟩) := by
        generalize a.eval x = av at hp
        cases hp with
        | ptr _ _ L hL => exact ⟨L, hL, rfl⟩
      obtain ⟨L, hL, ep⟩ := ep
      rw [getBK_eq] at h
      split at h
      · rename_i t' l hg
        have hk := getB_some hg (by simp)
        obtain ⟨h, hcells⟩ := cellsK_spec (w := w) (M := Mx X fp) (β := β) h
        obtain ⟨c1, c2, c3⟩ := hcells _ hv
        split at h
        · rename_i hb1 hb2 hb3
          rw [lenL_eq] at hb1 hb2
          have hb1 := beq_of hb1
          have hb2 := ble_of hb2
          have hpos := ble_of hb3
          rw [putK_eq, setBK_eq] at h
          have hkb := hM.at hk (by simp) hL
          cases hkb with
          | cells _ _ vs hfp hblk hl hd h1 =>
            have c3' : ∀ u ∈ (a.eval y).cells.toList, u.oneCell' = true := fun u hu => c3 u (by simpa using hu)
            obtain ⟨d1, d2⟩ := den_put (w := w) (M := Mx X fp) (β := β) (off := off) (l := l) (cs := vs.toList) (us := (a.eval y).cells.toList) (by simpa using hl) (by simpa using c1) (by omega) (fun j s u hs hu => hd j s u hs (by simpa using hu)) (fun j s u hs hu => c2 j s u hs (by simpa using hu))
            have hW := hM.store (vs' := blockSet vs off (a.eval y).cells.toList) hk hL hfp hblk (by simpa using d1) (fun j s u hs hu => d2 j s u hs (by simpa using hu)) (fun j u hu =>
              blockSet_one (cs := vs.toList) (us := (a.eval y).cells.toList) (off := off) (by simp; omega) (fun u hu => by
                obtain ⟨q, hq, rfl⟩ := List.mem_iff_getElem.1 hu
                exact h1 q _ (by simp)) c3' j u (by simpa using hu))
            refine wpIn_of_skip hnd ?_ (hn _ _ _ _ _ _ h hW (.any _))
            have hrun := run_storeVar (P := P) (w := w) hi L.b off (a.eval y) t' (0, 0) vs hblk (by simp) (by omega) (by omega) c3 (by omega)
            simp [execOp, ho, Instr.storeAt, Instr.sureAddr, ep, hrun]
        · exact h.elim
      · exact h.elim
    · rename_i i off len ix hx
      rw [hx] at hp
      have ep : ∃ L, 0 ≤ ix ∧ ix < len ∧ β i = some L ∧ a.eval x = .pointer (some ⟨L.b, off + ix.toNat, none⟩) := by
        generalize a.eval x = av at hp
        cases hp with
        | aptr _ _ _ _ L h0 h1 hL => exact ⟨L, h0, h1, hL, rfl⟩
      obtain ⟨L, h0, h1, hL, ep⟩ := ep
      split at h
      · rename_i k k' m hy
        rw [hy] at hv
        have ev := den_int hv
        split at h
        · rename_i hkk
          cases kEq_eq hkk
          rw [getBK_eq] at h
          split at h
          · rename_i t' l hg
            have hk := getB_some hg (by simp)
            split at h
            · rename_i hble
              rw [lenL_eq] at hble
              have hble := ble_of hble
              rw [dropK_eq, takeK_eq] at h
              obtain ⟨xs, l', hxs, h, hlen, hget⟩ := putIK_spec h
              rw [putK_eq, setBK_eq] at h
              have hkb := hM.at hk (by simp) hL
              cases hkb with
              | cells _ _ vs hfp hblk hl hd hone =>
                have hl' : l'.length = len := by rw [hlen]; simp; omega
                have hxl : xs.length = len := by
                  have := congrArg List.length hxs
                  simp at this
                  omega
                have hW := hM.store (l' := putCells l off l') (vs' := blockSet vs (off + ix.toNat) [.int k m]) hk hL hfp hblk (by rw [putCells_length, blockSet_size]; exact hl) (fun j s u hs hu => by
                  rw [putCells_get _ _ _ _ (by omega)] at hs
                  rw [blockSet_get _ _ _ _ (by simp; omega)] at hu
                  split at hs
                  · rename_i hj
                    have hq : j - off < xs.length := by omega
                    have hs2 := hget (j - off) _ (List.getElem?_eq_getElem hq)
                    rw [hs2] at hs
                    cases hs
                    split at hu
                    · rename_i hj2
                      simp at hj2 hu
                      have hje : j = off + ix.toNat := by omega
                      subst hje
                      simp at hu
                      subst hu
                      rw [if_pos (by omega)]
                      exact .d (.int _ _)
                    · rename_i hj2
                      simp at hj2
                      rw [if_neg (by omega)]
                      have hsl : l[j]? = some (.d (.int k (xs[j - off]'hq))) := by
                        have h2 : ((l.drop off).take len)[j - off]? = some (.d (.int k (xs[j - off]'hq))) := by rw [hxs]; simp [hq]
                        rw [List.getElem?_take, if_pos (by omega), List.getElem?_drop] at h2
                        rw [show off + (j - off) = j from by omega] at h2
                        exact h2
                      exact hd j _ u hsl hu
                  · rename_i hj
                    rw [if_neg (by simp; omega)] at hu
                    exact hd j s u hs hu) (fun j u hu => by
                  rw [blockSet_get _ _ _ _ (by simp; omega)] at hu
                  split at hu
                  · have := List.mem_of_getElem? hu
                    simp at this
                    subst this
                    rfl
                  · exact hone j u hu)
                refine wpIn_of_skip hnd ?_ (hn _ _ _ _ _ _ h hW (.any _))
                have hrun := run_storeVar (P := P) (w := w) hi L.b (off + ix.toNat) (.int k m) t' (0, 0) vs hblk (by simp) (by simp [Value.cells]; omega) (by omega) (by simp [Value.cells, Value.oneCell']) (by omega)
                simp [execOp, ho, Instr.storeAt, Instr.sureAddr, ep, ev, hrun, Value.cells]
            · exact h.elim
          · exact h.elim
        · exact h.elim
      · exact h.elim
    · rename_i i j off sz hx
      rw [hx] at hp
      have ep : ∃ L, β i = some L ∧ j < L.n ∧ a.eval x = .pointer (some ⟨L.b, j * sz + off, none⟩) := by
        generalize a.eval x = av at hp
        cases hp with
        | rptr _ _ _ _ L hL hj => exact ⟨L, hL, hj, rfl⟩
      obtain ⟨L, hL, hj, ep⟩ := ep
      rw [getBK_eq] at h
      split at h
      · rename_i e sz' m z' f hg
        have hk := getB_some hg (by simp)
        split at h
        · rename_i hb
          cases beq_of hb
          obtain ⟨h, hcells⟩ := cellsK_spec (w := w) (M := Mx X fp) (β := β) h
          obtain ⟨c1, c2, c3⟩ := hcells _ hv
          split at h
          · rename_i hb1 hb2 hb3
            rw [lenL_eq] at hb1
            have hb1 := beq_of hb1
            have hb2 := ble_of hb2
            have hpos := ble_of hb3
            obtain ⟨ds, fr, h, e1, e2, e3⟩ := dvsK_spec hM.toMem0 _ _ (a.eval y).cells.toList h (by simpa using c1) (fun j s u hs hu => c2 j s u hs (by simpa using hu))
            split at h
            · rename_i hmem
              have hnot := notMem hmem
              rw [goneK_eq, setBK_eq] at h
              have hW := hM.gone fr
              have hk1 : (goneL fr ks)[i]? = some (.row e sz m z' f) := by rw [goneL_other _ _ _ hnot]; exact hk
              have hkb := hW.mem.at hk1 (by simp) hL
              cases hkb with
              | rowNil _ _ _ _ _ _ _ hLn => rw [hLn] at hj; omega
              | row _ _ _ _ _ vs fz hfp hnil hLs hLn hzz hblk hfz hvs hng hfl hr hone =>
                have hjm : j < m := hLn ▸ hj
                have hjc : (j + 1) * sz ≤ vs.size := by rw [hvs]; exact Nat.mul_le_mul_right _ (by omega)
                rw [Nat.add_mul, Nat.one_mul] at hjc
                have c3' : ∀ u ∈ (a.eval y).cells.toList, u.oneCell' = true := fun u hu => c3 u (by simpa using hu)
                have hsl : (a.eval y).cells.toList.length = size := by simp; omega
                have hdl : ds.length = size := by omega
                have hin : j * sz + off + (a.eval y).cells.toList.length ≤ vs.size := by omega
                have hst : Step (Mx X (fpGone fr fp)) w (World.setBlock w L.b (.cells (blockSet vs (j * sz + off) (a.eval y).cells.toList) e fz)) := Step.setBlock w (.inr ⟨i, (hfp _).2 rfl⟩) _
                have hW2 := hW.mem.set (.row e sz m z' (oneF j off ds f)) (.cells (blockSet vs (j * sz + off) (a.eval y).cells.toList) e fz) (by rw [goneL_length]; exact (List.getElem?_eq_some_iff.1 hk).1) hL hfp
                  (.row e sz m z' _ _ fz hfp hnil hLs hLn hzz (setBlock_same _ _ _ (lt_of_block hblk)) (by rw [blockSet_size]; exact hfz) (by rw [blockSet_size]; exact hvs) hng (fun t ht => by
                    unfold oneF
                    split
                    · rw [putD_length]; exact hfl t ht
                    · exact hfl t ht) (fun t q d u ht hd hu => by
                    rw [blockSet_get _ _ _ _ hin] at hu
                    unfold oneF at hd
                    split at hd
                    · rename_i htj
                      subst htj
                      have hq : q < sz := by have := (List.getElem?_eq_some_iff.1 hd).1; rw [putD_length, hfl _ ht] at this; exact this
                      rw [putD_get _ _ _ _ (by rw [hfl _ ht]; omega)] at hd
                      split at hd
                      · rename_i hqr
                        rw [if_pos (by omega), show t * sz + q - (t * sz + off) = q - off from by omega] at hu
                        exact (e3 fr (fun _ hi => hi) _ d u hd hu).mono hst (fun _ _ e => e)
                      · rename_i hqr
                        rw [if_neg (by omega)] at hu
                        exact (hr t q d u ht hd hu).mono hst (fun _ _ e => e)
                    · rename_i htj
                      have hq : q < sz := by have := (List.getElem?_eq_some_iff.1 hd).1; rw [hfl _ ht] at this; exact this
                      rw [if_neg (by
                        rintro ⟨a1, a2⟩
                        apply htj
                        rcases Nat.lt_trichotomy t j with hlt | heq | hgt
                        · have : (t + 1) * sz ≤ j * sz := Nat.mul_le_mul_right _ hlt
                          rw [Nat.add_mul, Nat.one_mul] at this
                          omega
                        · exact heq
                        · have : (j + 1) * sz ≤ t * sz := Nat.mul_le_mul_right _ hgt
                          rw [Nat.add_mul, Nat.one_mul] at this
                          omega)] at hu
                      exact (hr t q d u ht hd hu).mono hst (fun _ _ e => e)) (fun q u hu => by
                    rw [blockSet_get _ _ _ _ hin] at hu
                    split at hu
                    · exact c3' u (List.mem_of_getElem? hu)
                    · exact hone q u hu))
                refine wpIn_of_skip hnd ?_ (hn _ _ _ _ _ _ h (hW.trans hW2) (.any _))
                have hrun := run_storeVar (P := P) (w := w) hi L.b (j * sz + off) (a.eval y) e fz vs hblk hfz (by simp at hsl; omega) (by simp at hsl; omega) c3 (by omega)
                simp [execOp, ho, Instr.storeAt, Instr.sureAddr, ep, hrun]
            · exact h.elim
          · exact h.elim
        · exact h.elim
      · exact h.elim
    · rename_i i n off hx
      rw [hx] at hp
      have ep : ∃ m L, n = m + 1 ∧ β i = some L ∧ a.eval x = .pointer (some ⟨m, off, none⟩) := by
        generalize a.eval x = av at hp
        cases hp with
        | ap _ m _ L hL => exact ⟨m, L, rfl, hL, rfl⟩
      obtain ⟨m, L, rfl, hL, ep⟩ := ep
      rw [getBK_eq] at h
      split at h
      · rename_i t' dom cols hg
        have hk := getB_some hg (by simp)
        obtain ⟨h, hcells⟩ := cellsK_spec (w := w) (M := Mx X fp) (β := β) h
        obtain ⟨c1, c2, c3⟩ := hcells _ hv
        split at h
        · rename_i hb1 hb2 hb3
          rw [lenL_eq] at hb1
          rw [lenC_eq] at hb2
          have hb1 := beq_of hb1
          have hb2 := ble_of hb2
          have hpos := ble_of hb3
          obtain ⟨hdom, h⟩ := h
          obtain ⟨cols', h, g1, g2⟩ := putCK_spec h
          rw [setBK_eq] at h
          have hkb := hM.at hk (by simp) hL
          cases hkb with
          | arena _ _ _ hfp h0 hall =>
            obtain ⟨vs, hblk, hl, hd, h1⟩ := hall m hdom
            have c3' : ∀ u ∈ (a.eval y).cells.toList, u.oneCell' = true := fun u hu => c3 u (by simpa using hu)
            have hin : off + (a.eval y).cells.toList.length ≤ vs.size := by rw [hl]; simp; omega
            have hW := hM.setArena (n := m) hk hL hdom cols' (blockSet vs off (a.eval y).cells.toList) (by rw [blockSet_size, hl, g1]) (fun j c u hc hu => by
                have hj : j < cols.length := by rw [← g1]; exact (List.getElem?_eq_some_iff.1 hc).1
                obtain ⟨c', e1, e2, e3⟩ := g2 j _ (List.getElem?_eq_getElem hj)
                rw [hc] at e1
                cases e1
                rw [blockSet_get _ _ _ _ hin] at hu
                rcases e3 with ⟨f1, f2, v, fv, f3⟩ | ⟨f1, f2⟩
                · rw [if_pos ⟨f1, by simp; omega⟩] at hu
                  exact f3 _ _ _ _ (c2 _ v u fv (by simpa using hu))
                · rw [if_neg (by simp; omega)] at hu
                  rw [f2]
                  exact hd j _ u (List.getElem?_eq_getElem hj) hu) (fun j u hu =>
              blockSet_one (cs := vs.toList) (us := (a.eval y).cells.toList) (off := off) (by simpa using hin) (fun u hu => by
                obtain ⟨q, hq, rfl⟩ := List.mem_iff_getElem.1 hu
                exact h1 q _ (by simp)) c3' j u (by simpa using hu)) g1 (fun j c c' q hc hc' hq w M u hu => by
                obtain ⟨c2, e1, e2, _⟩ := g2 j c hc
                rw [hc'] at e1
                cases e1
                rw [e2 q hq]
                exact hu)
            refine wpIn_of_skip hnd ?_ (hn _ _ _ _ _ _ h hW (.any _))
            have hrun := run_storeVar (P := P) (w := w) hi m off (a.eval y) t' (0, 0) vs hblk (by simp) (by omega) (by omega) c3 (by omega)
            simp [execOp, ho, Instr.storeAt, Instr.sureAddr, ep, hrun]
        · exact h.elim
      · exact h.elim
    · exact h.elim

theorem rangeMod_get {z : Array Value} {n m : Nat} {u : Value} (h : ((Array.range n).map (z[· % z.size]!))[m]? = some u) (hz : 0 < z.size) : m < n ∧ z[m % z.size]? = some u := by
  rw [Array.getElem?_map] at h
  cases hr : (Array.range n)[m]? with
  | none => rw [hr] at h; cases h
  | some q =>
    rw [hr] at h
    simp only [Option.map_some] at h
    have hm : m < n := by have := (Array.getElem?_eq_some_iff.1 hr).1; simpa using this
    have hq : q = m := by
      have := (Array.getElem?_eq_some_iff.1 hr).2
      simpa using this.symm
    subst hq
    have hl := Nat.mod_lt q hz
    rw [getElem!_pos z (q % z.size) hl] at h
    exact ⟨hm, by rw [Array.getElem?_eq_getElem hl]; exact h⟩

theorem mev_append (hTT : TTok P TT) {args : Array Operand} {argTypes : Array TypeId} (ho : o.op = .call ⟨.builtin .append, args, argTypes⟩) (h : mev TT ts ks (.call ⟨.builtin .append, args, argTypes⟩) K) (hM : Mem X w β fp ks) (hT : ∀ x, Den w (Mx X fp) β (val ts x) (a.eval x)) (hn : MemNext X w β fp a o K next) : o.wpIn (wideF r) n P a w next Q := by
  have hnd : ∀ c, o.op ≠ .defer c := fun c hc => by rw [ho] at hc; cases hc
  obtain ⟨args⟩ := args
  obtain ⟨argTypes⟩ := argTypes
  simp only [mev] at h
  split at h
  · rename_i s x st xt
    split at h
    · rename_i _ _ _ _ e _ ht
      split at h
      · rename_i size bytes _ _ _ _ hte
        split at h
        · rename_i hbs
          rw [Bool.and_eq_true, Bool.and_eq_true] at hbs
          have hpos : 0 < size := ble_of hbs.1
          have hbp : 0 < bytes := ble_of hbs.2.1
          have htx := isSeq_spec hTT hbs.2.2
          obtain ⟨info0, d0, z0', hi0, hu0, _, _, _, _, _, _, _, _, hd0⟩ := find_TT hTT ht
          cases hd0
          obtain ⟨info, de, z0, hi, hue, hsz, hby, hz0, _, hzl, hzs, _, hz1, _⟩ := find_TT hTT hte
          simp only at hsz hby hzl hzs
          have hzs' : z0.cells.size = size := by omega
          rw [valK_eq] at h
          obtain ⟨k, g, fr, us, h, hfr, hsrc⟩ := srcK_spec hM.toMem0 hpos h (hT x) htx
          have hS := hsrc fr (fun _ hi => hi)
          have hk63 : ∀ n, (n + k) * bytes ≤ 70368744177664 → n + k ≤ 9223372036854775807 := fun n hb => by
            have : (n + k) * 1 ≤ (n + k) * bytes := Nat.mul_le_mul_left _ (by omega)
            omega
          rw [valK_eq] at h
          have hv := hT s
          have fin : ∀ (ks' : List KB) (i : Nat) (v : Value) (w' : World) (β' : Env) (fp' : Nat → Nat → Prop), (Builtin.append_ #[st, xt] o.type #[a.eval s, a.eval x]).run P w = .ok v w' → Went X w β fp w' β' fp' ks' → Den w' (Mx X fp') β' (.all i) v → K (.all i) ks' → o.wpIn (wideF r) n P a w next Q := fun ks' i v w' β' fp' hrun hW hd hK => by
            refine wpIn_of_run hnd ?_ (hn _ _ _ _ _ _ hK hW hd)
            simp [execOp, ho, resolve, invoke, builtin, hrun]
          have hW0 := hM.gone fr
          split at h
          · rename_i sz' f' hx
            rw [hx] at hv
            have ev : a.eval s = .slice none 0 0 := by
              generalize a.eval s = av at hv
              cases den_data hv; rfl
            obtain ⟨hb, h⟩ := h
            rw [goneK_eq, newRowK_eq] at h
            obtain ⟨v, w', β', fp', r1, r2, r3⟩ := append_nil (P := P) (st := st) (xt := xt) (ty := o.type) hW0.mem hu0 hi hz0 hsz hzs' hz1 hpos hS (by rw [hby]; exact hb) (by have := hk63 0 (by simpa using hb); omega) .iff (by simp) (fun _ => [])
            refine fin _ _ v w' β' fp' (by rw [ev]; exact r1) (hW0.trans r2) r3 ?_
            have : catF 0 (fun _ => []) g = g := by funext t; simp [catF]
            rw [this, Nat.zero_add]
            exact h
          · rename_i i hx
            rw [hx] at hv
            rw [getBK_eq] at h
            split at h
            · rename_i e' sz m z f hg
              have hki := getB_some hg (by simp)
              split at h
              · rename_i he hs' hmem
                cases beq_of he
                cases beq_of hs'
                have hnot := notMem hmem
                obtain ⟨hb, h⟩ := h
                rw [goneK_eq, setBK_eq, newRowK_eq] at h
                simp only [List.length_set] at h
                have hk1 : (goneL fr ks)[i]? = some (.row e size m z f) := by rw [goneL_other _ _ _ hnot]; exact hki
                have hcase : (∃ L, β i = some L ∧ L.nil = true ∧ a.eval s = .slice none 0 0) ∨ (∃ L, β i = some L ∧ L.nil = false ∧ a.eval s = .slice (some ⟨L.b, 0, none⟩) L.n L.c) := by
                  generalize a.eval s = av at hv
                  cases hv with
                  | allNil _ L hL hnil => exact .inl ⟨L, hL, hnil, rfl⟩
                  | all _ L hL hnil => exact .inr ⟨L, hL, hnil, rfl⟩
                rcases hcase with ⟨L, hL, hnil, ev⟩ | ⟨L, hL, hnil, ev⟩
                · have hkb := hW0.mem.at hk1 (by simp) hL
                  cases hkb with
                  | row _ _ _ _ _ vs fz hfp hnil' => rw [hnil] at hnil'; cases hnil'
                  | rowNil _ _ _ _ _ _ _ _ hz =>
                    have hW1 := hW0.mem.gone [i]
                    have hks : goneL [i] (goneL fr ks) = (goneL fr ks).set i .gone := by simp [goneL, setB_eq]
                    rw [hks] at hW1
                    obtain ⟨v, w', β', fp', r1, r2, r3⟩ := append_nil (P := P) (st := st) (xt := xt) (ty := o.type) hW1.mem hu0 hi hz0 hsz hzs' hz1 hpos (hS.less (hW0.mem.goneM [i])) (by rw [hby]; simpa using hb) (by have := hk63 0 (by simpa using hb); omega) z hz f
                    simp only [List.length_set] at r3
                    exact fin _ _ v w' β' fp' (by rw [ev]; exact r1) ((hW0.trans hW1).trans r2) r3 h
                · have hkb := hW0.mem.at hk1 (by simp) hL
                  cases hkb with
                  | rowNil _ _ _ _ _ hnil' => rw [hnil] at hnil'; cases hnil'
                  | row _ _ _ _ _ vs fz hfp _ hLs hLn hzz hblk hfz hvs hng hfl hr hone =>
                    obtain ⟨v, w', β', fp', r1, r2, r3⟩ := append_row (P := P) (st := st) (xt := xt) (ty := o.type) hW0.mem hu0 hi hz0 hsz hzs' hz1 hk1 hL hnil (Nat.le_refl m) hS (by rw [hby]; exact hb) (hk63 m hb) z (fun e => by have := hzz e; omega)
                    exact fin _ _ v w' β' fp' (by rw [ev, hLn]; exact r1) (hW0.trans r2) r3 h
              · exact h.elim
            · exact h.elim
          · rename_i i m' hx
            rw [hx] at hv
            rw [getBK_eq] at h
            split at h
            · rename_i e' sz m z f hg
              have hki := getB_some hg (by simp)
              split at h
              · rename_i he hs' hmem
                cases beq_of he
                cases beq_of hs'
                have hnot := notMem hmem
                obtain ⟨⟨hle, hb⟩, h⟩ := h
                rw [goneK_eq, setBK_eq, newRowK_eq] at h
                simp only [List.length_set] at h
                have hk1 : (goneL fr ks)[i]? = some (.row e size m z f) := by rw [goneL_other _ _ _ hnot]; exact hki
                have hcase : (∃ L, β i = some L ∧ L.nil = true ∧ m' = 0 ∧ a.eval s = .slice none 0 0) ∨ (∃ L, β i = some L ∧ L.nil = false ∧ m' ≤ L.c ∧ a.eval s = .slice (some ⟨L.b, 0, none⟩) m' L.c) := by
                  generalize a.eval s = av at hv
                  cases hv with
                  | rowNil _ L hL hnil => exact .inl ⟨L, hL, hnil, rfl, rfl⟩
                  | row _ _ _ off L hL hnil hc ho' => exact .inr ⟨L, hL, hnil, by omega, by rw [ho' (.inr rfl), Nat.zero_mul]; simp⟩
                rcases hcase with ⟨L, hL, hnil, hm0, ev⟩ | ⟨L, hL, hnil, hmc, ev⟩
                · subst hm0
                  have hkb := hW0.mem.at hk1 (by simp) hL
                  cases hkb with
                  | row _ _ _ _ _ vs fz hfp hnil' => rw [hnil] at hnil'; cases hnil'
                  | rowNil _ _ _ _ _ _ _ _ hz =>
                    have hW1 := hW0.mem.gone [i]
                    have hks : goneL [i] (goneL fr ks) = (goneL fr ks).set i .gone := by simp [goneL, setB_eq]
                    rw [hks] at hW1
                    obtain ⟨v, w', β', fp', r1, r2, r3⟩ := append_nil (P := P) (st := st) (xt := xt) (ty := o.type) hW1.mem hu0 hi hz0 hsz hzs' hz1 hpos (hS.less (hW0.mem.goneM [i])) (by rw [hby]; simpa using hb) (by have := hk63 0 (by simpa using hb); omega) z.cut (by cases z <;> simp [Z.cut] at hz ⊢) f
                    simp only [List.length_set] at r3
                    exact fin _ _ v w' β' fp' (by rw [ev]; exact r1) ((hW0.trans hW1).trans r2) r3 h
                · have hkb := hW0.mem.at hk1 (by simp) hL
                  cases hkb with
                  | rowNil _ _ _ _ _ hnil' => rw [hnil] at hnil'; cases hnil'
                  | row _ _ _ _ _ vs fz hfp _ hLs hLn hzz hblk hfz hvs hng hfl hr hone =>
                    obtain ⟨v, w', β', fp', r1, r2, r3⟩ := append_row (P := P) (st := st) (xt := xt) (ty := o.type) hW0.mem hu0 hi hz0 hsz hzs' hz1 hk1 hL hnil hle hS (by rw [hby]; exact hb) (hk63 m' hb) z.cut (by cases z <;> simp [Z.cut])
                    exact fin _ _ v w' β' fp' (by rw [ev]; exact r1) (hW0.trans r2) r3 h
              · exact h.elim
            · exact h.elim
          · rename_i i m' c' hx
            rw [hx] at hv
            rw [getBK_eq] at h
            split at h
            · rename_i e' l hg
              have hki := getB_some hg (by simp)
              split at h
              · rename_i he hnc hll hmem
                cases beq_of he
                cases beq_of hnc
                rw [lenL_eq] at hll
                have hll := beq_of hll
                have hnot := notMem hmem
                obtain ⟨hb, h⟩ := h
                have hcase : ∃ L, β i = some L ∧ a.eval s = .slice (some ⟨L.b, 0, none⟩) m' m' := by
                  generalize a.eval s = av at hv
                  cases hv with
                  | cs _ _ _ _ L hL hnc => exact ⟨L, hL, rfl⟩
                obtain ⟨L, hL, ev⟩ := hcase
                have hkb := hM.at hki (by simp) hL
                cases hkb with
                | cells _ _ vs hfp hblk hl hd hone =>
                  obtain ⟨ds, fr2, h, e1, e2, e3⟩ := dvsK_spec hM.toMem0 _ _ vs.toList h (by simpa using hl) (fun j s u hs hu => hd j s u hs (by simpa using hu))
                  split at h
                  · rename_i hmem2
                    have hnot2 := notMem hmem2
                    rw [goneK_eq, goneK_eq, setBK_eq, newRowK_eq] at h
                    simp only [List.length_set] at h
                    have hW1 := hW0.mem.gone fr2
                    have hk1 : (goneL fr2 (goneL fr ks))[i]? = some (.cells e l) := by rw [goneL_other _ _ _ hnot2, goneL_other _ _ _ hnot]; exact hki
                    have hsub : ∀ b, Mx X (fpGone fr2 (fpGone fr fp)) b → Mx X (fpGone (fr ++ fr2) fp) b := fun b hm => hm.imp id (fun ⟨j, hj, hj', hb⟩ => ⟨j, by simp [hj, hj'], hb⟩)
                    obtain ⟨v, w', β', fp', r1, r2, r3⟩ := append_cs (P := P) (st := st) (xt := xt) (ty := o.type) hW1.mem hu0 hi hz0 hsz hzs' hz1 hk1 hL hpos hll e1 (fun vs' hb' j d u hdd hu => by
                      rw [hblk] at hb'
                      cases hb'
                      exact rd_less (e3 (fr ++ fr2) (fun i hi => by simp [hi]) j d u hdd (by simpa using hu)) hsub) (hS.less (hW0.mem.goneM fr2)) (by rw [hby]; exact hb) (hk63 m' hb)
                    exact fin _ _ v w' β' fp' (by rw [ev]; exact r1) ((hW0.trans hW1).trans r2) r3 h
                  · exact h.elim
              · exact h.elim
            · exact h.elim
          · exact h.elim
        · exact h.elim
      · exact h.elim
    · exact h.elim
  · exact h.elim

end
end Go.Eng
