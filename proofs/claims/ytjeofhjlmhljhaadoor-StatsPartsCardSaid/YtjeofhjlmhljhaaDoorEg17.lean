/-
  The engine, part 17: all operations that change what is known; calls by contract.
-/
import Derived.Lib.ConvBytes
import Derived.Test.YtjeofhjlmhljhaaDoorEg16
namespace Go.Eng
open Go Go.RowKit

section
variable {P : Program} {TT : Nat → Option TI} {X : Nat → Prop} {w : World} {β : Env} {fp : Nat → Nat → Prop} {ts : List SV} {ks : List KB} {a : Act} {K : SV → List KB → Prop} {o : Oper} {r : Option Nat} {n : Nat} {next : Act → World → Prop} {Q : Exit → Act → World → Prop}

theorem mev_buildSlice (hTT : TTok P TT) {t : TypeId} {len : Nat} {parts : Array (Nat × Operand)} (ho : o.op = .buildSlice t len parts) (h : mev TT ts ks (.buildSlice t len parts) K) (hM : Mem X w β fp ks) (hT : ∀ x, Den w (Mx X fp) β (val ts x) (a.eval x)) (hn : MemNext X w β fp a o K next) : o.wpIn (wideF r) n P a w next Q := by
  have hnd : ∀ c, o.op ≠ .defer c := fun c hc => by rw [ho] at hc; cases hc
  simp only [mev] at h
  split at h
  · rename_i _ _ _ _ e _ ht
    split at h
    · rename_i size bytes agg zero desc eqk hte
      split at h
      · rename_i hble
        have hble := ble_of hble
        obtain ⟨info0, d0, z0', hi0, hu0, _, _, _, _, _, _, _, _, hd0⟩ := find_TT hTT ht
        cases hd0
        obtain ⟨info, de, z0, hi, hue, hsz, hby, hz0, _, hzl, hzs, hzd, hz1, _⟩ := find_TT hTT hte
        simp only at hsz hzl hzs hzd
        rw [repK_eq] at h
        have hlen0 : ((List.replicate len zero).flatten).length = len * size := by simp [hzs]
        have hbase : ((Array.range (len * info.size)).map (z0.cells[· % z0.cells.size]!)).toList.length = len * size := by simp [hsz]
        have hzpos : ∀ m, m < len * size → 0 < z0.cells.size := fun m hm => by
          rcases Nat.eq_zero_or_pos z0.cells.size with e0 | e0
          · rw [hzl, hzs] at e0; rw [e0] at hm; omega
          · exact e0
        obtain ⟨cs', vs', h, hfill, r1, r2, r3⟩ := fillS_spec (a := a) hT parts.toList _ _ ((Array.range (len * info.size)).map (z0.cells[· % z0.cells.size]!)).toList h (by rw [hlen0, hbase]) (fun j s u hs hu => by
            obtain ⟨a1, a2⟩ := rep_get zero len j s hs
            have hu' : ((Array.range (len * info.size)).map (z0.cells[· % z0.cells.size]!))[j]? = some u := by rw [← Array.getElem?_toList]; exact hu
            obtain ⟨b1, b2⟩ := rangeMod_get hu' (hzpos j (by rw [hzs] at a2; exact a2))
            rw [hzl] at b2
            exact hzd w _ β _ s u a1 b2) (fun u hu => by
            obtain ⟨j, hj, rfl⟩ := List.mem_iff_getElem.1 hu
            have hu' := List.getElem?_eq_getElem hj
            rw [Array.getElem?_toList] at hu'
            rw [hbase] at hj
            obtain ⟨b1, b2⟩ := rangeMod_get hu' (hzpos j hj)
            exact hz1 _ _ b2)
        rw [addBK_eq, lenBK_eq, Nat.zero_add] at h
        have hW := hM.newCells e cs' vs'.toArray (by simpa using r1) (fun j s u hs hu => r2 j s u hs (by simpa using hu)) (fun j u hu => r3 u (List.mem_of_getElem? (by simpa using hu)))
        refine wpIn_of_run hnd ?_ (hn _ _ (.slice (some ⟨w.heap.size, 0, none⟩) len len) _ _ _ h hW (.cs _ 0 len len (locB w.heap.size) (upd_same _ _ _) (Nat.le_refl _)))
        have hrun : (Instr.buildSlice t len (parts.map fun (i, x) => (i, a.eval x))).run P w = .ok (.slice (some ⟨w.heap.size, 0, none⟩) len len) (w.alloc (.cells vs'.toArray e)) := by
          have hp : (parts.map fun (i, x) => (i, a.eval x)).toList = parts.toList.map fun p => (p.1, a.eval p.2) := by simp
          have hfill' : Instr.fill (fun i => some (i * info.size, info.size)) ((Array.range (len * info.size)).map (z0.cells[· % z0.cells.size]!)) (parts.map fun (i, x) => (i, a.eval x)).toList = some vs'.toArray := by
            rw [hp, hsz]
            rw [hsz, Array.toArray_toList] at hfill
            exact hfill
          have h24 : ¬ (len * info.size > 2 ^ 24) := by rw [hsz]; omega
          by_cases hz : len * info.size = 0
          · rw [hz, Array.range_zero', Array.map_empty] at hfill'
            simp only [Instr.buildSlice, Sem.run_bind, run_underlying hu0, Result.andThen_ok, run_sizeOf hi, hz]
            have hfill2 : Instr.fill (fun i => some (i * info.size, info.size)) #[] (List.map (fun x => (x.1, a.eval x.2)) parts.toList) = some vs'.toArray := by rw [← hp]; exact hfill'
            simp [newRow, Array.range_zero', hfill2]
          · exact run_buildSlice w t e len _ _ info z0 hu0 hi hz0 h24 hz hfill'
        simp [execOp, ho, hrun]
      · exact h.elim
    · exact h.elim
  · exact h.elim

theorem mev_makeSlice (hTT : TTok P TT) {t : TypeId} {x y : Operand} (ho : o.op = .makeSlice t x y) (h : mev TT ts ks (.makeSlice t x y) K) (hM : Mem X w β fp ks) (hT : ∀ x, Den w (Mx X fp) β (val ts x) (a.eval x)) (hn : MemNext X w β fp a o K next) : o.wpIn (wideF r) n P a w next Q := by
  have hnd : ∀ c, o.op ≠ .defer c := fun c hc => by rw [ho] at hc; cases hc
  simp only [mev] at h
  split at h
  · rename_i _ _ _ _ e _ ht
    split at h
    · rename_i size bytes agg zero desc eqk hte
      obtain ⟨info0, d0, z0', hi0, hu0, _, _, _, _, _, _, _, _, hd0⟩ := find_TT hTT ht
      cases hd0
      obtain ⟨info, de, z0, hi, hue, hsz, hby, hz0, _, hzl, hzs, hzd, hz1, _⟩ := find_TT hTT hte
      simp only at hsz hzl hzs hzd hby
      rw [valK_eq, valK_eq] at h
      have hx := hT x
      have hy := hT y
      split at h
      · rename_i k l k' c ex ey
        rw [ex] at hx; rw [ey] at hy
        have e1 := den_int hx
        have e2 := den_int hy
        have hE : Mem (Mx X fp) w noE (fun _ _ => False) [] := ⟨⟨hM.mlt, fun _ _ h => h.elim, fun _ _ _ h => h.elim, fun _ _ h => h.elim, fun _ _ h => h.elim, fun i L k hk => by simp at hk⟩, fun _ _ => rfl⟩
        obtain ⟨ds, fr, h, f1, f2, f3⟩ := dvsK_spec hE.toMem0 _ _ z0.cells.toList h (by simpa using hzl.symm) (fun j s u hs hu => hzd w _ noE j s u hs (by simpa using hu))
        obtain ⟨⟨h0, h1, h2, h3⟩, h⟩ := h
        rw [newRowK_eq] at h
        have hsize : ds.length = size := by rw [f1, hzs]
        have hgetm : ∀ (kk q : Nat) (u : Value), q < size → (madeCells z0.cells (c.toNat * info.size))[kk * size + q]? = some u → z0.cells[q]? = some u := fun kk q u hq hu => by
          obtain ⟨_, b2⟩ := rangeMod_get hu (by omega)
          rw [hzl, hzs, Nat.mul_comm, Nat.mul_add_mod, Nat.mod_eq_of_lt hq] at b2
          exact b2
        obtain ⟨hW, hden⟩ := hM.newRow e size l.toNat c.toNat .no (fun _ => ds) (madeCells z0.cells (c.toNat * info.size)) (0, 0) (by simp) (fun e => by cases e) (by rw [size_madeCells, hsz]) (by omega) (fun _ _ => hsize) (fun kk q d u _ hd hu => by
            have hq : q < size := by have := (List.getElem?_eq_some_iff.1 hd).1; omega
            have hu' := hgetm kk q u hq hu
            have := f3 fr (fun _ h => h) q d u hd (by simpa using hu')
            exact rd_less this (fun b hb => .inl hb)) (fun j u hu => by
            have hj : j < c.toNat * info.size := by have := (Array.getElem?_eq_some_iff.1 hu).1; rw [size_madeCells] at this; exact this
            have hp : 0 < z0.cells.size := by
              rcases Nat.eq_zero_or_pos z0.cells.size with e0 | e0
              · rw [hzl, hzs, ← hsz] at e0; rw [e0] at hj; omega
              · exact e0
            obtain ⟨_, b2⟩ := rangeMod_get hu hp
            exact hz1 _ _ b2)
        refine wpIn_of_run hnd ?_ (hn _ _ _ _ _ _ h hW hden)
        have hrun := run_make (P := P) w t e info z0 hu0 hi hz0 k k' l c h0 h1 (by rw [hby, Int.mul_comm]; exact h2) h3
        simp [execOp, ho, e1, e2, hrun]
      · exact h.elim
    · exact h.elim
  · exact h.elim

theorem bytesWorld_eq (w : World) (e : TypeId) (s : ByteArray) : Lib.bytesWorld w e s = w.drew.alloc (.cells (Lib.bytesCells w e s) e ((Lib.bytesCells w e s).size, (Lib.bytesCells w e s).size + 1)) := by
  have hh : (Lib.bytesWorld w e s).heap = (w.drew.alloc (.cells (Lib.bytesCells w e s) e ((Lib.bytesCells w e s).size, (Lib.bytesCells w e s).size + 1))).heap := by
    apply Array.ext_getElem?
    intro i
    rcases Nat.lt_trichotomy i w.heap.size with h | h | h
    · rw [Lib.bytesWorld_at_old w e s i h]
      exact (Below.heap_alloc w.drew _ i h).symm
    · subst h
      rw [Lib.bytesWorld_at_new]
      show _ = (w.heap.push _)[w.heap.size]?
      simp
    · rw [Array.getElem?_eq_none (by rw [Lib.bytesWorld_size]; omega)]
      show _ = (w.heap.push _)[i]?
      rw [Array.getElem?_eq_none (by simp; omega)]
  have h2 : ∀ w' : World, (Lib.bytesWorld w e s).heap = w'.heap → w'.tape = w.tape → w'.drawn = w.drew.drawn → w'.os = w.os → w'.output = w.output → Lib.bytesWorld w e s = w' := by
    intro w' a b c d f
    have g1 : (Lib.bytesWorld w e s).tape = w.tape := by simp [Lib.bytesWorld, World.freeze, World.alloc, World.drew, -World.alloc_eq, -World.drew_eq]
    have g2 : (Lib.bytesWorld w e s).drawn = w.drew.drawn := by simp [Lib.bytesWorld, World.freeze, World.alloc, World.drew, -World.alloc_eq, -World.drew_eq]
    have g3 : (Lib.bytesWorld w e s).os = w.os := by simp [Lib.bytesWorld, World.freeze, World.alloc, World.drew, -World.alloc_eq, -World.drew_eq]
    have g4 : (Lib.bytesWorld w e s).output = w.output := by simp [Lib.bytesWorld, World.freeze, World.alloc, World.drew, -World.alloc_eq, -World.drew_eq]
    generalize Lib.bytesWorld w e s = w1 at *
    obtain ⟨h1, t1, d1, o1, u1⟩ := w1
    obtain ⟨h2, t2, d2, o2, u2⟩ := w'
    simp only at a b c d f g1 g2 g3 g4
    subst a
    simp [b, c, d, f, g1, g2, g3, g4]
  exact h2 _ hh rfl rfl rfl rfl

theorem mev_convert (hTT : TTok P TT) {src dst : TypeId} {x : Operand} (ho : o.op = .convert src dst x) (h : mev TT ts ks (.convert src dst x) K) (hM : Mem X w β fp ks) (hT : ∀ x, Den w (Mx X fp) β (val ts x) (a.eval x)) (hn : MemNext X w β fp a o K next) : o.wpIn (wideF r) n P a w next Q := by
  have hnd : ∀ c, o.op ≠ .defer c := fun c hc => by rw [ho] at hc; cases hc
  simp only [mev] at h
  split at h
  · rename_i _ _ tis _ _ _ _ e _ hts ht
    obtain ⟨_, us, _, _, hsrc, _⟩ := find_TT hTT hts
    split at h
    · rename_i _ _ _ _ _ hte
      obtain ⟨info0, d0, z0', hi0, hu0, _, _, _, _, _, _, _, _, hd0⟩ := find_TT hTT ht
      cases hd0
      obtain ⟨info1, d1, z1', hi1, hu1, _, _, _, _, _, _, _, _, hd1⟩ := find_TT hTT hte
      cases hd1
      rw [valK_eq] at h
      have hx := hT x
      split at h
      · rename_i s ex
        rw [ex] at hx
        have ev := den_str hx
        rw [newRowK_eq] at h
        have hrun := Lib.run_convert_string_bytes (P := P) w src dst e ⟨s.toArray⟩ hsrc hu0 hu1
        rw [bytesWorld_eq, size_str] at hrun
        have hge := grown_ge w s.length 0 e
        have hC : (Lib.bytesCells w e ⟨s.toArray⟩).size = grownCap w s.length 0 e := by
          unfold Lib.bytesCells
          rw [size_str]
          simp
          omega
        have hW := hM.drew
        have hget : ∀ j u, j < s.length → (Lib.bytesCells w e ⟨s.toArray⟩)[j]? = some u → ∃ b, s[j]? = some b ∧ u = .int .u8 b.toNat := fun j u hj hu => by
          unfold Lib.bytesCells at hu
          rw [Array.getElem?_append_left (by simpa using hj)] at hu
          simp at hu
          obtain ⟨b, h1, h2⟩ := hu
          exact ⟨b, h1, h2.symm⟩
        obtain ⟨hW2, hden⟩ := hW.mem.newRow e 1 s.length (grownCap w s.length 0 e) .no (fun j => [.int .u8 (byteAt s j)]) (Lib.bytesCells w e ⟨s.toArray⟩) ((Lib.bytesCells w e ⟨s.toArray⟩).size, (Lib.bytesCells w e ⟨s.toArray⟩).size + 1) (fun o ho => by omega) (fun e => by cases e) (by rw [hC, Nat.mul_one]) hge (fun _ _ => rfl) (fun k q d u hk hd hu => by
            cases q with
            | zero =>
              simp at hd
              subst hd
              obtain ⟨b, hb, rfl⟩ := hget k u hk (by simpa using hu)
              have : byteAt s (k : Int) = b.toNat := by unfold byteAt; simp [hb]
              rw [this]
              exact .int _ _
            | succ q => simp at hd) (fun j u hu => by
            unfold Lib.bytesCells at hu
            rw [Array.getElem?_append] at hu
            split at hu
            · simp at hu
              obtain ⟨b, _, rfl⟩ := hu
              rfl
            · have := Array.mem_of_getElem? hu
              simp at this
              rw [this.2]
              rfl)
        refine wpIn_of_run hnd ?_ (hn _ _ _ _ _ _ h (hW.trans hW2) hden)
        simp only [execOp, ho, ev, strV, Sem.run_bind, hrun, Result.andThen_ok, Sem.run_pure]
        rfl
      · exact h.elim
    · exact h.elim
  · exact h.elim

theorem mev_sound (hTT : TTok P TT) (h : mev TT ts ks o.op K) (hM : Mem X w β fp ks) (hT : ∀ x, Den w (Mx X fp) β (val ts x) (a.eval x)) (hn : MemNext X w β fp a o K next) : o.wpIn (wideF r) n P a w next Q := by
  have hnd : ∀ c, o.op ≠ .defer c := fun c hc => by rw [hc] at h; exact h
  cases ho : o.op with
  | alloc t =>
    rw [ho] at h
    simp only [mev] at h
    split at h
    · exact h.elim
    · rename_i size bytes agg zero desc eqk ht
      rw [addBK_eq, lenBK_eq, Nat.zero_add] at h
      obtain ⟨info, d, z, hi, hu, hsz, _, hz, hag, hzl, hzs, hzd, hz1, _⟩ := find_TT hTT ht
      have hW := hM.newCells t zero z.cells hzl.symm (fun j s u a b => hzd _ _ _ j s u a b) hz1
      refine wpIn_of_run hnd ?_ (hn _ _ (.pointer (some ⟨w.heap.size, 0, none⟩)) _ _ _ h hW (.ptr _ 0 (locB w.heap.size) (upd_same _ _ _)))
      simp [execOp, ho, Instr.alloc, run_zeroValue hi hz, newVar, newRow]
  | box t x =>
    rw [ho] at h
    simp only [mev] at h
    split at h
    · exact h.elim
    · rename_i size bytes agg zero desc eqk ht
      rw [valK_eq] at h
      obtain ⟨h, hcells⟩ := cellsK_spec (w := w) (M := Mx X fp) (β := β) h
      obtain ⟨c1, c2, c3⟩ := hcells _ (hT x)
      split at h
      · rw [addBK_eq, lenBK_eq, Nat.zero_add] at h
        have hW := hM.newCells t (cellsOf (val ts x)) (a.eval x).cells c1 c2 (fun j u hu => c3 u (Array.mem_of_getElem? hu))
        refine wpIn_of_run hnd ?_ (hn _ _ (.pointer (some ⟨w.heap.size, 0, none⟩)) _ _ _ h hW (.ptr _ 0 (locB w.heap.size) (upd_same _ _ _)))
        simp [execOp, ho, Instr.box, newVar, newRow]
      · exact h.elim
  | store t x y => rw [ho] at h; exact mev_store hTT ho h hM hT hn
  | buildSlice t l ps => rw [ho] at h; exact mev_buildSlice hTT ho h hM hT hn
  | makeSlice t x y => rw [ho] at h; exact mev_makeSlice hTT ho h hM hT hn
  | convert s d x => rw [ho] at h; exact mev_convert hTT ho h hM hT hn
  | call c =>
    obtain ⟨callee, args, argTypes⟩ := c
    rw [ho] at h
    cases callee with
    | builtin b => cases b <;> first | exact mev_append hTT ho h hM hT hn | exact h.elim
    | value g => exact h.elim
    | invoke r m => exact h.elim
  | _ => rw [ho] at h; exact h.elim

end
end Go.Eng
