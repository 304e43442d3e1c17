/-
  The engine, part 21: blocks made out of turn; operations that look at the same slots.
-/
import Derived.Test.YtdphkaiijlekhaaEg20
namespace Go.Eng
open Go Go.RowKit

section
variable {P : Program} {TT : Nat → Option TI} {X : Nat → Prop} {w : World} {β : Env} {M : Nat → Prop} {ts : List SV} {ks : List KB} {a : Act} {K : SV → List KB → Prop} {o : Oper}

/-- What an operation that makes one block comes to, wherever the block's number may be put. -/
def Fresh (P : Program) (w : World) (M : Nat → Prop) (β : Env) (ks : List KB) (a : Act) (o : Oper) (K : SV → List KB → Prop) : Prop :=
  ∃ (ob : Obj) (L : Loc) (k : KB) (s0 : SV) (v : Value) (w1 : World), K s0 (ks ++ [k]) ∧ (execOp a.eval o).run P w = .ok (.value v) (w1.alloc ob) ∧ Step (fun _ => False) w w1 ∧ w1.heap.size = w.heap.size ∧ L.b = w.heap.size ∧
    (∀ (M' : Nat → Prop) (β' : Env), (∀ b, b < w.heap.size → M' b → M b) → Ext β β' → KBat (w1.alloc ob) M' β' L (· = w.heap.size) k) ∧ ∀ (w' : World) (M' : Nat → Prop) (β' : Env), β' ks.length = some L → Den w' M' β' s0 v

theorem fresh_cells {w1 : World} (h1 : Step (fun _ => False) w w1) (hsz : w1.heap.size = w.heap.size) (t : TypeId) (l : List SV) (vs : Array Value) (hl : l.length = vs.size) (hd : ∀ (j : Nat) (s : SV) (u : Value), l[j]? = some s → vs[j]? = some u → Den w M β s u) (ho : ∀ (j : Nat) (u : Value), vs[j]? = some u → u.oneCell' = true) :
    ∀ (M' : Nat → Prop) (β' : Env), (∀ b, b < w.heap.size → M' b → M b) → Ext β β' → KBat (w1.alloc (.cells vs t)) M' β' (locB w.heap.size) (· = w.heap.size) (.cells t l) := fun M' β' hM hE =>
  .cells t l vs (fun x => Iff.rfl) (by show (w1.heap.push _)[w.heap.size]? = _; rw [← hsz]; simp) hl (fun j s u a b => (hd j s u a b).mono ((h1.mono (fun _ _ e => e.elim)).trans (Step.alloc _ w1 _)) hM hE) ho
theorem fresh_row {w1 : World} (h1 : Step (fun _ => False) w w1) (hsz : w1.heap.size = w.heap.size) (e : TypeId) (sz n c : Nat) (z : Z) (f : Nat → List DV) (vs : Array Value) (fz : Nat × Nat) (hfz : ∀ o, o < vs.size → ¬ (fz.1 ≤ o ∧ o < fz.2)) (hz : z = .iff → 0 < n) (hs : vs.size = c * sz) (hn : n ≤ c) (hfl : ∀ k, k < n → (f k).length = sz)
    (hr : ∀ (k j : Nat) (d : DV) (u : Value), k < n → (f k)[j]? = some d → vs[k * sz + j]? = some u → Rd w M d u) (ho : ∀ (j : Nat) (u : Value), vs[j]? = some u → u.oneCell' = true) :
    ∀ (M' : Nat → Prop) (β' : Env), (∀ b, b < w.heap.size → M' b → M b) → Ext β β' → KBat (w1.alloc (.cells vs e fz)) M' β' ⟨w.heap.size, n, c, sz, false⟩ (· = w.heap.size) (.row e sz n z f) := fun M' β' hM hE =>
  .row e sz n z f vs fz (fun x => Iff.rfl) rfl rfl rfl hz (by show (w1.heap.push _)[w.heap.size]? = _; rw [← hsz]; simp) hfz hs hn hfl (fun k j d u a b c => (hr k j d u a b c).mono ((h1.mono (fun _ _ e => e.elim)).trans (Step.alloc _ w1 _)) hM) ho

theorem fresh_buildSlice (hTT : TTok P TT) {t : TypeId} {len : Nat} {parts : Array (Nat × Operand)} (ho : o.op = .buildSlice t len parts) (h : mev TT ts ks (.buildSlice t len parts) K) (hM : ∀ b, M b → b < w.heap.size) (hT : ∀ x, Den w M β (val ts x) (a.eval x)) : Fresh P w M β ks a o K := by
  simp only [mev] at h
  split at h
  · rename_i _ _ _ _ e _ ht
    split at h
    · rename_i size bytes agg zero desc eqk hte
      split at h
      · rename_i hble
        have hble := ble_of hble
        obtain ⟨info0, d0, z0', hi0, hu0, _, _, _, _, _, _, _, _, hd0⟩ := find_TT hTT ht
        cases hd0
        obtain ⟨info, de, z0, hi, hue, hsz, hby, hz0, _, hzl, hzs, hzd, hz1, _⟩ := find_TT hTT hte
        simp only at hsz hzl hzs hzd
        rw [repK_eq] at h
        have hlen0 : ((List.replicate len zero).flatten).length = len * size := by simp [hzs]
        have hbase : ((Array.range (len * info.size)).map (z0.cells[· % z0.cells.size]!)).toList.length = len * size := by simp [hsz]
        have hzpos : ∀ m, m < len * size → 0 < z0.cells.size := fun m hm => by
          rcases Nat.eq_zero_or_pos z0.cells.size with e0 | e0
          · rw [hzl, hzs] at e0; rw [e0] at hm; omega
          · exact e0
        obtain ⟨cs', vs', h, hfill, r1, r2, r3⟩ := fillS_spec (a := a) hT parts.toList _ _ ((Array.range (len * info.size)).map (z0.cells[· % z0.cells.size]!)).toList h (by rw [hlen0, hbase]) (fun j s u hs hu => by
            obtain ⟨a1, a2⟩ := rep_get zero len j s hs
            have hu' : ((Array.range (len * info.size)).map (z0.cells[· % z0.cells.size]!))[j]? = some u := by rw [← Array.getElem?_toList]; exact hu
            obtain ⟨b1, b2⟩ := rangeMod_get hu' (hzpos j (by rw [hzs] at a2; exact a2))
            rw [hzl] at b2
            exact hzd w _ β _ s u a1 b2) (fun u hu => by
            obtain ⟨j, hj, rfl⟩ := List.mem_iff_getElem.1 hu
            have hu' := List.getElem?_eq_getElem hj
            rw [Array.getElem?_toList] at hu'
            rw [hbase] at hj
            obtain ⟨b1, b2⟩ := rangeMod_get hu' (hzpos j hj)
            exact hz1 _ _ b2)
        rw [addBK_eq, lenBK_eq, Nat.zero_add] at h
        refine ⟨.cells vs'.toArray e, locB w.heap.size, _, _, .slice (some ⟨w.heap.size, 0, none⟩) len len, w, h, ?_, Step.refl _ _, rfl, rfl, fresh_cells (Step.refl _ _) rfl e cs' vs'.toArray (by simpa using r1) (fun j s u hs hu => r2 j s u hs (by simpa using hu)) (fun j u hu => r3 u (List.mem_of_getElem? (by simpa using hu))), fun _ _ β' hL => .cs _ 0 len len (locB w.heap.size) hL (Nat.le_refl _)⟩
        have hrun : (Instr.buildSlice t len (parts.map fun (i, x) => (i, a.eval x))).run P w = .ok (.slice (some ⟨w.heap.size, 0, none⟩) len len) (w.alloc (.cells vs'.toArray e)) := by
          have hp : (parts.map fun (i, x) => (i, a.eval x)).toList = parts.toList.map fun p => (p.1, a.eval p.2) := by simp
          have hfill' : Instr.fill (fun i => some (i * info.size, info.size)) ((Array.range (len * info.size)).map (z0.cells[· % z0.cells.size]!)) (parts.map fun (i, x) => (i, a.eval x)).toList = some vs'.toArray := by
            rw [hp, hsz]
            rw [hsz, Array.toArray_toList] at hfill
            exact hfill
          have h24 : ¬ (len * info.size > 2 ^ 24) := by rw [hsz]; omega
          by_cases hz : len * info.size = 0
          · rw [hz, Array.range_zero', Array.map_empty] at hfill'
            simp only [Instr.buildSlice, Sem.run_bind, run_underlying hu0, Result.andThen_ok, run_sizeOf hi, hz]
            have hfill2 : Instr.fill (fun i => some (i * info.size, info.size)) #[] (List.map (fun x => (x.1, a.eval x.2)) parts.toList) = some vs'.toArray := by rw [← hp]; exact hfill'
            simp [newRow, Array.range_zero', hfill2]
          · exact run_buildSlice w t e len _ _ info z0 hu0 hi hz0 h24 hz hfill'
        simp [execOp, ho, hrun]
      · exact h.elim
    · exact h.elim
  · exact h.elim

theorem fresh_makeSlice (hTT : TTok P TT) {t : TypeId} {x y : Operand} (ho : o.op = .makeSlice t x y) (h : mev TT ts ks (.makeSlice t x y) K) (hM : ∀ b, M b → b < w.heap.size) (hT : ∀ x, Den w M β (val ts x) (a.eval x)) : Fresh P w M β ks a o K := by
  simp only [mev] at h
  split at h
  · rename_i _ _ _ _ e _ ht
    split at h
    · rename_i size bytes agg zero desc eqk hte
      obtain ⟨info0, d0, z0', hi0, hu0, _, _, _, _, _, _, _, _, hd0⟩ := find_TT hTT ht
      cases hd0
      obtain ⟨info, de, z0, hi, hue, hsz, hby, hz0, _, hzl, hzs, hzd, hz1, _⟩ := find_TT hTT hte
      simp only at hsz hzl hzs hzd hby
      rw [valK_eq, valK_eq] at h
      have hx := hT x
      have hy := hT y
      split at h
      · rename_i k l k' c ex ey
        rw [ex] at hx; rw [ey] at hy
        have e1 := den_int hx
        have e2 := den_int hy
        have hE : Mem M w noE (fun _ _ => False) [] := ⟨⟨hM, fun _ _ h => h.elim, fun _ _ _ h => h.elim, fun _ _ h => h.elim, fun _ _ h => h.elim, fun i L k hk => by simp at hk⟩, fun _ _ => rfl, fun i t dom cols hi => by simp at hi⟩
        obtain ⟨ds, fr, h, f1, f2, f3⟩ := dvsK_spec hE.toMem0 _ _ z0.cells.toList h (by simpa using hzl.symm) (fun j s u hs hu => hzd w _ noE j s u hs (by simpa using hu))
        obtain ⟨⟨h0, h1, h2, h3⟩, h⟩ := h
        rw [newRowK_eq] at h
        have hsize : ds.length = size := by rw [f1, hzs]
        have hgetm : ∀ (kk q : Nat) (u : Value), q < size → (madeCells z0.cells (c.toNat * info.size))[kk * size + q]? = some u → z0.cells[q]? = some u := fun kk q u hq hu => by
          obtain ⟨_, b2⟩ := rangeMod_get hu (by omega)
          rw [hzl, hzs, Nat.mul_comm, Nat.mul_add_mod, Nat.mod_eq_of_lt hq] at b2
          exact b2
        have hkb := fresh_row (M := M) (β := β) (Step.refl _ w) rfl e size l.toNat c.toNat .no (fun _ => ds) (madeCells z0.cells (c.toNat * info.size)) (0, 0) (by simp) (fun e => by cases e) (by rw [size_madeCells, hsz]) (by omega) (fun _ _ => hsize) (fun kk q d u _ hd hu => by
            have hq : q < size := by have := (List.getElem?_eq_some_iff.1 hd).1; omega
            have hu' := hgetm kk q u hq hu
            have := f3 fr (fun _ h => h) q d u hd (by simpa using hu')
            exact rd_less this (fun b hb => .inl hb)) (fun j u hu => by
            have hj : j < c.toNat * info.size := by have := (Array.getElem?_eq_some_iff.1 hu).1; rw [size_madeCells] at this; exact this
            have hp : 0 < z0.cells.size := by
              rcases Nat.eq_zero_or_pos z0.cells.size with e0 | e0
              · rw [hzl, hzs, ← hsz] at e0; rw [e0] at hj; omega
              · exact e0
            obtain ⟨_, b2⟩ := rangeMod_get hu hp
            exact hz1 _ _ b2)
        refine ⟨_, _, _, _, _, w, h, ?_, Step.refl _ _, rfl, rfl, hkb, fun _ _ β' hL => .all _ _ hL rfl⟩
        have hrun := run_make (P := P) w t e info z0 hu0 hi hz0 k k' l c h0 h1 (by rw [hby, Int.mul_comm]; exact h2) h3
        simp [execOp, ho, e1, e2, hrun]
      · exact h.elim
    · exact h.elim
  · exact h.elim

theorem fresh_convert (hTT : TTok P TT) {src dst : TypeId} {x : Operand} (ho : o.op = .convert src dst x) (h : mev TT ts ks (.convert src dst x) K) (hM : ∀ b, M b → b < w.heap.size) (hT : ∀ x, Den w M β (val ts x) (a.eval x)) : Fresh P w M β ks a o K := by
  simp only [mev] at h
  split at h
  · rename_i _ _ tis _ _ _ _ e _ hts ht
    obtain ⟨_, us, _, _, hsrc, _⟩ := find_TT hTT hts
    split at h
    · rename_i _ _ _ _ _ hte
      obtain ⟨info0, d0, z0', hi0, hu0, _, _, _, _, _, _, _, _, hd0⟩ := find_TT hTT ht
      cases hd0
      obtain ⟨info1, d1, z1', hi1, hu1, _, _, _, _, _, _, _, _, hd1⟩ := find_TT hTT hte
      cases hd1
      rw [valK_eq] at h
      have hx := hT x
      split at h
      · rename_i s ex
        rw [ex] at hx
        have ev := den_str hx
        rw [newRowK_eq] at h
        have hrun := Lib.run_convert_string_bytes (P := P) w src dst e ⟨s.toArray⟩ hsrc hu0 hu1
        rw [bytesWorld_eq, size_str] at hrun
        have hge := grown_ge w s.length 0 e
        have hC : (Lib.bytesCells w e ⟨s.toArray⟩).size = grownCap w s.length 0 e := by
          unfold Lib.bytesCells
          rw [size_str]
          simp
          omega
        have hget : ∀ j u, j < s.length → (Lib.bytesCells w e ⟨s.toArray⟩)[j]? = some u → ∃ b, s[j]? = some b ∧ u = .int .u8 b.toNat := fun j u hj hu => by
          unfold Lib.bytesCells at hu
          rw [Array.getElem?_append_left (by simpa using hj)] at hu
          simp at hu
          obtain ⟨b, h1, h2⟩ := hu
          exact ⟨b, h1, h2.symm⟩
        have hkb := fresh_row (M := M) (β := β) (w := w) (w1 := w.drew) (Step.drew _ w) rfl e 1 s.length (grownCap w s.length 0 e) .no (fun j => [.int .u8 (byteAt s j)]) (Lib.bytesCells w e ⟨s.toArray⟩) ((Lib.bytesCells w e ⟨s.toArray⟩).size, (Lib.bytesCells w e ⟨s.toArray⟩).size + 1) (fun o ho => by omega) (fun e => by cases e) (by rw [hC, Nat.mul_one]) hge (fun _ _ => rfl) (fun k q d u hk hd hu => by
            cases q with
            | zero =>
              simp at hd
              subst hd
              obtain ⟨b, hb, rfl⟩ := hget k u hk (by simpa using hu)
              have : byteAt s (k : Int) = b.toNat := by unfold byteAt; simp [hb]
              rw [this]
              exact .int _ _
            | succ q => simp at hd) (fun j u hu => by
            unfold Lib.bytesCells at hu
            rw [Array.getElem?_append] at hu
            split at hu
            · simp at hu
              obtain ⟨b, _, rfl⟩ := hu
              rfl
            · have := Array.mem_of_getElem? hu
              simp at this
              rw [this.2]
              rfl)
        refine ⟨_, _, _, _, _, w.drew, h, ?_, Step.drew _ w, rfl, rfl, hkb, fun _ _ β' hL => .all _ _ hL rfl⟩
        simp only [execOp, ho, ev, strV, Sem.run_bind, hrun, Result.andThen_ok, Sem.run_pure]
      · exact h.elim
    · exact h.elim
  · exact h.elim


theorem fresh_ok (hTT : TTok P TT) (hf : isFresh o.op = true) (h : mev TT ts ks o.op K) (hM : ∀ b, M b → b < w.heap.size) (hT : ∀ x, Den w M β (val ts x) (a.eval x)) : Fresh P w M β ks a o K := by
  cases ho : o.op with
  | alloc t =>
    rw [ho] at h
    simp only [mev] at h
    split at h
    · exact h.elim
    · rename_i size bytes agg zero desc eqk ht
      rw [addBK_eq, lenBK_eq, Nat.zero_add] at h
      obtain ⟨info, d, z, hi, hu, hsz, _, hz, hag, hzl, hzs, hzd, hz1, _⟩ := find_TT hTT ht
      refine ⟨.cells z.cells t, locB w.heap.size, _, _, .pointer (some ⟨w.heap.size, 0, none⟩), w, h, ?_, Step.refl _ _, rfl, rfl, fresh_cells (Step.refl _ _) rfl t zero z.cells hzl.symm (fun j s u a b => hzd _ _ _ j s u a b) hz1, fun _ _ β' hL => .ptr _ 0 (locB w.heap.size) hL⟩
      simp [execOp, ho, Instr.alloc, run_zeroValue hi hz, newVar, newRow]
  | box t x =>
    rw [ho] at h
    simp only [mev] at h
    split at h
    · exact h.elim
    · rename_i size bytes agg zero desc eqk ht
      rw [valK_eq] at h
      obtain ⟨h, hcells⟩ := cellsK_spec (w := w) (M := M) (β := β) h
      obtain ⟨c1, c2, c3⟩ := hcells _ (hT x)
      split at h
      · rw [addBK_eq, lenBK_eq, Nat.zero_add] at h
        refine ⟨.cells (a.eval x).cells t, locB w.heap.size, _, _, .pointer (some ⟨w.heap.size, 0, none⟩), w, h, ?_, Step.refl _ _, rfl, rfl, fresh_cells (Step.refl _ _) rfl t (cellsOf (val ts x)) (a.eval x).cells c1 c2 (fun j u hu => c3 u (Array.mem_of_getElem? hu)), fun _ _ β' hL => .ptr _ 0 (locB w.heap.size) hL⟩
        simp [execOp, ho, Instr.box, newVar, newRow]
      · exact h.elim
  | buildSlice t l ps => rw [ho] at h; exact fresh_buildSlice hTT ho h hM hT
  | makeSlice t x y => rw [ho] at h; exact fresh_makeSlice hTT ho h hM hT
  | convert s d x => rw [ho] at h; exact fresh_convert hTT ho h hM hT
  | _ => rw [ho] at hf; simp [isFresh] at hf

end

/-- The block that an operation makes is the next one. -/
def isArena : KB → Bool
  | .arena _ _ _ => true
  | _ => false
theorem newRowK_next {ks k1 : List KB} {k : KB} {s0 : SV} (hk : isArena k = false) (h : newRowK ks k (fun s k => (s, k) = (s0, k1))) : ∃ k, k1 = ks ++ [k] ∧ isArena k = false := by
  rw [newRowK_eq] at h
  exact ⟨_, ((Prod.mk.inj h).2).symm, hk⟩
theorem repK_next {z : List SV} {n : Nat} {c : List SV → Prop} (h : repK z n c) : ∃ l, c l := by rw [repK_eq] at h; exact ⟨_, h⟩
theorem fillS_next {ts : List SV} {size : Nat} : ∀ {parts : List (Nat × Operand)} {cs : List SV} {c : List SV → Prop}, fillS ts size cs parts c → ∃ l, c l := by
  intro parts
  induction parts with
  | nil => intro cs c h; exact ⟨_, h⟩
  | cons p parts ih =>
    intro cs c h
    obtain ⟨i, x⟩ := p
    simp only [fillS, valK_eq] at h
    unfold cellsK at h
    repeat' (first | exact h.elim | (rw [putK_eq] at h; exact ih h) | split at h)
theorem dvsK_next {ks : List KB} {l : List SV} {c : List DV → List Nat → Prop} (h : dvsK ks l c) : ∃ d f, c d f := by
  obtain ⟨⟨d, f⟩, _, hk⟩ := (Ex.dvs (ks := ks) (l := l) (α := List DV × List Nat) (G := fun d f K => K (d, f)) (fun d f => Ex.self (d, f))) (fun p => c p.1 p.2) h
  exact ⟨d, f, hk⟩
theorem fresh_next {TT : Nat → Option TI} {o : Oper} {ts : List SV} {ks k1 : List KB} {s0 : SV} (hf : isFresh o.op = true) (h : mev TT ts ks o.op (fun s k => (s, k) = (s0, k1))) : ∃ k, k1 = ks ++ [k] ∧ isArena k = false := by
  cases ho : o.op <;> rw [ho] at h hf <;> simp only [isFresh, Bool.false_eq_true] at hf
  · simp only [mev] at h
    split at h
    · exact h.elim
    · rw [addBK_eq, lenBK_eq] at h
      exact ⟨_, ((Prod.mk.inj h).2).symm, rfl⟩
  · simp only [mev] at h
    split at h
    · exact h.elim
    · rw [valK_eq] at h
      obtain ⟨h, _⟩ := cellsK_spec (w := default) (M := fun _ => False) (β := noE) h
      split at h
      · rw [addBK_eq, lenBK_eq] at h
        exact ⟨_, ((Prod.mk.inj h).2).symm, rfl⟩
      · exact h.elim
  · simp only [mev] at h
    repeat' (first | exact h.elim | split at h)
    obtain ⟨_, h⟩ := repK_next h
    obtain ⟨_, h⟩ := fillS_next h
    rw [addBK_eq, lenBK_eq] at h
    exact ⟨_, ((Prod.mk.inj h).2).symm, rfl⟩
  · simp only [mev, valK_eq] at h
    repeat' (first | exact h.elim | split at h)
    exact newRowK_next rfl h
  · simp only [mev, valK_eq] at h
    repeat' (first | exact h.elim | split at h)
    obtain ⟨_, _, h⟩ := dvsK_next h
    exact newRowK_next rfl h.2

/-! ### The same slots -/

theorem vals_agree {ts ts' : List SV} {l : List Operand} (h : ∀ x ∈ l, val ts x = val ts' x) : vals ts l = vals ts' l := by
  induction l with
  | nil => rfl
  | cons x l ih => simp [vals, h x (by simp), ih (fun y hy => h y (by simp [hy]))]
theorem fillK_agree {TT : Nat → Option TI} {ts ts' : List SV} {fs : List (Nat × TypeId)} : ∀ {parts : List (Nat × Operand)} {cs : List SV} {c : List SV → Prop}, (∀ p ∈ parts, val ts p.2 = val ts' p.2) → fillK TT ts fs cs parts c = fillK TT ts' fs cs parts c := by
  intro parts
  induction parts with
  | nil => intro cs c h; rfl
  | cons p parts ih =>
    intro cs c h
    obtain ⟨i, x⟩ := p
    have hx : val ts x = val ts' x := h (i, x) (by simp)
    have ih' : ∀ cs c, fillK TT ts fs cs parts c = fillK TT ts' fs cs parts c := fun cs c => ih (fun q hq => h q (by simp [hq]))
    simp only [fillK, valK_eq, hx, ih']
theorem fillS_agree {ts ts' : List SV} {size : Nat} : ∀ {parts : List (Nat × Operand)} {cs : List SV} {c : List SV → Prop}, (∀ p ∈ parts, val ts p.2 = val ts' p.2) → fillS ts size cs parts c = fillS ts' size cs parts c := by
  intro parts
  induction parts with
  | nil => intro cs c h; rfl
  | cons p parts ih =>
    intro cs c h
    obtain ⟨i, x⟩ := p
    have hx : val ts x = val ts' x := h (i, x) (by simp)
    have ih' : ∀ cs c, fillS ts size cs parts c = fillS ts' size cs parts c := fun cs c => ih (fun q hq => h q (by simp [hq]))
    simp only [fillS, valK_eq, hx, ih']
theorem boundK_agree {ts ts' : List SV} {o : Option Operand} {d : Int} {c : Int → Prop} (h : ∀ y, o = some y → val ts y = val ts' y) : boundK ts o d c = boundK ts' o d c := by
  cases o with
  | none => rfl
  | some y => simp only [boundK, valK_eq, h y rfl]

theorem pev_agree {P : Program} {TT : Nat → Option TI} {ts ts' : List SV} {ks : List KB} {op : Op} {K : SV → Prop} (h : ∀ x ∈ op.operands, val ts x = val ts' x) : pev P TT ts ks op K = pev P TT ts' ks op K := by
  cases op with
  | call c =>
    obtain ⟨callee, args, argTypes⟩ := c
    cases callee with
    | builtin b =>
      have ha : ∀ x ∈ args.toList, val ts x = val ts' x := fun x hx => h x (by simp [Op.operands, Call.operands]; first | exact .inr (by simpa using hx) | simpa using hx)
      simp only [pev]
      generalize args.toList = l at ha
      cases b <;> simp only [valK_eq]
      all_goals (match l, ha with
        | [], _ => rfl
        | [x], ha => simp only [ha x (by simp)]
        | [x, y], ha => simp only [ha x (by simp), ha y (by simp)]
        | _ :: _ :: _ :: _, _ => rfl)
    | _ => rfl
  | build t parts =>
    have : ∀ p ∈ parts.toList, val ts p.2 = val ts' p.2 := fun p hp => h p.2 (by simp [Op.operands]; exact ⟨p.1, by simpa using hp⟩)
    simp only [pev, fillK_agree this]
  | makeFunc fn first caps =>
    have : vals ts caps.toList = vals ts' caps.toList := vals_agree fun x hx => h x (by simp [Op.operands]; exact .inr (by simpa using hx))
    simp only [pev, valsK_eq, this]
  | slice t x lo hi mx =>
    have hx : val ts x = val ts' x := h x (by simp [Op.operands])
    have hlo : ∀ (d : Int) (c : Int → Prop), boundK ts lo d c = boundK ts' lo d c := fun d c => boundK_agree fun y hy => h y (by simp [Op.operands, hy])
    have hhi : ∀ (d : Int) (c : Int → Prop), boundK ts hi d c = boundK ts' hi d c := fun d c => boundK_agree fun y hy => h y (by simp [Op.operands, hy])
    simp only [pev, valK_eq, hx, hlo, hhi]
  | _ =>
    simp [Op.operands] at h
    simp only [pev, valK_eq, h]

theorem mev_agree {TT : Nat → Option TI} {ts ts' : List SV} {ks : List KB} {op : Op} {K : SV → List KB → Prop} (hf : isFresh op = true) (h : ∀ x ∈ op.operands, val ts x = val ts' x) : mev TT ts ks op K = mev TT ts' ks op K := by
  cases op with
  | box t x =>
    simp [Op.operands] at h
    simp only [mev, valK_eq, h]
  | makeSlice t x y =>
    simp [Op.operands] at h
    simp only [mev, valK_eq, h]
  | convert s d x =>
    simp [Op.operands] at h
    simp only [mev, valK_eq, h]
  | buildSlice t l parts =>
    have : ∀ p ∈ parts.toList, val ts p.2 = val ts' p.2 := fun p hp => h p.2 (by simp [Op.operands]; exact ⟨p.1, by simpa using hp⟩)
    simp only [mev, fillS_agree this]
  | alloc t => rfl
  | _ => simp [isFresh] at hf

theorem cev_agree {P : Program} {TT : Nat → Option TI} {ts ts' : List SV} {ks : List KB} {g : Operand} {args : Array Operand} {tys : Array TypeId} {K : Bool → SV → List KB → Prop} (h : ∀ x ∈ (Op.call ⟨.value g, args, tys⟩).operands, val ts x = val ts' x) : cev P TT ts ks g args.toList tys.toList K = cev P TT ts' ks g args.toList tys.toList K := by
  have hg : val ts g = val ts' g := h g (by simp [Op.operands, Call.operands])
  have ha : vals ts args.toList = vals ts' args.toList := vals_agree fun x hx => h x (by simp [Op.operands, Call.operands]; exact .inr (by simpa using hx))
  simp only [cev, valK_eq, valsK_eq, hg, ha]

end Go.Eng
