/-
  The engine, part 21: blocks made out of turn; operations that look at the same slots. The engine, part 22: regions whose order is open. The engine, part I: regions whose order is open and that begin with a move that nothing needs at once: it is done first. The engine, part 23: results; how a function is left; `run` is sound. The engine, part C: a new block joins the family of its type. The engine, part 24: `run` is sound; contracts out of it. The engine, part 25: contracts out of `run`. The engine, part 26: a table of types, checked by one closed fact; structs compared cell by cell.
-/
import Derived.Scope
import Derived.RangeFuncLeaves
import Derived.ChangeKeysEq
import Derived.Test.YtdphkaiijlekhaaM2
set_option linter.unusedVariables false
set_option linter.unusedSimpArgs false
namespace Go.Eng
open Go Go.RowKit

section
variable {P : Program} {TT : Nat → Option TI} {X : Nat → Prop} {w : World} {β : Env} {M : Nat → Prop} {ts : List SV} {ks : List KB} {a : Act} {K : SV → List KB → Prop} {o : Oper}

/-- What an operation that makes one block comes to, wherever the block's number may be put. -/
def Fresh (P : Program) (w : World) (M : Nat → Prop) (β : Env) (ks : List KB) (a : Act) (o : Oper) (K : SV → List KB → Prop) : Prop :=
  ∃ (ob : Obj) (L : Loc) (k : KB) (s0 : SV) (v : Value) (w1 : World), K s0 (ks ++ [k]) ∧ (execOp a.eval o).run P w = .ok (.value v) (w1.alloc ob) ∧ Step (fun _ => False) w w1 ∧ w1.heap.size = w.heap.size ∧ L.b = w.heap.size ∧
    (∀ (M' : Nat → Prop) (β' : Env), (∀ b, b < w.heap.size → M' b → M b) → Ext β β' → KBat (w1.alloc ob) M' β' L (· = w.heap.size) k) ∧ ∀ (w' : World) (M' : Nat → Prop) (β' : Env), β' ks.length = some L → Den w' M' β' s0 v

theorem fresh_cells {w1 : World} (h1 : Step (fun _ => False) w w1) (hsz : w1.heap.size = w.heap.size) (t : TypeId) (l : List SV) (vs : Array Value) (hl : l.length = vs.size) (hd : ∀ (j : Nat) (s : SV) (u : Value), l[j]? = some s → vs[j]? = some u → Den w M β s u) (ho : ∀ (j : Nat) (u : Value), vs[j]? = some u → u.oneCell' = true) :
    ∀ (M' : Nat → Prop) (β' : Env), (∀ b, b < w.heap.size → M' b → M b) → Ext β β' → KBat (w1.alloc (.cells vs t)) M' β' (locB w.heap.size) (· = w.heap.size) (.cells t l) := fun M' β' hM hE =>
  .cells t l vs (fun x => Iff.rfl) (by show (w1.heap.push _)[w.heap.size]? = _; rw [← hsz]; simp) hl (fun j s u a b => (hd j s u a b).mono ((h1.mono (fun _ _ e => e.elim)).trans (Step.alloc _ w1 _)) hM hE) ho
theorem fresh_row {w1 : World} (h1 : Step (fun _ => False) w w1) (hsz : w1.heap.size = w.heap.size) (e : TypeId) (sz n c : Nat) (z : Z) (f : Nat → List DV) (vs : Array Value) (fz : Nat × Nat) (hfz : ∀ o, o < vs.size → ¬ (fz.1 ≤ o ∧ o < fz.2)) (hz : z = .iff → 0 < n) (hs : vs.size = c * sz) (hn : n ≤ c) (hfl : ∀ k, k < n → (f k).length = sz)
    (hr : ∀ (k j : Nat) (d : DV) (u : Value), k < n → (f k)[j]? = some d → vs[k * sz + j]? = some u → Rd w M d u) (ho : ∀ (j : Nat) (u : Value), vs[j]? = some u → u.oneCell' = true) :
    ∀ (M' : Nat → Prop) (β' : Env), (∀ b, b < w.heap.size → M' b → M b) → Ext β β' → KBat (w1.alloc (.cells vs e fz)) M' β' ⟨w.heap.size, n, c, sz, false⟩ (· = w.heap.size) (.row e sz n z f) := fun M' β' hM hE =>
  .row e sz n z f vs fz (fun x => Iff.rfl) rfl rfl rfl hz (by show (w1.heap.push _)[w.heap.size]? = _; rw [← hsz]; simp) hfz hs hn hfl (fun k j d u a b c => (hr k j d u a b c).mono ((h1.mono (fun _ _ e => e.elim)).trans (Step.alloc _ w1 _)) hM) ho

theorem fresh_buildSlice (hTT : TTok P TT) {t : TypeId} {len : Nat} {parts : Array (Nat × Operand)} (ho : o.op = .buildSlice t len parts) (h : mev TT ts ks (.buildSlice t len parts) K) (hM : ∀ b, M b → b < w.heap.size) (hT : ∀ x, Den w M β (val ts x) (a.eval x)) : Fresh P w M β ks a o K := by
  simp only [mev] at h
  split at h
  · rename_i _ _ _ _ e _ ht
    split at h
    · rename_i size bytes agg zero desc eqk hte
      split at h
      · rename_i hble
        have hble := ble_of hble
        obtain ⟨info0, d0, z0', hi0, hu0, _, _, _, _, _, _, _, _, hd0⟩ := find_TT hTT ht
        cases hd0
        obtain ⟨info, de, z0, hi, hue, hsz, hby, hz0, _, hzl, hzs, hzd, hz1, _⟩ := find_TT hTT hte
        simp only at hsz hzl hzs hzd
        rw [repK_eq] at h
        have hlen0 : ((List.replicate len zero).flatten).length = len * size := by simp [hzs]
        have hbase : ((Array.range (len * info.size)).map (z0.cells[· % z0.cells.size]!)).toList.length = len * size := by simp [hsz]
        have hzpos : ∀ m, m < len * size → 0 < z0.cells.size := fun m hm => by
          rcases Nat.eq_zero_or_pos z0.cells.size with e0 | e0
          · rw [hzl, hzs] at e0; rw [e0] at hm; omega
          · exact e0
        obtain ⟨cs', vs', h, hfill, r1, r2, r3⟩ := fillS_spec (a := a) hT parts.toList _ _ ((Array.range (len * info.size)).map (z0.cells[· % z0.cells.size]!)).toList h (by rw [hlen0, hbase]) (fun j s u hs hu => by
            obtain ⟨a1, a2⟩ := rep_get zero len j s hs
            have hu' : ((Array.range (len * info.size)).map (z0.cells[· % z0.cells.size]!))[j]? = some u := by rw [← Array.getElem?_toList]; exact hu
            obtain ⟨b1, b2⟩ := rangeMod_get hu' (hzpos j (by rw [hzs] at a2; exact a2))
            rw [hzl] at b2
            exact hzd w _ β _ s u a1 b2) (fun u hu => by
            obtain ⟨j, hj, rfl⟩ := List.mem_iff_getElem.1 hu
            have hu' := List.getElem?_eq_getElem hj
            rw [Array.getElem?_toList] at hu'
            rw [hbase] at hj
            obtain ⟨b1, b2⟩ := rangeMod_get hu' (hzpos j hj)
            exact hz1 _ _ b2)
        rw [addBK_eq, lenBK_eq, Nat.zero_add] at h
        refine ⟨.cells vs'.toArray e, locB w.heap.size, _, _, .slice (some ⟨w.heap.size, 0, none⟩) len len, w, h, ?_, Step.refl _ _, rfl, rfl, fresh_cells (Step.refl _ _) rfl e cs' vs'.toArray (by simpa using r1) (fun j s u hs hu => r2 j s u hs (by simpa using hu)) (fun j u hu => r3 u (List.mem_of_getElem? (by simpa using hu))), fun _ _ β' hL => .cs _ 0 len len (locB w.heap.size) hL (Nat.le_refl _)⟩
        have hrun : (Instr.buildSlice t len (parts.map fun (i, x) => (i, a.eval x))).run P w = .ok (.slice (some ⟨w.heap.size, 0, none⟩) len len) (w.alloc (.cells vs'.toArray e)) := by
          have hp : (parts.map fun (i, x) => (i, a.eval x)).toList = parts.toList.map fun p => (p.1, a.eval p.2) := by simp
          have hfill' : Instr.fill (fun i => some (i * info.size, info.size)) ((Array.range (len * info.size)).map (z0.cells[· % z0.cells.size]!)) (parts.map fun (i, x) => (i, a.eval x)).toList = some vs'.toArray := by
            rw [hp, hsz]
            rw [hsz, Array.toArray_toList] at hfill
            exact hfill
          have h24 : ¬ (len * info.size > 2 ^ 24) := by rw [hsz]; omega
          by_cases hz : len * info.size = 0
          · rw [hz, Array.range_zero', Array.map_empty] at hfill'
            simp only [Instr.buildSlice, Sem.run_bind, run_underlying hu0, Result.andThen_ok, run_sizeOf hi, hz]
            have hfill2 : Instr.fill (fun i => some (i * info.size, info.size)) #[] (List.map (fun x => (x.1, a.eval x.2)) parts.toList) = some vs'.toArray := by rw [← hp]; exact hfill'
            simp [newRow, Array.range_zero', hfill2]
          · exact run_buildSlice w t e len _ _ info z0 hu0 hi hz0 h24 hz hfill'
        simp [execOp, ho, hrun]
      · exact h.elim
    · exact h.elim
  · exact h.elim

theorem fresh_makeSlice (hTT : TTok P TT) {t : TypeId} {x y : Operand} (ho : o.op = .makeSlice t x y) (h : mev TT ts ks (.makeSlice t x y) K) (hM : ∀ b, M b → b < w.heap.size) (hT : ∀ x, Den w M β (val ts x) (a.eval x)) : Fresh P w M β ks a o K := by
  simp only [mev] at h
  split at h
  · rename_i _ _ _ _ e _ ht
    split at h
    · rename_i size bytes agg zero desc eqk hte
      obtain ⟨info0, d0, z0', hi0, hu0, _, _, _, _, _, _, _, _, hd0⟩ := find_TT hTT ht
      cases hd0
      obtain ⟨info, de, z0, hi, hue, hsz, hby, hz0, _, hzl, hzs, hzd, hz1, _⟩ := find_TT hTT hte
      simp only at hsz hzl hzs hzd hby
      rw [valK_eq, valK_eq] at h
      have hx := hT x
      have hy := hT y
      split at h
      · rename_i k l k' c ex ey
        rw [ex] at hx; rw [ey] at hy
        have e1 := den_int hx
        have e2 := den_int hy
        have hE : Mem M w noE (fun _ _ => False) [] := ⟨⟨hM, fun _ _ h => h.elim, fun _ _ _ h => h.elim, fun _ _ h => h.elim, fun _ _ h => h.elim, fun i L k hk => by simp at hk⟩, fun _ _ => rfl, fun i t dom cols hi => by simp at hi⟩
        obtain ⟨ds, fr, h, f1, f2, f3⟩ := dvsK_spec hE.toMem0 _ _ z0.cells.toList h (by simpa using hzl.symm) (fun j s u hs hu => hzd w _ noE j s u hs (by simpa using hu))
        obtain ⟨⟨h0, h1, h2, h3⟩, h⟩ := h
        rw [newRowK_eq] at h
        have hsize : ds.length = size := by rw [f1, hzs]
        have hgetm : ∀ (kk q : Nat) (u : Value), q < size → (madeCells z0.cells (c.toNat * info.size))[kk * size + q]? = some u → z0.cells[q]? = some u := fun kk q u hq hu => by
          obtain ⟨_, b2⟩ := rangeMod_get hu (by omega)
          rw [hzl, hzs, Nat.mul_comm, Nat.mul_add_mod, Nat.mod_eq_of_lt hq] at b2
          exact b2
        have hkb := fresh_row (M := M) (β := β) (Step.refl _ w) rfl e size l.toNat c.toNat .no (fun _ => ds) (madeCells z0.cells (c.toNat * info.size)) (0, 0) (by simp) (fun e => by cases e) (by rw [size_madeCells, hsz]) (by omega) (fun _ _ => hsize) (fun kk q d u _ hd hu => by
            have hq : q < size := by have := (List.getElem?_eq_some_iff.1 hd).1; omega
            have hu' := hgetm kk q u hq hu
            have := f3 fr (fun _ h => h) q d u hd (by simpa using hu')
            exact rd_less this (fun b hb => .inl hb)) (fun j u hu => by
            have hj : j < c.toNat * info.size := by have := (Array.getElem?_eq_some_iff.1 hu).1; rw [size_madeCells] at this; exact this
            have hp : 0 < z0.cells.size := by
              rcases Nat.eq_zero_or_pos z0.cells.size with e0 | e0
              · rw [hzl, hzs, ← hsz] at e0; rw [e0] at hj; omega
              · exact e0
            obtain ⟨_, b2⟩ := rangeMod_get hu hp
            exact hz1 _ _ b2)
        refine ⟨_, _, _, _, _, w, h, ?_, Step.refl _ _, rfl, rfl, hkb, fun _ _ β' hL => .all _ _ hL rfl⟩
        have hrun := run_make (P := P) w t e info z0 hu0 hi hz0 k k' l c h0 h1 (by rw [hby, Int.mul_comm]; exact h2) h3
        simp [execOp, ho, e1, e2, hrun]
      · exact h.elim
    · exact h.elim
  · exact h.elim

theorem fresh_convert (hTT : TTok P TT) {src dst : TypeId} {x : Operand} (ho : o.op = .convert src dst x) (h : mev TT ts ks (.convert src dst x) K) (hM : ∀ b, M b → b < w.heap.size) (hT : ∀ x, Den w M β (val ts x) (a.eval x)) : Fresh P w M β ks a o K := by
  simp only [mev] at h
  split at h
  · rename_i _ _ tis _ _ _ _ e _ hts ht
    obtain ⟨_, us, _, _, hsrc, _⟩ := find_TT hTT hts
    split at h
    · rename_i _ _ _ _ _ hte
      obtain ⟨info0, d0, z0', hi0, hu0, _, _, _, _, _, _, _, _, hd0⟩ := find_TT hTT ht
      cases hd0
      obtain ⟨info1, d1, z1', hi1, hu1, _, _, _, _, _, _, _, _, hd1⟩ := find_TT hTT hte
      cases hd1
      rw [valK_eq] at h
      have hx := hT x
      split at h
      · rename_i s ex
        rw [ex] at hx
        have ev := den_str hx
        rw [newRowK_eq] at h
        have hrun := Lib.run_convert_string_bytes (P := P) w src dst e ⟨s.toArray⟩ hsrc hu0 hu1
        rw [bytesWorld_eq, size_str] at hrun
        have hge := grown_ge w s.length 0 e
        have hC : (Lib.bytesCells w e ⟨s.toArray⟩).size = grownCap w s.length 0 e := by
          unfold Lib.bytesCells
          rw [size_str]
          simp
          omega
        have hget : ∀ j u, j < s.length → (Lib.bytesCells w e ⟨s.toArray⟩)[j]? = some u → ∃ b, s[j]? = some b ∧ u = .int .u8 b.toNat := fun j u hj hu => by
          unfold Lib.bytesCells at hu
          rw [Array.getElem?_append_left (by simpa using hj)] at hu
          simp at hu
          obtain ⟨b, h1, h2⟩ := hu
          exact ⟨b, h1, h2.symm⟩
        have hkb := fresh_row (M := M) (β := β) (w := w) (w1 := w.drew) (Step.drew _ w) rfl e 1 s.length (grownCap w s.length 0 e) .no (fun j => [.int .u8 (byteAt s j)]) (Lib.bytesCells w e ⟨s.toArray⟩) ((Lib.bytesCells w e ⟨s.toArray⟩).size, (Lib.bytesCells w e ⟨s.toArray⟩).size + 1) (fun o ho => by omega) (fun e => by cases e) (by rw [hC, Nat.mul_one]) hge (fun _ _ => rfl) (fun k q d u hk hd hu => by
            cases q with
            | zero =>
              simp at hd
              subst hd
              obtain ⟨b, hb, rfl⟩ := hget k u hk (by simpa using hu)
              have : byteAt s (k : Int) = b.toNat := by unfold byteAt; simp [hb]
              rw [this]
              exact .int _ _
            | succ q => simp at hd) (fun j u hu => by
            unfold Lib.bytesCells at hu
            rw [Array.getElem?_append] at hu
            split at hu
            · simp at hu
              obtain ⟨b, _, rfl⟩ := hu
              rfl
            · have := Array.mem_of_getElem? hu
              simp at this
              rw [this.2]
              rfl)
        refine ⟨_, _, _, _, _, w.drew, h, ?_, Step.drew _ w, rfl, rfl, hkb, fun _ _ β' hL => .all _ _ hL rfl⟩
        simp only [execOp, ho, ev, strV, Sem.run_bind, hrun, Result.andThen_ok, Sem.run_pure]
      · exact h.elim
    · exact h.elim
  · exact h.elim


theorem fresh_ok (hTT : TTok P TT) (hf : isFresh o.op = true) (h : mev TT ts ks o.op K) (hM : ∀ b, M b → b < w.heap.size) (hT : ∀ x, Den w M β (val ts x) (a.eval x)) : Fresh P w M β ks a o K := by
  cases ho : o.op with
  | alloc t =>
    rw [ho] at h
    simp only [mev] at h
    split at h
    · exact h.elim
    · rename_i size bytes agg zero desc eqk ht
      rw [addBK_eq, lenBK_eq, Nat.zero_add] at h
      obtain ⟨info, d, z, hi, hu, hsz, _, hz, hag, hzl, hzs, hzd, hz1, _⟩ := find_TT hTT ht
      refine ⟨.cells z.cells t, locB w.heap.size, _, _, .pointer (some ⟨w.heap.size, 0, none⟩), w, h, ?_, Step.refl _ _, rfl, rfl, fresh_cells (Step.refl _ _) rfl t zero z.cells hzl.symm (fun j s u a b => hzd _ _ _ j s u a b) hz1, fun _ _ β' hL => .ptr _ 0 (locB w.heap.size) hL⟩
      simp [execOp, ho, Instr.alloc, run_zeroValue hi hz, newVar, newRow]
  | box t x =>
    rw [ho] at h
    simp only [mev] at h
    split at h
    · exact h.elim
    · rename_i size bytes agg zero desc eqk ht
      rw [valK_eq] at h
      obtain ⟨h, hcells⟩ := cellsK_spec (w := w) (M := M) (β := β) h
      obtain ⟨c1, c2, c3⟩ := hcells _ (hT x)
      split at h
      · rw [addBK_eq, lenBK_eq, Nat.zero_add] at h
        refine ⟨.cells (a.eval x).cells t, locB w.heap.size, _, _, .pointer (some ⟨w.heap.size, 0, none⟩), w, h, ?_, Step.refl _ _, rfl, rfl, fresh_cells (Step.refl _ _) rfl t (cellsOf (val ts x)) (a.eval x).cells c1 c2 (fun j u hu => c3 u (Array.mem_of_getElem? hu)), fun _ _ β' hL => .ptr _ 0 (locB w.heap.size) hL⟩
        simp [execOp, ho, Instr.box, newVar, newRow]
      · exact h.elim
  | buildSlice t l ps => rw [ho] at h; exact fresh_buildSlice hTT ho h hM hT
  | makeSlice t x y => rw [ho] at h; exact fresh_makeSlice hTT ho h hM hT
  | convert s d x => rw [ho] at h; exact fresh_convert hTT ho h hM hT
  | _ => rw [ho] at hf; simp [isFresh] at hf

end

/-- The block that an operation makes is the next one. -/
def isArena : KB → Bool
  | .arena _ _ _ => true
  | _ => false
theorem newRowK_next {ks k1 : List KB} {k : KB} {s0 : SV} (hk : isArena k = false) (h : newRowK ks k (fun s k => (s, k) = (s0, k1))) : ∃ k, k1 = ks ++ [k] ∧ isArena k = false := by
  rw [newRowK_eq] at h
  exact ⟨_, ((Prod.mk.inj h).2).symm, hk⟩
theorem repK_next {z : List SV} {n : Nat} {c : List SV → Prop} (h : repK z n c) : ∃ l, c l := by rw [repK_eq] at h; exact ⟨_, h⟩
theorem fillS_next {ts : List SV} {size : Nat} : ∀ {parts : List (Nat × Operand)} {cs : List SV} {c : List SV → Prop}, fillS ts size cs parts c → ∃ l, c l := by
  intro parts
  induction parts with
  | nil => intro cs c h; exact ⟨_, h⟩
  | cons p parts ih =>
    intro cs c h
    obtain ⟨i, x⟩ := p
    simp only [fillS, valK_eq] at h
    unfold cellsK at h
    repeat' (first | exact h.elim | (rw [putK_eq] at h; exact ih h) | split at h)
theorem dvsK_next {ks : List KB} {l : List SV} {c : List DV → List Nat → Prop} (h : dvsK ks l c) : ∃ d f, c d f := by
  obtain ⟨⟨d, f⟩, _, hk⟩ := (Ex.dvs (ks := ks) (l := l) (α := List DV × List Nat) (G := fun d f K => K (d, f)) (fun d f => Ex.self (d, f))) (fun p => c p.1 p.2) h
  exact ⟨d, f, hk⟩
theorem fresh_next {TT : Nat → Option TI} {o : Oper} {ts : List SV} {ks k1 : List KB} {s0 : SV} (hf : isFresh o.op = true) (h : mev TT ts ks o.op (fun s k => (s, k) = (s0, k1))) : ∃ k, k1 = ks ++ [k] ∧ isArena k = false := by
  cases ho : o.op <;> rw [ho] at h hf <;> simp only [isFresh, Bool.false_eq_true] at hf
  · simp only [mev] at h
    split at h
    · exact h.elim
    · rw [addBK_eq, lenBK_eq] at h
      exact ⟨_, ((Prod.mk.inj h).2).symm, rfl⟩
  · simp only [mev] at h
    split at h
    · exact h.elim
    · rw [valK_eq] at h
      obtain ⟨h, _⟩ := cellsK_spec (w := default) (M := fun _ => False) (β := noE) h
      split at h
      · rw [addBK_eq, lenBK_eq] at h
        exact ⟨_, ((Prod.mk.inj h).2).symm, rfl⟩
      · exact h.elim
  · simp only [mev] at h
    repeat' (first | exact h.elim | split at h)
    obtain ⟨_, h⟩ := repK_next h
    obtain ⟨_, h⟩ := fillS_next h
    rw [addBK_eq, lenBK_eq] at h
    exact ⟨_, ((Prod.mk.inj h).2).symm, rfl⟩
  · simp only [mev, valK_eq] at h
    repeat' (first | exact h.elim | split at h)
    exact newRowK_next rfl h
  · simp only [mev, valK_eq] at h
    repeat' (first | exact h.elim | split at h)
    obtain ⟨_, _, h⟩ := dvsK_next h
    exact newRowK_next rfl h.2

/-! ### The same slots -/

theorem vals_agree {ts ts' : List SV} {l : List Operand} (h : ∀ x ∈ l, val ts x = val ts' x) : vals ts l = vals ts' l := by
  induction l with
  | nil => rfl
  | cons x l ih => simp [vals, h x (by simp), ih (fun y hy => h y (by simp [hy]))]
theorem fillK_agree {TT : Nat → Option TI} {ts ts' : List SV} {fs : List (Nat × TypeId)} : ∀ {parts : List (Nat × Operand)} {cs : List SV} {c : List SV → Prop}, (∀ p ∈ parts, val ts p.2 = val ts' p.2) → fillK TT ts fs cs parts c = fillK TT ts' fs cs parts c := by
  intro parts
  induction parts with
  | nil => intro cs c h; rfl
  | cons p parts ih =>
    intro cs c h
    obtain ⟨i, x⟩ := p
    have hx : val ts x = val ts' x := h (i, x) (by simp)
    have ih' : ∀ cs c, fillK TT ts fs cs parts c = fillK TT ts' fs cs parts c := fun cs c => ih (fun q hq => h q (by simp [hq]))
    simp only [fillK, valK_eq, hx, ih']
theorem fillS_agree {ts ts' : List SV} {size : Nat} : ∀ {parts : List (Nat × Operand)} {cs : List SV} {c : List SV → Prop}, (∀ p ∈ parts, val ts p.2 = val ts' p.2) → fillS ts size cs parts c = fillS ts' size cs parts c := by
  intro parts
  induction parts with
  | nil => intro cs c h; rfl
  | cons p parts ih =>
    intro cs c h
    obtain ⟨i, x⟩ := p
    have hx : val ts x = val ts' x := h (i, x) (by simp)
    have ih' : ∀ cs c, fillS ts size cs parts c = fillS ts' size cs parts c := fun cs c => ih (fun q hq => h q (by simp [hq]))
    simp only [fillS, valK_eq, hx, ih']
theorem boundK_agree {ts ts' : List SV} {o : Option Operand} {d : Int} {c : Int → Prop} (h : ∀ y, o = some y → val ts y = val ts' y) : boundK ts o d c = boundK ts' o d c := by
  cases o with
  | none => rfl
  | some y => simp only [boundK, valK_eq, h y rfl]

theorem pev_agree {P : Program} {TT : Nat → Option TI} {ts ts' : List SV} {ks : List KB} {op : Op} {K : SV → Prop} (h : ∀ x ∈ op.operands, val ts x = val ts' x) : pev P TT ts ks op K = pev P TT ts' ks op K := by
  cases op with
  | call c =>
    obtain ⟨callee, args, argTypes⟩ := c
    cases callee with
    | builtin b =>
      have ha : ∀ x ∈ args.toList, val ts x = val ts' x := fun x hx => h x (by simp [Op.operands, Call.operands]; first | exact .inr (by simpa using hx) | simpa using hx)
      simp only [pev]
      generalize args.toList = l at ha
      cases b <;> simp only [valK_eq]
      all_goals (match l, ha with
        | [], _ => rfl
        | [x], ha => simp only [ha x (by simp)]
        | [x, y], ha => simp only [ha x (by simp), ha y (by simp)]
        | _ :: _ :: _ :: _, _ => rfl)
    | _ => rfl
  | build t parts =>
    have : ∀ p ∈ parts.toList, val ts p.2 = val ts' p.2 := fun p hp => h p.2 (by simp [Op.operands]; exact ⟨p.1, by simpa using hp⟩)
    simp only [pev, fillK_agree this]
  | makeFunc fn first caps =>
    have : vals ts caps.toList = vals ts' caps.toList := vals_agree fun x hx => h x (by simp [Op.operands]; exact .inr (by simpa using hx))
    simp only [pev, valsK_eq, this]
  | slice t x lo hi mx =>
    have hx : val ts x = val ts' x := h x (by simp [Op.operands])
    have hlo : ∀ (d : Int) (c : Int → Prop), boundK ts lo d c = boundK ts' lo d c := fun d c => boundK_agree fun y hy => h y (by simp [Op.operands, hy])
    have hhi : ∀ (d : Int) (c : Int → Prop), boundK ts hi d c = boundK ts' hi d c := fun d c => boundK_agree fun y hy => h y (by simp [Op.operands, hy])
    simp only [pev, valK_eq, hx, hlo, hhi]
  | _ =>
    simp [Op.operands] at h
    simp only [pev, valK_eq, h]

theorem mev_agree {TT : Nat → Option TI} {ts ts' : List SV} {ks : List KB} {op : Op} {K : SV → List KB → Prop} (hf : isFresh op = true) (h : ∀ x ∈ op.operands, val ts x = val ts' x) : mev TT ts ks op K = mev TT ts' ks op K := by
  cases op with
  | box t x =>
    simp [Op.operands] at h
    simp only [mev, valK_eq, h]
  | makeSlice t x y =>
    simp [Op.operands] at h
    simp only [mev, valK_eq, h]
  | convert s d x =>
    simp [Op.operands] at h
    simp only [mev, valK_eq, h]
  | buildSlice t l parts =>
    have : ∀ p ∈ parts.toList, val ts p.2 = val ts' p.2 := fun p hp => h p.2 (by simp [Op.operands]; exact ⟨p.1, by simpa using hp⟩)
    simp only [mev, fillS_agree this]
  | alloc t => rfl
  | _ => simp [isFresh] at hf

theorem cev_agree {P : Program} {TT : Nat → Option TI} {ts ts' : List SV} {ks : List KB} {g : Operand} {args : Array Operand} {tys : Array TypeId} {K : Bool → SV → List KB → Prop} (h : ∀ x ∈ (Op.call ⟨.value g, args, tys⟩).operands, val ts x = val ts' x) : cev P TT ts ks g args.toList tys.toList K = cev P TT ts' ks g args.toList tys.toList K := by
  have hg : val ts g = val ts' g := h g (by simp [Op.operands, Call.operands])
  have ha : vals ts args.toList = vals ts' args.toList := vals_agree fun x hx => h x (by simp [Op.operands, Call.operands]; exact .inr (by simpa using hx))
  simp only [cev, valK_eq, valsK_eq, hg, ha]

end Go.Eng
namespace Go.Eng
open Go Go.RowKit

/-- The slots in l as they are, of the others nothing known. -/
def mask (l : List Nat) (ts : List SV) : List SV := (List.range ts.length).map fun t => if memN t l = true then getT ts t else .any
theorem mask_get (l : List Nat) (ts : List SV) (t : Nat) : getT (mask l ts) t = if memN t l = true then getT ts t else .any := by
  rw [getT_eq, mask, List.getElem?_map]
  by_cases h : t < ts.length
  · rw [List.getElem?_range h]; rfl
  · rw [List.getElem?_eq_none (by simp; omega)]
    split
    · rw [getT_eq, List.getElem?_eq_none (by omega)]; rfl
    · rfl
theorem mem_memN {t : Nat} {l : List Nat} (h : memN t l = true) : t ∈ l := by
  induction l with
  | nil => simp [memN] at h
  | cons a l ih =>
    unfold memN at h
    split at h
    · rename_i hb; exact List.mem_cons.2 (.inl (Nat.eq_of_beq_eq_true hb).symm)
    · exact List.mem_cons.2 (.inr (ih h))
theorem tmpsOf_mem {t : Nat} {l : List Operand} (h : .tmp t ∈ l) : t ∈ tmpsOf l := by
  induction l with
  | nil => cases h
  | cons a l ih =>
    rcases List.mem_cons.1 h with e | h'
    · subst e; simp [tmpsOf]
    · cases a <;> simp [tmpsOf, ih h']
theorem looks_op {all : List Oper} {o : Oper} {t : Nat} (h : .tmp t ∈ o.op.operands) : memN t (looks all o) = true := by
  refine memN_mem ?_
  have : t ∈ tmpsOf o.op.operands.toList := tmpsOf_mem (by simpa using h)
  unfold looks
  split
  · exact this
  · split
    · exact List.mem_cons.2 (.inr this)
    · exact this
theorem mask_val {all : List Oper} {o : Oper} {ts : List SV} : ∀ x ∈ o.op.operands, val ts x = val (mask (looks all o) ts) x := fun x hx => by
  cases x with
  | tmp t => simp only [val, mask_get, looks_op (all := all) hx, if_true]
  | _ => rfl
theorem mask_guard {all : List Oper} {o : Oper} {ts : List SV} : guardOk all (mask (looks all o) ts) o = guardOk all ts o := by
  unfold guardOk
  cases hg : o.guard with
  | none => rfl
  | some p =>
    obtain ⟨j, want⟩ := p
    simp only
    cases hd : dstAt all j with
    | none => rfl
    | some t =>
      have : memN t (looks all o) = true := memN_mem (by simp [looks, hg, hd])
      simp only [mask_get, this, if_true]

/-! ### The way, place by place -/

def RefV (s s' : SV) : Prop := s' = s ∨ ∃ b, s = .d (.bool b) ∧ s' = .d (if b then .tt else .ff)
theorem RefV.trans {a b c : SV} (h : RefV a b) (k : RefV b c) : RefV a c := by
  rcases h with rfl | ⟨x, rfl, rfl⟩
  · exact k
  · rcases k with rfl | ⟨y, e, rfl⟩
    · exact .inr ⟨x, rfl, rfl⟩
    · cases x <;> simp at e
theorem RefV.den {s s' : SV} (h : RefV s s') {w : World} {M : Nat → Prop} {β : Env} {v : Value} (hd : Den w M β s v) : Den w M β s' v := by
  rcases h with rfl | ⟨b, rfl, rfl⟩
  · exact hd
  · cases hd with | d hr => cases hr; cases b <;> first | exact .d .tt | exact .d .ff
def Ref (l l' : List SV) : Prop := l.length = l'.length ∧ ∀ (t : Nat) (s' : SV), l'[t]? = some s' → ∃ s, l[t]? = some s ∧ RefV s s'
theorem Ref.refl (l : List SV) : Ref l l := ⟨rfl, fun _ s h => ⟨s, h, .inl rfl⟩⟩
theorem Ref.trans {a b c : List SV} (h : Ref a b) (k : Ref b c) : Ref a c := ⟨h.1.trans k.1, fun t s hs => by
  obtain ⟨s1, e1, r1⟩ := k.2 t s hs
  obtain ⟨s0, e0, r0⟩ := h.2 t s1 e1
  exact ⟨s0, e0, r0.trans r1⟩⟩
theorem putT_length (d : Option Tmp) (s : SV) (l : List SV) : (putT d s l).length = l.length := by
  cases d <;> simp [putT, setT_eq]
theorem putT_get (d : Option Tmp) (s : SV) (l : List SV) (t : Nat) : (putT d s l)[t]? = if d = some t ∧ t < l.length then some s else l[t]? := by
  cases d with
  | none => simp [putT]
  | some u =>
    simp only [putT, setT_eq, List.getElem?_set]
    by_cases e : u = t
    · subst e
      by_cases h : u < l.length
      · simp [h]
      · simp [h]
    · rw [if_neg e, if_neg (fun h => e (Option.some.inj h.1))]
theorem Ref.put {l l' : List SV} (h : Ref l l') (d : Option Tmp) (s : SV) : Ref (putT d s l) (putT d s l') := by
  refine ⟨by simp [putT_length, h.1], fun t s' hs => ?_⟩
  rw [putT_get] at hs ⊢
  rw [h.1]
  split
  · rename_i hc; rw [if_pos hc] at hs; exact ⟨s, rfl, .inl (Option.some.inj hs).symm⟩
  · rename_i hc; rw [if_neg hc] at hs; exact h.2 t s' hs
theorem Ref.refine_ {l : List SV} {t : Nat} {b : Bool} (h : getT l t = .d (.bool b)) : Ref l (setT l t (.d (if b then .tt else .ff))) := by
  refine ⟨by simp [setT_eq], fun u s' hs => ?_⟩
  rw [setT_eq, List.getElem?_set] at hs
  split at hs
  · rename_i e
    subst e
    split at hs
    · rename_i hl
      refine ⟨.d (.bool b), ?_, .inr ⟨b, rfl, (Option.some.inj hs).symm⟩⟩
      rw [getT_eq, List.getElem?_eq_getElem hl] at h
      rw [List.getElem?_eq_getElem hl]; exact congrArg some h
    · cases hs
  · exact ⟨s', hs, .inl rfl⟩

section
variable {P : Program} {TT : Nat → Option TI} {all : List Oper}

theorem Tr.cons_inv {o : Oper} {os' os : List Oper} {ts ts' : List SV} {ks ks' : List KB} {hs : List Bool} (h : Tr P TT all os' ts ks ts' ks' hs) (e : os' = o :: os) :
    ∃ tr hd hs' s k1, hs = hd :: hs' ∧ Ref ts tr ∧ Stp P TT all tr ks o hd s k1 ∧ Tr P TT all os (putT o.dst s tr) k1 ts' ks' hs' := by
  induction h with
  | nil => cases e
  | step hst htr _ => cases e; exact ⟨_, _, _, _, _, rfl, Ref.refl _, hst, htr⟩
  | refine_ t b hb _ ih =>
    obtain ⟨tr, hd, hs', s, k1, e1, hr, hst, htr⟩ := ih e
    exact ⟨tr, hd, hs', s, k1, e1, (Ref.refine_ hb).trans hr, hst, htr⟩

/-- The way as functions of the place. -/
theorem Tr.places : ∀ {os : List Oper} {ts ts' : List SV} {ks ks' : List KB} {hs : List Bool}, Tr P TT all os ts ks ts' ks' hs →
    ∃ (S : Nat → SV) (T : Nat → List SV) (κ : Nat → List KB), T 0 = ts ∧ κ 0 = ks ∧ T os.length = ts' ∧ κ os.length = ks' ∧ hs.length = os.length ∧
      ∀ (p : Nat) (o : Oper) (h : Bool), os[p]? = some o → hs[p]? = some h → ∃ tr, Ref (T p) tr ∧ Stp P TT all tr (κ p) o h (S p) (κ (p + 1)) ∧ T (p + 1) = putT o.dst (S p) tr := by
  intro os
  induction os with
  | nil =>
    intro ts ts' ks ks' hs h
    cases h
    exact ⟨fun _ => .any, fun _ => ts, fun _ => ks, rfl, rfl, rfl, rfl, rfl, by simp⟩
  | cons o os ih =>
    intro ts ts' ks ks' hs h
    obtain ⟨tr, hd, hs', s, k1, rfl, hr, hst, htr⟩ := h.cons_inv rfl
    obtain ⟨S, T, κ, e1, e2, e3, e4, e5, hp⟩ := ih htr
    refine ⟨fun p => match p with | 0 => s | p + 1 => S p, fun p => match p with | 0 => ts | p + 1 => T p, fun p => match p with | 0 => ks | p + 1 => κ p, rfl, rfl, e3, e4, by simp [e5], ?_⟩
    intro p o' h' ho hh
    cases p with
    | zero =>
      simp only [List.getElem?_cons_zero, Option.some.injEq] at ho hh
      subst ho; subst hh
      refine ⟨tr, hr, ?_, e1⟩
      show Stp P TT all tr ks o hd s (κ 0)
      rw [e2]; exact hst
    | succ p => exact hp p o' h' (by simpa using ho) (by simpa using hh)
end

/-! ### What is done so far, whatever was picked -/

def sg (D : Nat → Option Tmp) (S : Nat → SV) (E : Nat → Bool) (ts : List SV) (m : Nat) : Nat → List SV
  | 0 => ts
  | k + 1 => if E (m + k) = true then putT (D (m + k)) (S (m + k)) (sg D S E ts m k) else sg D S E ts m k

section
variable {D : Nat → Option Tmp} {S : Nat → SV} {E : Nat → Bool} {ts : List SV} {m : Nat}
theorem sg_length (k : Nat) : (sg D S E ts m k).length = ts.length := by
  induction k with
  | zero => rfl
  | succ k ih => unfold sg; split <;> simp [putT_length, ih]
theorem sg_off (k t : Nat) (h : ∀ i, m ≤ i → i < m + k → E i = true → D i ≠ some t) : (sg D S E ts m k)[t]? = ts[t]? := by
  induction k with
  | zero => rfl
  | succ k ih =>
    have ih := ih (fun i a b => h i a (by omega))
    unfold sg
    split
    · rename_i he
      rw [putT_get, if_neg (fun hc => h (m + k) (by omega) (by omega) he hc.1), ih]
    · exact ih
theorem sg_on (k t i : Nat) (h1 : m ≤ i) (h2 : i < m + k) (he : E i = true) (hd : D i = some t) (ht : t < ts.length) (hu : ∀ i', m ≤ i' → i' < m + k → D i' = some t → i' = i) : (sg D S E ts m k)[t]? = some (S i) := by
  induction k with
  | zero => omega
  | succ k ih =>
    unfold sg
    by_cases hk : i = m + k
    · subst hk
      rw [if_pos he, putT_get, if_pos ⟨hd, by rw [sg_length]; exact ht⟩]
    · have ih := ih (by omega) (fun i' a b => hu i' a (by omega))
      split
      · rw [putT_get, if_neg (fun hc => hk (hu (m + k) (by omega) (by omega) hc.1).symm), ih]
      · exact ih
theorem sg_set {E' : Nat → Bool} (k j : Nat) (h1 : m ≤ j) (h2 : j < m + k) (he : E j = false) (hE : ∀ i, E' i = (E i || decide (i = j))) (hu : ∀ i i' t, m ≤ i → i < m + k → m ≤ i' → i' < m + k → D i = some t → D i' = some t → i = i') :
    sg D S E' ts m k = putT (D j) (S j) (sg D S E ts m k) := by
  refine List.ext_getElem? fun t => ?_
  rw [putT_get, sg_length]
  split
  · rename_i hc
    exact sg_on k t j h1 h2 (by rw [hE]; simp) hc.1 hc.2 (fun i' a b c => hu _ _ t a b h1 h2 c hc.1)
  · rename_i hc
    by_cases hw : ∃ i, m ≤ i ∧ i < m + k ∧ E i = true ∧ D i = some t
    · obtain ⟨i, a, b, c, d⟩ := hw
      by_cases ht : t < ts.length
      · rw [sg_on k t i a b (by rw [hE, c]; rfl) d ht (fun i' a' b' c' => hu _ _ t a' b' a b c' d), sg_on k t i a b c d ht (fun i' a' b' c' => hu _ _ t a' b' a b c' d)]
      · rw [List.getElem?_eq_none (by rw [sg_length]; omega), List.getElem?_eq_none (by rw [sg_length]; omega)]
    · have hw : ∀ i, m ≤ i → i < m + k → E i = true → D i ≠ some t := fun i a b c d => hw ⟨i, a, b, c, d⟩
      rw [sg_off k t hw]
      by_cases hj : D j = some t
      · have ht : ¬ t < ts.length := fun h => hc ⟨hj, h⟩
        rw [List.getElem?_eq_none (by rw [sg_length]; omega), List.getElem?_eq_none (by omega)]
      · refine sg_off k t (fun i a b c => ?_)
        rw [hE] at c
        by_cases hij : i = j
        · rw [hij]; exact hj
        · exact hw i a b (by simpa [hij] using c)
end

/-! ### What the check says -/

/-- Number j waits for number i. -/
inductive Wt (all : List Oper) : Nat → Nat → Prop where
  | edge {j i : Nat} {o : Oper} {e : Edge} : all[j]? = some o → e ∈ o.after → Region.binds .any e = true → e.on = i → Wt all j i
  | trans {j k i : Nat} : Wt all j k → Wt all k i → Wt all j i

structure DrawOk (all : List Oper) (hs : List Bool) : Prop where
  len : hs.length = all.length
  on : ∀ (j : Nat) (o : Oper) (e : Edge), all[j]? = some o → e ∈ o.after → Region.binds .any e = true → e.on < j
  past : ∀ (h j : Nat), hs[h]? = some true → h < j → j < all.length → Wt all j h
  first : ∀ (h i : Nat), hs[h]? = some true → i < h → Wt all h i
  pair : ∀ (i j : Nat) (x y : Oper), i < j → all[i]? = some x → all[j]? = some y → hs[j]? = some false → (∀ h, i ≤ h → h < j → hs[h]? = some false) →
    sameDst x.dst y.dst = false ∧ (Wt all j i ∨ apart all x y = true)

theorem covers_bit {m mask i : Nat} (h : covers m mask = true) (hi : i < m) : mask.testBit i = true := by
  unfold covers at h
  have h := Nat.eq_of_beq_eq_true h
  have h1 : (2 ^ m - 1).testBit i = true := by simp [hi]
  have h2 : (mask &&& (2 ^ m - 1)).testBit i = true := by
    show (Nat.land mask (2 ^ m - 1)).testBit i = true
    rw [h]; exact h1
  rw [Nat.testBit_and] at h2
  simp only [Bool.and_eq_true] at h2
  exact h2.1
theorem forceK_eq {α : Sort 1} (n : Nat) (k : Nat → α) : forceK n k = k n := by cases n <;> rfl
theorem getN_eq (l : List Nat) (i : Nat) : getN l i = (l[i]?).getD 0 := by
  induction l generalizing i with
  | nil => rfl
  | cons a l ih => cases i with
    | zero => rfl
    | succ i => simp [getN, ih]

/-- The bits of what goes ahead tell the truth. -/
def BefOk (all : List Oper) (acc : List Nat) (i : Nat) : Prop := acc.length = i ∧ ∀ (j b : Nat), j < i → (getN acc (i - 1 - j)).testBit b = true → Wt all j b

theorem befOf_ok {all : List Oper} {acc : List Nat} {i : Nat} {o : Oper} (hb : BefOk all acc i) (ho : all[i]? = some o) : ∀ (es : List Edge), (∀ e ∈ es, e ∈ o.after) → onLt i es = true → ∀ b, (befOf acc i es).testBit b = true → Wt all i b := by
  intro es
  induction es with
  | nil => intro _ _ b h; simp [befOf] at h
  | cons e es ih =>
    intro hes hon b h
    unfold befOf at h
    unfold onLt at hon
    cases hbd : Region.binds .any e with
    | false => rw [hbd] at h hon; exact ih (fun x hx => hes x (by simp [hx])) hon b h
    | true =>
      rw [hbd] at h hon
      simp only at h hon
      split at hon
      · rename_i hlt
        have hlt : e.on < i := Nat.le_of_ble_eq_true hlt
        have hE : Wt all i e.on := .edge ho (hes e (by simp)) hbd rfl
        change ((Nat.shiftLeft 1 e.on ||| getN acc (i - 1 - e.on)) ||| befOf acc i es).testBit b = true at h
        rw [Nat.testBit_or, Nat.testBit_or] at h
        simp only [Bool.or_eq_true] at h
        rcases h with (h | h) | h
        · have : (1 <<< e.on).testBit b = true := h
          rw [Nat.testBit_shiftLeft] at this
          simp only [Bool.and_eq_true, decide_eq_true_eq] at this
          have h2 : b - e.on = 0 := by
            have := this.2
            rw [Nat.testBit_one_eq_true_iff_self_eq_zero] at this
            exact this
          have : b = e.on := by omega
          rw [this]; exact hE
        · exact hE.trans (hb.2 e.on b hlt h)
        · exact ih (fun x hx => hes x (by simp [hx])) hon b h
      · cases hon

theorem onLt_ok {i : Nat} : ∀ {es : List Edge}, onLt i es = true → ∀ e ∈ es, Region.binds .any e = true → e.on < i := by
  intro es
  induction es with
  | nil => intro _ e he; cases he
  | cons x es ih =>
    intro hon e he hb
    unfold onLt at hon
    rcases List.mem_cons.1 he with rfl | he
    · rw [hb] at hon
      simp only at hon
      split at hon
      · rename_i hlt; exact Nat.le_of_ble_eq_true hlt
      · cases hon
    · split at hon
      · split at hon
        · exact ih hon e he hb
        · cases hon
      · exact ih hon e he hb

theorem pairsOk_ok {all : List Oper} {mask : Nat} {y : Oper} : ∀ {seg : List (Nat × Oper)}, pairsOk all mask y seg = true → ∀ p ∈ seg, sameDst p.2.dst y.dst = false ∧ (mask.testBit p.1 = true ∨ apart all p.2 y = true) := by
  intro seg
  induction seg with
  | nil => intro _ p hp; cases hp
  | cons q seg ih =>
    intro h p hp
    unfold pairsOk at h
    split at h
    · rename_i hq
      rcases List.mem_cons.1 hp with rfl | hp
      · unfold pairOk at hq
        split at hq
        · cases hq
        · rename_i hd
          split at hq
          · rename_i hb; exact ⟨hd, .inl hb⟩
          · exact ⟨hd, .inr hq⟩
      · exact ih h p hp
    · cases h

theorem drawGo_ok {all : List Oper} {hsAll : List Bool} : ∀ (os : List Oper) (hs : List Bool) (acc : List Nat) (i m : Nat) (seg : List (Nat × Oper)), drawGo all os hs acc i m seg = true → all.drop i = os → hsAll.drop i = hs → i ≤ all.length → i ≤ hsAll.length → BefOk all acc i → m ≤ i →
    (∀ h, m ≤ h → h < i → hsAll[h]? = some false) → (m = 0 ∨ hsAll[m - 1]? = some true) → (∀ (j : Nat) (o : Oper), m ≤ j → j < i → all[j]? = some o → (j, o) ∈ seg) →
    hsAll.length = all.length ∧ (∀ (j : Nat), i ≤ j → ∀ (o : Oper) (e : Edge), all[j]? = some o → e ∈ o.after → Region.binds .any e = true → e.on < j) ∧
    (∀ (h j : Nat), hsAll[h]? = some true → h < j → i ≤ j → j < all.length → Wt all j h) ∧ (∀ (h k : Nat), i ≤ h → hsAll[h]? = some true → k < h → Wt all h k) ∧
    (∀ (k j : Nat) (x y : Oper), k < j → i ≤ j → all[k]? = some x → all[j]? = some y → hsAll[j]? = some false → (∀ h, k ≤ h → h < j → hsAll[h]? = some false) → sameDst x.dst y.dst = false ∧ (Wt all j k ∨ apart all x y = true)) := by
  intro os
  induction os with
  | nil =>
    intro hs acc i m seg h hos hhs hi hi' hb hm hseg0 hm0 hseg
    cases hs with
    | cons => simp [drawGo] at h
    | nil =>
      have e1 : all.length = i := by have := List.drop_eq_nil_iff.1 hos; omega
      have e2 : hsAll.length = i := by have := List.drop_eq_nil_iff.1 hhs; omega
      refine ⟨by omega, fun j hj o e ho => ?_, fun h j _ _ hj hl => by omega, fun h k hh hk => ?_, fun k j x y _ hj _ hy => ?_⟩
      · have := (List.getElem?_eq_some_iff.1 ho).1; omega
      · have := (List.getElem?_eq_some_iff.1 hk).1; omega
      · have := (List.getElem?_eq_some_iff.1 hy).1; omega
  | cons o os ih =>
    intro hs acc i m seg h hos hhs hi hi' hb hm hseg0 hm0 hseg
    cases hs with
    | nil => simp [drawGo] at h
    | cons hd hs =>
      have hil : i < all.length := by
        rcases Nat.lt_or_ge i all.length with h | h
        · exact h
        · rw [List.drop_eq_nil_of_le h] at hos; cases hos
      have hil' : i < hsAll.length := by
        rcases Nat.lt_or_ge i hsAll.length with h | h
        · exact h
        · rw [List.drop_eq_nil_of_le h] at hhs; cases hhs
      rw [List.drop_eq_getElem_cons hil] at hos
      rw [List.drop_eq_getElem_cons hil'] at hhs
      obtain ⟨ho, hos⟩ := List.cons.inj hos
      obtain ⟨hh, hhs⟩ := List.cons.inj hhs
      have ho : all[i]? = some o := by rw [List.getElem?_eq_getElem hil, ho]
      have hh : hsAll[i]? = some hd := by rw [List.getElem?_eq_getElem hil', hh]
      unfold drawGo at h
      rw [forceK_eq] at h
      split at h
      · rename_i hon hcov
        have hbits := befOf_ok hb ho o.after.toList (fun e he => by simpa using he) hon
        have hb' : BefOk all (befOf acc i o.after.toList :: acc) (i + 1) := by
          refine ⟨by simp [hb.1], fun j b hj ht => ?_⟩
          by_cases hji : j = i
          · subst hji; simp [getN] at ht; exact hbits b ht
          · have : i + 1 - 1 - j = (i - 1 - j) + 1 := by omega
            rw [this] at ht
            exact hb.2 j b (by omega) ht
        have hold : ∀ h, hsAll[h]? = some true → h < i → h < m := fun h hh hi => by
          rcases Nat.lt_or_ge h m with h' | h'
          · exact h'
          · rw [hseg0 h h' hi] at hh; cases hh
        have base : ∀ j, j < m → Wt all i j := fun j hj => hbits j (covers_bit hcov hj)
        have key : ∀ (hd' : Bool) (m' : Nat) (seg' : List (Nat × Oper)), drawGo all os hs (befOf acc i o.after.toList :: acc) (i + 1) m' seg' = true → m' ≤ i + 1 → (∀ h, m' ≤ h → h < i + 1 → hsAll[h]? = some false) → (m' = 0 ∨ hsAll[m' - 1]? = some true) →
            (∀ (j : Nat) (o : Oper), m' ≤ j → j < i + 1 → all[j]? = some o → (j, o) ∈ seg') → (hd = true → ∀ k, k < i → Wt all i k) →
            (hd = false → ∀ (k : Nat) (x : Oper), m ≤ k → k < i → all[k]? = some x → sameDst x.dst o.dst = false ∧ (Wt all i k ∨ apart all x o = true)) →
            hsAll.length = all.length ∧ (∀ (j : Nat), i ≤ j → ∀ (o : Oper) (e : Edge), all[j]? = some o → e ∈ o.after → Region.binds .any e = true → e.on < j) ∧
            (∀ (h j : Nat), hsAll[h]? = some true → h < j → i ≤ j → j < all.length → Wt all j h) ∧ (∀ (h k : Nat), i ≤ h → hsAll[h]? = some true → k < h → Wt all h k) ∧
            (∀ (k j : Nat) (x y : Oper), k < j → i ≤ j → all[k]? = some x → all[j]? = some y → hsAll[j]? = some false → (∀ h, k ≤ h → h < j → hsAll[h]? = some false) → sameDst x.dst y.dst = false ∧ (Wt all j k ∨ apart all x y = true)) := by
          intro _ m' seg' hgo hm' hs0 hm0' hsg hfirst hpair
          obtain ⟨r1, r2, r3, r4, r5⟩ := ih hs _ (i + 1) m' seg' hgo hos hhs hil hil' hb' hm' hs0 hm0' hsg
          refine ⟨r1, fun j hj o' e ho' he hbd => ?_, fun h0 j hh' hlt hij hjl => ?_, fun h0 k hih hh' hk => ?_, fun k j x y hkj hij hx hy hj hno => ?_⟩
          · by_cases e1 : j = i
            · subst e1
              rw [ho] at ho'
              obtain rfl := Option.some.inj ho'
              exact onLt_ok hon e (by simpa using he) hbd
            · exact r2 j (by omega) o' e ho' he hbd
          · by_cases e1 : j = i
            · subst e1; exact base h0 (hold h0 hh' hlt)
            · exact r3 h0 j hh' hlt (by omega) hjl
          · by_cases e1 : h0 = i
            · subst e1
              rw [hh] at hh'
              exact hfirst (Option.some.inj hh') k hk
            · exact r4 h0 k (by omega) hh' hk
          · by_cases e1 : j = i
            · subst e1
              rw [ho] at hy
              obtain rfl := Option.some.inj hy
              rw [hh] at hj
              refine hpair (Option.some.inj hj) k x ?_ hkj hx
              rcases Nat.lt_or_ge k m with h' | h'
              · exfalso
                rcases hm0 with e | e
                · omega
                · rw [hno (m - 1) (by omega) (by omega)] at e; cases e
              · exact h'
            · exact r5 k j x y hkj (by omega) hx hy hj hno
        cases hd with
        | true =>
          simp only at h
          split at h
          · rename_i hci
            rw [forceK_eq] at h
            exact key true (i + 1) [] h (Nat.le_refl _) (fun h a b => by omega) (.inr hh) (fun j o a b => by omega) (fun _ k hk => hbits k (covers_bit hci hk)) (fun e => (by cases e))
          · cases h
        | false =>
          simp only at h
          split at h
          · rename_i hpo
            rw [forceK_eq] at h
            refine key false m _ h (by omega) (fun h a b => ?_) hm0 (fun j o' a b ho' => ?_) (fun e => (by cases e)) (fun _ k x hk hki hx => ?_)
            · by_cases e1 : h = i
              · subst e1; exact hh
              · exact hseg0 h a (by omega)
            · by_cases e1 : j = i
              · subst e1
                rw [ho] at ho'
                obtain rfl := Option.some.inj ho'
                exact List.mem_cons.2 (.inl rfl)
              · exact List.mem_cons.2 (.inr (hseg j o' a (by omega) ho'))
            · obtain ⟨h1, h2⟩ := pairsOk_ok hpo (k, x) (hseg k x hk hki hx)
              exact ⟨h1, h2.imp (hbits k) id⟩
          · cases h
      · cases h

theorem drawOk_ok {all : List Oper} {hs : List Bool} (h : drawOk all hs = true) : DrawOk all hs := by
  obtain ⟨r1, r2, r3, r4, r5⟩ := drawGo_ok (all := all) (hsAll := hs) all hs [] 0 0 [] h rfl rfl (Nat.zero_le _) (Nat.zero_le _) ⟨rfl, fun j b hj => by omega⟩ (Nat.le_refl _) (fun h a b => by omega) (.inl rfl) (fun j o a b => by omega)
  exact ⟨r1, fun j o e => r2 j (Nat.zero_le _) o e, fun h j a b c => r3 h j a b (Nat.zero_le _) c, fun h i a b => r4 h i (Nat.zero_le _) a b, fun i j x y a b c d e => r5 i j x y a (Nat.zero_le _) b c d e⟩


/-! ### Any order -/

theorem Sat.ref {B : Bs} {w : World} {β : Env} {fp : Nat → Nat → Prop} {ts ts' : List SV} {ks : List KB} {a : Act} (h : Sat B w β fp ts ks a) (hr : Ref ts ts') : Sat B w β fp ts' ks a :=
  ⟨h.went, h.df, h.len.trans hr.1, fun t s v hs hv => by
    obtain ⟨s0, e, r⟩ := hr.2 t s hs
    exact r.den (h.tm t s0 v e hv)⟩
/-- Blocks that will be known. -/
theorem Sat.moreTo {B : Bs} {w : World} {β : Env} {fp : Nat → Nat → Prop} {ts : List SV} {ks : List KB} {a : Act} (h : Sat B w β fp ts ks a) (l : List KB) (hl : ∀ k ∈ l, isArena k = false) : Sat B w β fp ts (ks ++ l) a := by
  have hm := h.went.mem
  refine ⟨⟨⟨⟨hm.xa, hm.xb, hm.dis, hm.kw, hm.kn, fun i L k hk hne hL => ?_⟩, fun i hi => hm.kl i (by simp at hi; omega), fun i t dom cols hi => ?_⟩, h.went.st, h.went.ext, h.went.own⟩, h.df, h.len, h.tm⟩
  · by_cases hi : i < ks.length
    · rw [List.getElem?_append_left hi] at hk
      exact hm.kb i L k hk hne hL
    · rw [hm.kl i (by omega)] at hL
      cases hL
  · by_cases hi' : i < ks.length
    · rw [List.getElem?_append_left hi'] at hi
      exact hm.ka i t dom cols hi
    · rw [List.getElem?_append_right (by omega)] at hi
      have := hl _ (List.mem_of_getElem? hi)
      simp [isArena] at this

/-- One that is laid now. -/
theorem Mem.fill {X : Nat → Prop} {w w1 : World} {β : Env} {fp : Nat → Nat → Prop} {ks : List KB} (h : Mem X w β fp ks) (h1 : Step (fun _ => False) w w1) (hsz : w1.heap.size = w.heap.size) {i : Nat} {k : KB} (hn : β i = none) (hki : ks[i]? = some k) (o : Obj) (L : Loc) (hL : L.b = w.heap.size)
    (hk : ∀ (M' : Nat → Prop) (β' : Env), (∀ b, b < w.heap.size → M' b → Mx X fp b) → Ext β β' → KBat (w1.alloc o) M' β' L (· = w.heap.size) k) : Went X w β fp (w1.alloc o) (upd β i (some L)) (updP fp i (· = w.heap.size)) ks := by
  have hil : i < ks.length := (List.getElem?_eq_some_iff.1 hki).1
  have hfi : ∀ b, ¬ fp i b := fun b hb => by obtain ⟨L', hL'⟩ := h.kn i b hb; rw [hn] at hL'; cases hL'
  have hst : Step (fun b => ∃ i, fp i b) w (w1.alloc o) := (h1.mono (fun _ _ e => e.elim)).trans (Step.alloc _ w1 o)
  refine h.go hst (ext_upd L hn) (fun j b hb => ?_) (fun p q b hp hq => ?_) (fun j b hb => ?_) (fun j hj => ?_) (fun j t dom cols hj => ?_) (fun j b hb => ?_) (fun j L' k' hk' hne hL' => ?_)
  · by_cases e : j = i
    · subst e; rw [updP_same] at hb; exact .inr (by omega)
    · rw [updP_other _ _ e] at hb; exact .inl ⟨j, hb⟩
  · by_cases e1 : p = i <;> by_cases e2 : q = i
    · omega
    · subst e1; rw [updP_same] at hp; rw [updP_other _ _ e2] at hq; have := h.kw q b hq; omega
    · subst e2; rw [updP_same] at hq; rw [updP_other _ _ e1] at hp; have := h.kw p b hp; omega
    · rw [updP_other _ _ e1] at hp; rw [updP_other _ _ e2] at hq; exact h.dis p q b hp hq
  · by_cases e : j = i
    · subst e; rw [updP_same] at hb; subst hb; simp [hsz]
    · rw [updP_other _ _ e] at hb; have := h.kw j b hb; simp [hsz]; omega
  · rw [upd_other _ _ (show j ≠ i by omega)]; exact h.kl j hj
  · obtain ⟨L', hL'⟩ := h.ka j t dom cols hj
    exact ⟨L', ext_upd L hn j L' hL'⟩
  · by_cases e : j = i
    · subst e; exact ⟨L, upd_same _ _ _⟩
    · rw [updP_other _ _ e] at hb; rw [upd_other _ _ e]; exact h.kn j b hb
  · by_cases e : j = i
    · subst e
      rw [upd_same] at hL'
      cases hL'
      rw [hki] at hk'
      cases hk'
      rw [updP_same]
      exact .inr (hk _ _ (fun b hb hm => hm.imp id (fun ⟨q, hq⟩ => by
        by_cases e : q = j
        · subst e; rw [updP_same] at hq; omega
        · rw [updP_other _ _ e] at hq; exact ⟨q, hq⟩)) (ext_upd L hn))
    · rw [upd_other _ _ e] at hL'
      exact .inl ⟨hk', hL', updP_other _ _ e, fun b hb => (Below.heap_alloc w1 o b (by rw [hsz]; exact h.kw j b hb)).trans (h1.block b (h.kw j b hb) (fun e => e))⟩

theorem cev_false {P : Program} {TT : Nat → Option TI} {ts : List SV} {ks k1 : List KB} {g : Operand} {args : List Operand} {tys : List TypeId} {s : SV} (h : cev P TT ts ks g args tys (fun h' x k => (h', x, k) = (false, s, k1))) : k1 = ks := by
  unfold cev at h
  rw [valK_eq] at h
  split at h
  · rw [valsK_eq, appK_eq] at h
    cases h with
    | data r h1 h2 h3 h4 => exact ((Prod.mk.inj (Prod.mk.inj h4).2).2).symm
    | view r as' fr h1 h2 h3 h4 h5 => exact ((Prod.mk.inj (Prod.mk.inj h5).2).2).symm
    | frz r as' fr h1 h2 h3 h4 h5 => cases (Prod.mk.inj h5).1
    | mem r ks' h1 h2 => cases (Prod.mk.inj h2).1
  · exact h.elim

/-- One operation carried out, in a state that fits. -/
theorem stp_sound {P : Program} {TT : Nat → Option TI} {B : Bs} {w : World} {β : Env} {fp : Nat → Nat → Prop} {ts : List SV} {ks : List KB} {a : Act} {rd : Option Nat} {n : Nat} {Q : Exit → Act → World → Prop} (hTT : TTok P TT) {all : List Oper} {o : Oper} {i : Nat} {h : Bool} {s : SV} {k1 : List KB} (hst : Stp P TT all ts ks o h s k1) (hi : all.toArray[i]? = some o) {next : Act → World → Prop} (hS : Sat B w β fp ts ks a)
    (hn : ∀ v w' β' fp', Sat B w' β' fp' (putT o.dst s ts) k1 (a.put o.dst v) → next (a.put o.dst v) w') : wpOpIn (wideF rd) n P all.toArray Q i next a w := by
  unfold wpOpIn
  cases hst with
  | ev hg hev =>
    have hw := wanted_of (all := all) hS.slot hg
    simp only [hi, hw, if_true]
    exact evs_sound hTT hev hS.went.mem hS.val (fun v w' β' fp' hW hd => hn v w' β' fp' ((hS.on hW).put _ hd))
  | skip hg =>
    have hw := wanted_of (all := all) hS.slot hg
    simp only [hi, hw, Bool.false_eq_true, if_false]
    exact ⟨fun _ _ => trivial, hn _ w β fp (hS.put _ (.v _))⟩

section
variable {P : Program} {TT : Nat → Option TI} {B : Bs} {rd : Option Nat} {n : Nat} {Q : Exit → Act → World → Prop}
  {all : List Oper} {hs : List Bool} {S : Nat → SV} {T : Nat → List SV} {κ : Nat → List KB}

def Way (P : Program) (TT : Nat → Option TI) (all : List Oper) (hs : List Bool) (S : Nat → SV) (T : Nat → List SV) (κ : Nat → List KB) : Prop :=
  ∀ (p : Nat) (o : Oper) (h : Bool), all[p]? = some o → hs[p]? = some h → ∃ tr, Ref (T p) tr ∧ Stp P TT all tr (κ p) o h (S p) (κ (p + 1)) ∧ T (p + 1) = putT o.dst (S p) tr

def dst (all : List Oper) (i : Nat) : Option Tmp := (all[i]?).bind (·.dst)

/-- Where it stands: the stretch from m to h, of which some are done. -/
structure Inv (B : Bs) (all : List Oper) (hs : List Bool) (S : Nat → SV) (T : Nat → List SV) (κ : Nat → List KB) (m h : Nat) (listed : Array Bool) (a : Act) (w : World) : Prop where
  sz : listed.size = all.length
  low : ∀ i, i < m → listed.getD i false = true
  mh : m ≤ h
  hN : h ≤ all.length
  soft : ∀ i, m ≤ i → i < h → hs[i]? = some false
  stop : h = all.length ∨ hs[h]? = some true
  high : ∀ i, h ≤ i → listed.getD i false = false
  cl : ∀ (j : Nat) (o : Oper) (e : Edge), all[j]? = some o → listed.getD j false = true → e ∈ o.after → Region.binds .any e = true → listed.getD e.on false = true
  st : ∃ β fp, Sat B w β fp (sg (dst all) S (fun i => listed.getD i false) (T m) m (h - m)) (κ h) a ∧ ∀ j, m ≤ j → j < h → listed.getD j false = false → ∀ p, (κ j).length ≤ p → p < (κ (j + 1)).length → β p = none

theorem Stp.adds {ts : List SV} {ks k1 : List KB} {o : Oper} {s : SV} (h : Stp P TT all ts ks o false s k1) : ∃ l, k1 = ks ++ l ∧ l.length ≤ 1 ∧ ∀ k ∈ l, isArena k = false := by
  generalize hnot : (fun k : KB => isArena k = false) = NA
  show ∃ l, k1 = ks ++ l ∧ l.length ≤ 1 ∧ ∀ k ∈ l, (fun k : KB => isArena k = false) k
  rw [hnot]
  generalize hb : false = b at h
  cases h with
  | skip => exact ⟨[], by simp⟩
  | ev hg hev =>
    cases hev with
    | pure => exact ⟨[], by simp⟩
    | app => exact ⟨[], by simp⟩
    | mem _ _ hc hm hev =>
      have hf : isFresh o.op = true := by
        unfold hardOf at hb
        split at hb
        · assumption
        · cases hb
      obtain ⟨k, rfl, hk⟩ := fresh_next hf hev
      exact ⟨[k], rfl, by simp, fun k' hk' => by rw [← hnot]; simp at hk'; subst hk'; exact hk⟩
    | call g args tys _ _ _ ho hev =>
      subst hb
      exact ⟨[], by rw [cev_false hev]; simp, by simp, by simp⟩

theorem way_adds (hw : Way P TT all hs S T κ) (hl : hs.length = all.length) {m h : Nat} (hN : h ≤ all.length) (soft : ∀ i, m ≤ i → i < h → hs[i]? = some false) : ∀ k j, m ≤ j → j + k ≤ h → ∃ l, κ (j + k) = κ j ++ l ∧ ∀ k ∈ l, isArena k = false := by
  intro k
  induction k with
  | zero => intro j _ _; exact ⟨[], by simp, by simp⟩
  | succ k ih =>
    intro j hj hk
    obtain ⟨l, hl', hna⟩ := ih j hj (by omega)
    have hlt : j + k < all.length := by omega
    obtain ⟨tr, _, hst, _⟩ := hw (j + k) _ false (List.getElem?_eq_getElem hlt) (soft (j + k) (by omega) (by omega))
    obtain ⟨l2, e2, _, hnb⟩ := hst.adds
    exact ⟨l ++ l2, by rw [← Nat.add_assoc, e2, hl']; simp, fun k hk => (List.mem_append.1 hk).elim (hna k) (hnb k)⟩

theorem way_ref (hw : Way P TT all hs S T κ) (hl : hs.length = all.length) (m : Nat) : ∀ k, m + k ≤ all.length → Ref (sg (dst all) S (fun _ => true) (T m) m k) (T (m + k)) := by
  intro k
  induction k with
  | zero => intro _; exact Ref.refl _
  | succ k ih =>
    intro hk
    have hlt : m + k < all.length := by omega
    obtain ⟨tr, hr, _, e⟩ := hw (m + k) _ _ (List.getElem?_eq_getElem hlt) (List.getElem?_eq_getElem (by omega))
    rw [← Nat.add_assoc, e]
    have : dst all (m + k) = all[m + k].dst := by simp [dst, hlt]
    simp only [sg, if_true, this]
    exact ((ih (by omega)).trans hr).put _ _

theorem sg_congr {D : Nat → Option Tmp} {S : Nat → SV} {E E' : Nat → Bool} {ts : List SV} {m : Nat} : ∀ k, (∀ i, m ≤ i → i < m + k → E i = E' i) → sg D S E ts m k = sg D S E' ts m k := by
  intro k
  induction k with
  | zero => intro _; rfl
  | succ k ih =>
    intro h
    simp only [sg, h (m + k) (by omega) (by omega), ih (fun i a b => h i a (by omega))]
theorem sg_none {D : Nat → Option Tmp} {S : Nat → SV} {E : Nat → Bool} {ts : List SV} {m : Nat} : ∀ k, (∀ i, m ≤ i → i < m + k → E i = false) → sg D S E ts m k = ts := by
  intro k
  induction k with
  | zero => intro _; rfl
  | succ k ih =>
    intro h
    simp [sg, h (m + k) (by omega) (by omega), ih (fun i a b => h i a (by omega))]

theorem segEnd (hl : hs.length = all.length) : ∀ (k m : Nat), m + k = all.length → ∃ h, m ≤ h ∧ h ≤ all.length ∧ (∀ i, m ≤ i → i < h → hs[i]? = some false) ∧ (h = all.length ∨ hs[h]? = some true) := by
  intro k
  induction k with
  | zero => intro m hm; exact ⟨m, Nat.le_refl _, by omega, fun i a b => by omega, .inl (by omega)⟩
  | succ k ih =>
    intro m hm
    have hlt : m < hs.length := by omega
    cases hb : hs[m]'hlt with
    | true => exact ⟨m, Nat.le_refl _, by omega, fun i a b => by omega, .inr (by rw [List.getElem?_eq_getElem hlt, hb])⟩
    | false =>
      obtain ⟨h, a, b, c, d⟩ := ih (m + 1) (by omega)
      refine ⟨h, by omega, b, fun i hi hi' => ?_, d⟩
      by_cases e : i = m
      · subst e; rw [List.getElem?_eq_getElem hlt, hb]
      · exact c i (by omega) hi'

theorem Inv.start (hw : Way P TT all hs S T κ) (hdr : DrawOk all hs) {m : Nat} (hm : m ≤ all.length) {listed : Array Bool} (hsz : listed.size = all.length) (hE : ∀ i, i < all.length → (listed.getD i false = true ↔ i < m)) {a : Act} {w : World} {β : Env} {fp : Nat → Nat → Prop}
    (hS : Sat B w β fp (T m) (κ m) a) : ∃ h, Inv B all hs S T κ m h listed a w := by
  obtain ⟨h, h1, h2, h3, h4⟩ := segEnd hdr.len (all.length - m) m (by omega)
  have hF : ∀ i, m ≤ i → listed.getD i false = false := fun i hi => by
    by_cases hil : i < all.length
    · cases hb : listed.getD i false with
      | false => rfl
      | true => have := (hE i hil).1 hb; omega
    · simp [Array.getD, hsz, hil]
  obtain ⟨l, hl, hla⟩ := way_adds hw hdr.len h2 h3 (h - m) m (Nat.le_refl _) (by omega)
  rw [show m + (h - m) = h from by omega] at hl
  have hn : ∀ p, (κ m).length ≤ p → β p = none := hS.went.mem.kl
  have hS' := hS.moreTo l hla
  rw [← hl] at hS'
  refine ⟨h, hsz, fun i hi => (hE i (by omega)).2 hi, h1, h2, h3, h4, fun i hi => hF i (by omega), fun j o e hj hEj he hb => ?_, ⟨β, fp, ?_, fun j hj hjh hEj p hp hp' => ?_⟩⟩
  · have hjl : j < all.length := (List.getElem?_eq_some_iff.1 hj).1
    have := (hE j hjl).1 hEj
    have := hdr.on j o e hj he hb
    exact (hE e.on (by omega)).2 (by omega)
  · rw [sg_none _ (fun i a _ => hF i a)]; exact hS'
  · obtain ⟨l1, e1, _⟩ := way_adds hw hdr.len h2 h3 (j - m) m (Nat.le_refl _) (by omega)
    obtain ⟨l2, e2, _⟩ := way_adds hw hdr.len h2 h3 (h - (j + 1)) (j + 1) (by omega) (by omega)
    rw [show m + (j - m) = j from by omega] at e1
    rw [show j + 1 + (h - (j + 1)) = h from by omega] at e2
    exact hn p (by rw [e1] at hp; simp at hp; omega)

theorem wt_listed {listed : Array Bool} (cl : ∀ (j : Nat) (o : Oper) (e : Edge), all[j]? = some o → listed.getD j false = true → e ∈ o.after → Region.binds .any e = true → listed.getD e.on false = true) {j i : Nat} (h : Wt all j i) :
    (∀ o e, all[j]? = some o → e ∈ o.after → Region.binds .any e = true → listed.getD e.on false = true) → listed.getD i false = true := by
  have hc : ∀ {j i}, Wt all j i → listed.getD j false = true → listed.getD i false = true := fun {j i} h => by
    induction h with
    | edge ho he hb hi => intro hj; exact hi ▸ cl _ _ _ ho hj he hb
    | trans _ _ ih1 ih2 => intro hj; exact ih2 (ih1 hj)
  induction h with
  | edge ho he hb hi => intro hr; exact hi ▸ hr _ _ ho he hb
  | trans h1 h2 ih1 _ => intro hr; exact hc h2 (ih1 hr)
theorem wt_closed {listed : Array Bool} (cl : ∀ (j : Nat) (o : Oper) (e : Edge), all[j]? = some o → listed.getD j false = true → e ∈ o.after → Region.binds .any e = true → listed.getD e.on false = true) {j i : Nat} (h : Wt all j i) (hj : listed.getD j false = true) : listed.getD i false = true :=
  wt_listed cl h (fun o e ho he hb => cl j o e ho hj he hb)

theorem offDst_look {d : Option Tmp} {l : List Nat} {t : Nat} (h : offDst d l = true) (hd : d = some t) (ht : memN t l = true) : False := by
  subst hd
  simp [offDst, ht] at h

/-- The slots that the next operation looks at are as they are in the order of the text. -/
theorem Inv.slots {m h j : Nat} {listed : Array Bool} {a : Act} {w : World} (hw : Way P TT all hs S T κ) (hdr : DrawOk all hs) (hI : Inv B all hs S T κ m h listed a w) {o : Oper} (ho : all[j]? = some o) (hmj : m ≤ j) (hjh : j < h) (hEj : listed.getD j false = false)
    (hrd : ∀ e ∈ o.after, Region.binds .any e = true → listed.getD e.on false = true) {tr : List SV} (hr : Ref (T j) tr) {t : Nat} (ht : memN t (looks all o) = true) {s' : SV} (hs' : tr[t]? = some s') :
    ∃ s, (sg (dst all) S (fun i => listed.getD i false) (T m) m (h - m))[t]? = some s ∧ RefV s s' := by
  have hjN : j < all.length := (List.getElem?_eq_some_iff.1 ho).1
  have hWj : ∀ i, Wt all j i → listed.getD i false = true := fun i hi => wt_listed hI.cl hi (fun o' e ho' he hb => by
    rw [ho] at ho'; obtain rfl := Option.some.inj ho'; exact hrd e he hb)
  have h1 := (way_ref hw hdr.len m (j - m) (by omega)).trans (by rw [show m + (j - m) = j from by omega]; exact hr)
  obtain ⟨s, hs1, hrv⟩ := h1.2 t s' hs'
  have htl : t < (T m).length := by
    have := (List.getElem?_eq_some_iff.1 hs1).1
    rwa [sg_length] at this
  refine ⟨s, ?_, hrv⟩
  have uniq : ∀ i i', m ≤ i → i < h → m ≤ i' → i' < h → dst all i = some t → dst all i' = some t → i = i' := by
    have one : ∀ i i', m ≤ i → i < i' → i' < h → dst all i = some t → dst all i' = some t → False := fun i i' a b c d e => by
      have hi' : i' < all.length := by have := hI.hN; omega
      have := (hdr.pair i i' _ _ b (List.getElem?_eq_getElem (by omega)) (List.getElem?_eq_getElem hi') (hI.soft i' (by omega) c) (fun q hq hq' => hI.soft q (by omega) (by omega))).1
      simp only [dst, List.getElem?_eq_getElem hi', List.getElem?_eq_getElem (show i < all.length by omega), Option.bind_some] at d e
      rw [d, e] at this
      simp [sameDst, Nat.beq_refl] at this
    intro i i' a b c d e f
    rcases Nat.lt_trichotomy i i' with h | h | h
    · exact (one i i' a h d e f).elim
    · exact h
    · exact (one i' i c h b f e).elim
  by_cases hex : ∃ i, m ≤ i ∧ i < h ∧ dst all i = some t
  · obtain ⟨i, a1, a2, a3⟩ := hex
    have hiN : i < all.length := by have := hI.hN; omega
    have hdi : all[i].dst = some t := by simpa [dst, hiN] using a3
    rcases Nat.lt_trichotomy i j with hij | hij | hij
    · -- written by one ahead
      have hp := (hdr.pair i j _ o hij (List.getElem?_eq_getElem hiN) ho (hI.soft j hmj hjh) (fun q hq hq' => hI.soft q (by omega) (by omega))).2
      have hEi : listed.getD i false = true := by
        rcases hp with hp | hp
        · exact hWj i hp
        · exfalso
          unfold apart at hp
          split at hp
          · rename_i hoff; exact offDst_look hoff hdi ht
          · cases hp
      rw [sg_on (j - m) t i a1 (by omega) rfl a3 htl (fun i' b1 b2 b3 => uniq i' i b1 (by omega) a1 a2 b3 a3)] at hs1
      rw [sg_on (h - m) t i a1 (by omega) hEi a3 htl (fun i' b1 b2 b3 => uniq i' i b1 (by omega) a1 a2 b3 a3)]
      exact hs1
    · subst hij
      rw [sg_off (i - m) t (fun i' b1 b2 _ b3 => by have := uniq i' i b1 (by omega) a1 a2 b3 a3; omega)] at hs1
      rw [sg_off (h - m) t (fun i' b1 b2 b4 b3 => by have := uniq i' i b1 (by omega) a1 a2 b3 a3; subst this; rw [hEj] at b4; cases b4)]
      exact hs1
    · have hp := (hdr.pair j i o _ hij ho (List.getElem?_eq_getElem hiN) (hI.soft i a1 a2) (fun q hq hq' => hI.soft q (by omega) (by omega))).2
      have hEi : listed.getD i false = false := by
        rcases hp with hp | hp
        · cases hb : listed.getD i false with
          | false => rfl
          | true => have := wt_closed hI.cl hp hb; rw [hEj] at this; cases this
        · exfalso
          unfold apart at hp
          split at hp
          · exact offDst_look hp hdi ht
          · cases hp
      rw [sg_off (j - m) t (fun i' b1 b2 _ b3 => by have := uniq i' i b1 (by omega) a1 a2 b3 a3; omega)] at hs1
      rw [sg_off (h - m) t (fun i' b1 b2 b4 b3 => by have := uniq i' i b1 (by omega) a1 a2 b3 a3; subst this; rw [hEi] at b4; cases b4)]
      exact hs1
  · rw [sg_off (j - m) t (fun i' b1 b2 _ b3 => hex ⟨i', b1, by omega, b3⟩)] at hs1
    rw [sg_off (h - m) t (fun i' b1 b2 _ b3 => hex ⟨i', b1, by omega, b3⟩)]
    exact hs1

theorem getD_set (l : Array Bool) (j i : Nat) (hj : j < l.size) : (l.setIfInBounds j true).getD i false = (l.getD i false || decide (i = j)) := by
  simp only [Array.getD_eq_getD_getElem?, Array.getElem?_setIfInBounds]
  by_cases e : j = i
  · subst e; simp [hj]
  · rw [if_neg e]; simp [Ne.symm e]

/-- One operation of the stretch, done when it is picked. -/
theorem Inv.next {m h j : Nat} {listed : Array Bool} {a : Act} {w : World} (hTT : TTok P TT) (hw : Way P TT all hs S T κ) (hdr : DrawOk all hs) (hI : Inv B all hs S T κ m h listed a w) {o : Oper} (ho : all[j]? = some o) (hmj : m ≤ j) (hjh : j < h) (hEj : listed.getD j false = false)
    (hrd : ∀ e ∈ o.after, Region.binds .any e = true → listed.getD e.on false = true) {K : Act → World → Prop} (hK : ∀ a' w', Inv B all hs S T κ m h (listed.setIfInBounds j true) a' w' → K a' w') : wpOpIn (wideF rd) n P all.toArray Q j K a w := by
  have hjN : j < all.length := (List.getElem?_eq_some_iff.1 ho).1
  have hjs : j < listed.size := by rw [hI.sz]; exact hjN
  have hsj := hI.soft j hmj hjh
  obtain ⟨tr, hr, hst, hT⟩ := hw j o false ho hsj
  obtain ⟨β, fp, hS, hnone⟩ := hI.st
  have hdj : dst all j = o.dst := by simp [dst, ho]
  -- the masked state
  have slot : ∀ t, Den w (Mx B.X fp) β (getT (mask (looks all o) tr) t) (a.tmps.getD t undef) := fun t => by
    rw [mask_get]
    split
    · rename_i ht
      rw [getT_eq]
      cases hs' : tr[t]? with
      | none => exact .any _
      | some s' =>
        obtain ⟨s, e, hrv⟩ := hI.slots hw hdr ho hmj hjh hEj hrd hr ht hs'
        have := hS.val (.tmp t)
        simp only [Go.Eng.val, Act.eval, getT_eq, e] at this
        exact hrv.den this
    · exact .any _
  have hval : ∀ x, Den w (Mx B.X fp) β (val (mask (looks all o) tr) x) (a.eval x) := fun x => by
    cases x with
    | tmp t => exact slot t
    | _ =>
      have := hS.val
      first | exact this (.const _) | exact this (.func _) | exact this (.global _)
  have hk : ∀ (i : Nat) (k : KB), (κ j)[i]? = some k → (κ h)[i]? = some k := fun i k hk => by
    obtain ⟨l, e, _⟩ := way_adds hw hdr.len hI.hN hI.soft (h - j) j hmj (by omega)
    rw [show j + (h - j) = h from by omega] at e
    rw [e, List.getElem?_append_left (List.getElem?_eq_some_iff.1 hk).1]; exact hk
  have hM0 : Mem0 B.X w β fp (κ j) := { hS.went.mem.toMem0 with kb := fun i L k hki hne hL => hS.went.mem.kb i L k (hk i k hki) hne hL }
  have hset : sg (dst all) S (fun i => (listed.setIfInBounds j true).getD i false) (T m) m (h - m) = putT o.dst (S j) (sg (dst all) S (fun i => listed.getD i false) (T m) m (h - m)) := by
    rw [← hdj]
    refine sg_set (h - m) j hmj (by omega) hEj (fun i => getD_set listed j i hjs) (fun i i' t a b c d e f => ?_)
    have one : ∀ i i', m ≤ i → i < i' → i' < h → dst all i = some t → dst all i' = some t → False := fun i i' a b c d e => by
      have hi' : i' < all.length := by have := hI.hN; omega
      have := (hdr.pair i i' _ _ b (List.getElem?_eq_getElem (by omega)) (List.getElem?_eq_getElem hi') (hI.soft i' (by omega) c) (fun q hq hq' => hI.soft q (by omega) (by omega))).1
      simp only [dst, List.getElem?_eq_getElem hi', List.getElem?_eq_getElem (show i < all.length by omega), Option.bind_some] at d e
      rw [d, e] at this
      simp [sameDst, Nat.beq_refl] at this
    rcases Nat.lt_trichotomy i i' with hh | hh | hh
    · exact (one i i' a hh (by omega) e f).elim
    · exact hh
    · exact (one i' i c hh (by omega) f e).elim
  have build : ∀ (v : Value) (w' : World) (β' : Env) (fp' : Nat → Nat → Prop), Went B.X w β fp w' β' fp' (κ h) → Den w' (Mx B.X fp') β' (S j) v →
      (∀ i, m ≤ i → i < h → i ≠ j → listed.getD i false = false → ∀ p, (κ i).length ≤ p → p < (κ (i + 1)).length → β' p = none) → Inv B all hs S T κ m h (listed.setIfInBounds j true) (a.put o.dst v) w' := by
    intro v w' β' fp' hW hd hn
    have hS' := hS.on hW
    refine ⟨by simp [hI.sz], fun i hi => by rw [getD_set _ _ _ hjs, hI.low i hi]; rfl, hI.mh, hI.hN, hI.soft, hI.stop, fun i hi => by rw [getD_set _ _ _ hjs, hI.high i hi]; simp; omega, fun i o' e ho' hi he hb => ?_, ⟨β', fp', ?_, fun i a1 a2 a3 => ?_⟩⟩
    · rw [getD_set _ _ _ hjs] at hi ⊢
      by_cases hij : i = j
      · subst hij
        rw [ho] at ho'
        obtain rfl := Option.some.inj ho'
        rw [hrd e he hb]; rfl
      · rw [hI.cl i o' e ho' (by simpa [hij] using hi) he hb]; rfl
    · rw [hset]; exact hS'.put _ hd
    · rw [getD_set _ _ _ hjs] at a3
      simp only [Bool.or_eq_false_iff, decide_eq_false_iff_not] at a3
      exact hn i a1 a2 a3.2 a3.1
  have hi : all.toArray[j]? = some o := by simpa using ho
  unfold wpOpIn
  generalize hb : false = b at hst
  generalize hk1 : κ (j + 1) = k1 at hst
  generalize hsj' : S j = sj at hst build
  cases hst with
  | skip hg =>
    have hw' := wanted_of (B := B) (β := β) (fp := fp) (w := w) (a := a) (all := all) (ts := mask (looks all o) tr) (fun t s hs _ => hs ▸ slot t) (mask_guard.trans hg)
    simp only [hi, hw', Bool.false_eq_true, if_false]
    exact ⟨fun _ _ => trivial, hK _ _ (build undef w β fp (Went.refl hS.went.mem) (.v _) (fun i a1 a2 _ a3 => hnone i a1 a2 a3))⟩
  | ev hg hev =>
    have hw' := wanted_of (B := B) (β := β) (fp := fp) (w := w) (a := a) (all := all) (ts := mask (looks all o) tr) (fun t s hs _ => hs ▸ slot t) (mask_guard.trans hg)
    simp only [hi, hw', if_true]
    cases hev with
    | pure _ hc hm hev =>
      rw [pev_agree (mask_val (all := all))] at hev
      obtain ⟨s', v, hK', hrun, hd⟩ := pev_sound hTT hev hval hM0.kb' hM0.apart
      subst hK'
      exact wpIn_of_run (nodefer_pev hev) hrun (hK _ _ (build v w β fp (Went.refl hS.went.mem) hd (fun i a1 a2 _ a3 => hnone i a1 a2 a3)))
    | app _ hev =>
      have hag : ∀ x ∈ o.op.operands, val tr x = val (mask (looks all o) tr) x := mask_val (all := all)
      rw [appDK_agree hag] at hev
      obtain ⟨d, v, w', hK', hrun, hst', hd⟩ := appD_ok hTT hev hM0.mlt hval
      refine wpIn_of_run (fun c hc => ?_) hrun (hK _ _ (build v w' β fp (hS.went.mem.quiet hst') (hK' ▸ hd) (fun i a1 a2 _ a3 => hnone i a1 a2 a3)))
      unfold appDK at hev
      rw [hc] at hev
      exact hev
    | call g args tys _ _ _ hop hev =>
      subst hb
      have hag : ∀ x ∈ (Op.call ⟨.value g, args, tys⟩).operands, val tr x = val (mask (looks all o) tr) x := fun x hx => mask_val (all := all) x (by rw [hop]; exact hx)
      rw [cev_agree hag] at hev
      refine cevFree_sound hTT hop hev (fun s k e => by cases (Prod.mk.inj e).1) hM0 hval (fun s k v w' hs' hst hden => ?_)
      obtain ⟨_, he⟩ := Prod.mk.inj hs'
      obtain ⟨rfl, rfl⟩ := Prod.mk.inj he
      exact hK _ _ (build v w' β fp (hS.went.mem.quiet hst) hden (fun i a1 a2 _ a3 => hnone i a1 a2 a3))
    | mem _ _ hc hm hev =>
      have hf : isFresh o.op = true := by
        unfold hardOf at hb
        split at hb
        · assumption
        · cases hb
      obtain ⟨k, ek, _⟩ := fresh_next hf hev
      rw [mev_agree hf (mask_val (all := all))] at hev
      obtain ⟨ob, L, k', s0, v, w1, hKs, hrun, hst1, hsz1, hLb, hkb, hden⟩ := fresh_ok (M := Mx B.X fp) (β := β) hTT hf hev hM0.mlt hval
      obtain ⟨rfl, rfl⟩ := Prod.mk.inj hKs
      have hlen : (κ (j + 1)).length = (κ j).length + 1 := by rw [hk1]; simp
      have hnn : β (κ j).length = none := hnone j hmj hjh hEj _ (Nat.le_refl _) (by omega)
      have hkh : (κ h)[(κ j).length]? = some k' := by
        obtain ⟨l, e, _⟩ := way_adds hw hdr.len hI.hN hI.soft (h - (j + 1)) (j + 1) (by omega) (by omega)
        rw [show j + 1 + (h - (j + 1)) = h from by omega, hk1] at e
        rw [e, List.getElem?_append_left (by simp)]; simp
      have hW := hS.went.mem.fill hst1 hsz1 hnn hkh ob L hLb hkb
      refine wpIn_of_run (fun c hc' => by rw [hc'] at hf; simp [isFresh] at hf) hrun (hK _ _ (build v _ _ _ hW (hden _ _ _ (upd_same _ _ _)) (fun i a1 a2 a4 a3 p hp hp' => ?_)))
      have hpj : p ≠ (κ j).length := fun e => by
        rcases Nat.lt_or_ge i j with hij | hij
        · obtain ⟨l, e1, _⟩ := way_adds hw hdr.len hI.hN hI.soft (j - (i + 1)) (i + 1) (by omega) (by omega)
          rw [show i + 1 + (j - (i + 1)) = j from by omega] at e1
          rw [e, e1] at hp'
          simp at hp'
          omega
        · obtain ⟨l, e1, _⟩ := way_adds hw hdr.len hI.hN hI.soft (i - (j + 1)) (j + 1) (by omega) (by omega)
          rw [show j + 1 + (i - (j + 1)) = i from by omega] at e1
          rw [e1] at hp
          simp at hp
          omega
      rw [upd_other _ _ hpj]
      exact hnone i a1 a2 a3 p hp hp'

theorem Inv.full {m h : Nat} {listed : Array Bool} {a : Act} {w : World} (hw : Way P TT all hs S T κ) (hdr : DrawOk all hs) (hI : Inv B all hs S T κ m h listed a w) (hE : ∀ i, i < h → listed.getD i false = true) : ∃ β fp, Sat B w β fp (T h) (κ h) a := by
  obtain ⟨β, fp, hS, _⟩ := hI.st
  have h1 := way_ref hw hdr.len m (h - m) (by have := hI.hN; have := hI.mh; omega)
  rw [show m + (h - m) = h from by have := hI.mh; omega] at h1
  rw [sg_congr (E' := fun _ => true) (h - m) (fun i a b => hE i (by omega))] at hS
  exact ⟨β, fp, hS.ref h1⟩

theorem any_order (hTT : TTok P TT) (hw : Way P TT all hs S T κ) (hdr : DrawOk all hs) (hQ : ∀ a w β fp, Sat B w β fp (T all.length) (κ all.length) a → Q .normal a w) :
    ∀ (fuel : Nat) (listed : Array Bool) (a : Act) (w : World) (m h : Nat) (l : List Nat), Inv B all hs S T κ m h listed a w → (∀ i, i < all.length → listed.getD i false = false → i ∈ l) → l.length ≤ fuel → wpAnyIn (wideF rd) n P .any all.toArray Q fuel listed a w := by
  have fin : ∀ (listed : Array Bool) (a : Act) (w : World) (m h : Nat), Inv B all hs S T κ m h listed a w → (∀ i, i < all.length → listed.getD i false = true) → Q .normal a w := by
    intro listed a w m h hI hall
    have hh : h = all.length := by
      rcases hI.stop with e | e
      · exact e
      · have hlt : h < all.length := by rw [← hdr.len]; exact (List.getElem?_eq_some_iff.1 e).1
        have := hI.high h (Nat.le_refl _)
        rw [hall h hlt] at this
        cases this
    obtain ⟨β, fp, hS⟩ := hI.full hw hdr (fun i hi => hall i (by have := hI.hN; omega))
    rw [hh] at hS
    exact hQ a w β fp hS
  intro fuel
  induction fuel with
  | zero =>
    intro listed a w m h l hI hl hlen
    have hnil : l = [] := List.eq_nil_of_length_eq_zero (by omega)
    have hall : ∀ i, i < all.length → listed.getD i false = true := fun i hi => by
      cases hb : listed.getD i false with
      | true => rfl
      | false => have := hl i hi hb; rw [hnil] at this; cases this
    refine ⟨?_, fin listed a w m h hI hall⟩
    refine List.eq_nil_iff_forall_not_mem.2 (fun j hj => ?_)
    obtain ⟨h0, o, ho, _⟩ := mem_ready.1 hj
    have hjl : j < all.length := by simpa using (Array.getElem?_eq_some_iff.1 ho).1
    have := hall j hjl
    have hjs : j < listed.size := by rw [hI.sz]; exact hjl
    simp [hjs] at h0 this
    rw [h0] at this; cases this
  | succ fuel ih =>
    intro listed a w m h l hI hl hlen
    refine ⟨fun hnil => fin listed a w m h hI (fun i hi => ?_), fun j hj => ?_⟩
    · -- none is ready: all are done
      induction i using Nat.strongRecOn with
      | _ i ihi =>
        cases hb : listed.getD i false with
        | true => rfl
        | false =>
          exfalso
          have his : i < listed.size := by rw [hI.sz]; exact hi
          have : i ∈ Region.ready .any all.toArray listed := mem_ready.2 ⟨by simpa [his] using hb, all[i], by simp [hi], fun e he hbd => by
            have := hdr.on i _ e (List.getElem?_eq_getElem hi) he hbd
            exact ihi e.on this (by omega)⟩
          rw [hnil] at this
          cases this
    · obtain ⟨h0, o, ho, hrd⟩ := mem_ready.1 hj
      have ho : all[j]? = some o := by simpa using ho
      have hjl : j < all.length := (List.getElem?_eq_some_iff.1 ho).1
      have hjs : j < listed.size := by rw [hI.sz]; exact hjl
      have hEj : listed.getD j false = false := by simpa [hjs] using h0
      have hmj : m ≤ j := by
        rcases Nat.lt_or_ge j m with h' | h'
        · rw [hI.low j h'] at hEj; cases hEj
        · exact h'
      have hWj : ∀ i, Wt all j i → listed.getD i false = true := fun i hi => wt_listed hI.cl hi (fun o' e ho' he hb => by
        rw [ho] at ho'; obtain rfl := Option.some.inj ho'; exact hrd e he hb)
      have hl' : ∀ i, i < all.length → (listed.setIfInBounds j true).getD i false = false → i ∈ l.erase j := fun i hi hE => by
        rw [getD_set _ _ _ hjs] at hE
        simp only [Bool.or_eq_false_iff, decide_eq_false_iff_not] at hE
        exact (List.mem_erase_of_ne hE.2).2 (hl i hi hE.1)
      have hlen' : (l.erase j).length ≤ fuel := by
        rw [List.length_erase_of_mem (hl j hjl hEj)]; omega
      rcases Nat.lt_trichotomy j h with hjh | hjh | hjh
      · exact hI.next hTT hw hdr ho hmj hjh hEj hrd (fun a' w' hI' => ih _ a' w' m h _ hI' hl' hlen')
      · subst hjh
        have hst : hs[j]? = some true := hI.stop.resolve_left (by omega)
        have hE : ∀ i, i < j → listed.getD i false = true := fun i hi => hWj i (hdr.first j i hst hi)
        obtain ⟨β, fp, hS⟩ := hI.full hw hdr hE
        obtain ⟨tr, hr, hstp, hT⟩ := hw j o true ho hst
        refine stp_sound hTT hstp (by simpa using ho) (hS.ref hr) (fun v w' β' fp' hS' => ?_)
        rw [← hT] at hS'
        obtain ⟨h', hI'⟩ := Inv.start hw hdr (m := j + 1) (by omega) (listed := listed.setIfInBounds j true) (by simp [hI.sz]) (fun i hi => by
          rw [getD_set _ _ _ hjs]
          simp only [Bool.or_eq_true, decide_eq_true_eq]
          constructor
          · rintro (h1 | h1)
            · rcases Nat.lt_or_ge i (j + 1) with h2 | h2
              · exact h2
              · rw [hI.high i (by omega)] at h1; cases h1
            · omega
          · intro h1
            by_cases e : i = j
            · exact .inr e
            · exact .inl (hE i (by omega))) hS'
        exact ih _ _ _ _ _ _ hI' hl' hlen'
      · exfalso
        have hst : hs[h]? = some true := hI.stop.resolve_left (by omega)
        have := hWj h (hdr.past h j hst hjh hjl)
        rw [hI.high h (Nat.le_refl _)] at this
        cases this
end

section
variable {P : Program} {TT : Nat → Option TI} {B : Bs} {w : World} {β : Env} {fp : Nat → Nat → Prop} {ts : List SV} {ks : List KB} {a : Act} {rd : Option Nat} {n : Nat} {Q : Exit → Act → World → Prop}
theorem region_draw (hTT : TTok P TT) (hmix : P.follows .mixedOrders = true) {ops : Array Oper} {hs : List Bool} (hdr : drawOk ops.toList hs = true) {id : Nat} {ts' : List SV} {ks' : List KB} (h : Tr P TT ops.toList ops.toList ts ks ts' ks' hs) (hS : Sat B w β fp ts ks a)
    (hQ : ∀ a' w' β' fp', Sat B w' β' fp' ts' ks' a' → Q .normal a' w') : (Code.region id ops true).wpIn (wideF rd) n P Q a w := by
  obtain ⟨S, T, κ, e1, e2, e3, e4, e5, hw⟩ := h.places
  have hdr := drawOk_ok hdr
  refine wpIn_region_any hmix ?_
  have hS0 : Sat B { w with drawn := w.drawn + 1 } β fp (T 0) (κ 0) a := by
    rw [e1, e2]
    exact hS.on (hS.went.mem.quiet ⟨rfl, rfl, rfl, Nat.le_refl _, fun _ _ _ => rfl⟩)
  obtain ⟨h', hI⟩ := Inv.start hw hdr (m := 0) (Nat.zero_le _) (listed := Array.replicate ops.size false) (by simp) (fun i hi => by
    simp at hi; simp [hi]) hS0
  have := any_order (rd := rd) (n := n) (Q := Q) hTT hw hdr (fun a' w' β' fp' hS' => hQ a' w' β' fp' (by rw [← e3, ← e4]; exact hS')) ops.size _ a _ 0 h' (List.range ops.size) hI (fun i hi _ => by simpa using hi) (by simp)
  simpa using this
/-! ### Every order tried -/
theorem atB_eq (l : List Bool) (i : Nat) : atB l i = (l[i]?).getD false := by
  induction l generalizing i with
  | nil => rfl
  | cons a l ih => cases i with
    | zero => rfl
    | succ i => simp [atB, ih]
theorem markB_eq (l : List Bool) (i : Nat) : markB l i = l.set i true := by
  induction l generalizing i with
  | nil => rfl
  | cons a l ih => cases i with
    | zero => rfl
    | succ i => simp [markB, ih]
theorem falses_eq (l : List Oper) : falses l = List.replicate l.length false := by
  induction l with
  | nil => rfl
  | cons a l ih => simp [falses, ih, List.replicate_succ]
theorem allT_eq {l : List Bool} (h : allT l = true) : ∀ i, i < l.length → l[i]? = some true := by
  induction l with
  | nil => intro i hi; simp at hi
  | cons a l ih =>
    intro i hi
    cases a with
    | false => simp [allT] at h
    | true =>
      cases i with
      | zero => rfl
      | succ i => simpa using ih (by simpa [allT] using h) i (by simpa using hi)
theorem edgesB_eq (done : List Bool) (l : List Edge) : edgesB done l = l.all (fun e => !Region.binds .any e || (done[e.on]?).getD false) := by
  induction l with
  | nil => rfl
  | cons e l ih =>
    simp only [edgesB, List.all_cons, ← ih, atB_eq]
    cases Region.binds .any e <;> cases (done[e.on]?).getD false <;> simp
theorem mem_ready {ops : Array Oper} {done : List Bool} (hl : done.length = ops.size) {i : Nat} : i ∈ Region.ready .any ops done.toArray ↔ ∃ o, ops.toList[i]? = some o ∧ atB done i = false ∧ edgesB done o.after.toList = true := by
  unfold Region.ready
  rw [List.mem_filter, List.mem_range]
  have he : ∀ o : Oper, edgesB done o.after.toList = o.after.all (fun e => !Region.binds .any e || done.toArray.getD e.on false) := fun o => by
    rw [edgesB_eq, ← Array.all_toList]
    simp [Array.getD_eq_getD_getElem?]
  constructor
  · rintro ⟨hi, h⟩
    have ho : ops[i]? = some ops[i] := Array.getElem?_eq_getElem hi
    refine ⟨ops[i], by rw [Array.getElem?_toList]; exact ho, ?_, ?_⟩
    · rw [ho] at h
      rw [atB_eq]
      have hd : done[i]? = some (done[i]'(by omega)) := List.getElem?_eq_getElem _
      rw [hd]
      simp [Array.getD_eq_getD_getElem?, hd] at h
      simpa using h.1
    · rw [ho] at h
      rw [he]
      simp only [Option.map_some, Option.getD_some, Bool.and_eq_true] at h
      exact h.2
  · rintro ⟨o, ho, h1, h2⟩
    rw [Array.getElem?_toList] at ho
    have hi : i < ops.size := (Array.getElem?_eq_some_iff.1 ho).1
    refine ⟨hi, ?_⟩
    rw [ho]
    rw [atB_eq] at h1
    have hd : done[i]? = some (done[i]'(by omega)) := List.getElem?_eq_getElem _
    rw [hd] at h1
    simp only [Option.map_some, Option.getD_some, Bool.and_eq_true]
    refine ⟨?_, by rw [← he]; exact h2⟩
    simp only [Option.getD_some] at h1
    simp [Array.getD_eq_getD_getElem?, hd, h1]
theorem eachK_spec {done : List Bool} {F : Nat → Oper → Prop} : ∀ (os : List Oper) (p : Nat), eachK done F p os → ∀ j o, os[j]? = some o → atB done (p + j) = false → edgesB done o.after.toList = true → F (p + j) o := by
  intro os
  induction os with
  | nil => intro p h j o ho; simp at ho
  | cons a os ih =>
    intro p h j o ho h1 h2
    cases j with
    | zero =>
      simp only [List.getElem?_cons_zero, Option.some.injEq] at ho
      subst ho
      simp only [eachK, Nat.add_zero] at h h1
      rw [h1, h2] at h
      exact h.1
    | succ j =>
      have hr : eachK done F (p + 1) os := by
        simp only [eachK] at h
        split at h
        · exact h
        · split at h
          · exact h.2
          · exact h
      have := ih (p + 1) hr j o (by simpa using ho) (by rw [show p + 1 + j = p + (j + 1) from by omega]; exact h1) h2
      rw [show p + (j + 1) = p + 1 + j from by omega]
      exact this
theorem hasReady_spec {done : List Bool} : ∀ (os : List Oper) (p : Nat), hasReady done p os = true → ∃ j o, os[j]? = some o ∧ atB done (p + j) = false ∧ edgesB done o.after.toList = true := by
  intro os
  induction os with
  | nil => intro p h; simp [hasReady] at h
  | cons a os ih =>
    intro p h
    have tail : hasReady done (p + 1) os = true → ∃ j o, (a :: os)[j]? = some o ∧ atB done (p + j) = false ∧ edgesB done o.after.toList = true := fun h => by
      obtain ⟨j, o, h1, h2, h3⟩ := ih (p + 1) h
      exact ⟨j + 1, o, by simpa using h1, by rw [show p + (j + 1) = p + 1 + j from by omega]; exact h2, h3⟩
    simp only [hasReady] at h
    split at h
    · exact tail h
    · rename_i h1
      split at h
      · rename_i h2
        exact ⟨0, a, rfl, h1, h2⟩
      · exact tail h
theorem sched_sound {ops : Array Oper} (hTT : TTok P TT) {K : List SV → List KB → Prop} (hQ : ∀ ts ks a w β fp, K ts ks → Sat B w β fp ts ks a → Q .normal a w) : ∀ (k : Nat) (done : List Bool) (ts : List SV) (ks : List KB) (a : Act) (w : World) (β : Env) (fp : Nat → Nat → Prop), done.length = ops.size → schedK P TT ops.toList K k done ts ks → Sat B w β fp ts ks a → wpAnyIn (wideF rd) n P .any ops Q k done.toArray a w := by
  intro k
  induction k with
  | zero =>
    intro done ts ks a w β fp hl h hS
    simp only [schedK] at h
    split at h
    · rename_i hd
      refine ⟨?_, hQ _ _ _ _ _ _ h hS⟩
      rw [List.eq_nil_iff_forall_not_mem]
      intro i hi
      obtain ⟨o, ho, h1, _⟩ := (mem_ready hl).1 hi
      have : i < ops.toList.length := (List.getElem?_eq_some_iff.1 ho).1
      rw [atB_eq, allT_eq hd i (by simpa [hl] using this)] at h1
      cases h1
    · exact h.elim
  | succ k ih =>
    intro done ts ks a w β fp hl h hS
    simp only [schedK] at h
    split at h
    · rename_i hr
      refine ⟨fun he => ?_, fun i hi => ?_⟩
      · obtain ⟨j, o, h1, h2, h3⟩ := hasReady_spec _ _ hr
        rw [Nat.zero_add] at h2
        have : j ∈ Region.ready .any ops done.toArray := (mem_ready hl).2 ⟨o, h1, h2, h3⟩
        rw [he] at this
        cases this
      · obtain ⟨o, ho, h1, h2⟩ := (mem_ready hl).1 hi
        have hF := eachK_spec _ _ h i o ho (by rw [Nat.zero_add]; exact h1) h2
        rw [Nat.zero_add] at hF
        split at hF
        · rename_i hg
          obtain ⟨hd, s, k1, hev, hk⟩ := exec_ev hF
          have hst : Stp P TT ops.toList ts ks o hd s k1 := .ev (by simp [guardOk, hg]) hev
          have hi' : ops.toList.toArray[i]? = some o := by
            rw [Array.getElem?_toList] at ho
            simpa using ho
          have := stp_sound (rd := rd) (n := n) (Q := Q) (next := wpAnyIn (wideF rd) n P .any ops Q k (done.toArray.setIfInBounds i true)) hTT hst hi' hS (fun v w' β' fp' hS' => by
            have := ih (markB done i) _ _ _ w' β' fp' (by rw [markB_eq]; simpa using hl) hk hS'
            rw [markB_eq] at this
            simpa using this)
          simpa using this
        · exact hF.elim
    · exact h.elim
theorem region_sched (hTT : TTok P TT) (hmix : P.follows .mixedOrders = true) {ops : Array Oper} {id : Nat} {w : World} {β : Env} {fp : Nat → Nat → Prop} {ts ts' : List SV} {ks ks' : List KB} {a : Act} (h : schedK P TT ops.toList (fun t k => t = ts' ∧ k = ks') ops.toList.length (falses ops.toList) ts ks) (hS : Sat B w β fp ts ks a)
    (hQ : ∀ a' w' β' fp', Sat B w' β' fp' ts' ks' a' → Q .normal a' w') : (Code.region id ops true).wpIn (wideF rd) n P Q a w := by
  refine wpIn_region_any hmix ?_
  have hS0 : Sat B { w with drawn := w.drawn + 1 } β fp ts ks a := hS.on (hS.went.mem.quiet ⟨rfl, rfl, rfl, Nat.le_refl _, fun _ _ _ => rfl⟩)
  have := sched_sound (rd := rd) (n := n) (B := B) (Q := Q) hTT (K := fun t k => t = ts' ∧ k = ks') (fun t k a w β fp hk hS => by
    obtain ⟨rfl, rfl⟩ := hk
    exact hQ _ _ _ _ hS) ops.toList.length (falses ops.toList) ts ks a _ β fp (by rw [falses_eq]; simp) h hS0
  rw [falses_eq] at this
  simpa using this
end
end Go.Eng
namespace Go.Eng
open Go Go.RowKit

section
variable {F : Fence} {n : Nat} {P : Program} {Q Q' : Exit → Act → World → Prop} {w : World}

/-- An operation, from another state, towards another one. -/
theorem wpIn_other {o o' : Oper} {a a' : Act} {K K' : Act → World → Prop} (hsem : o.semAt F.round a.eval = o'.semAt F.round a'.eval) (hab : o.about P w a.eval = o'.about P w a'.eval)
    (hq : ∀ e a w, Q' e a w → e = .normal) (hput : ∀ v w', K (a.put o.dst v) w' → K' (a'.put o'.dst v) w') (hdef : ∀ d w', K ({ a with defers := d :: a.defers }.put o.dst undef) w' → K' ({ a' with defers := d :: a'.defers }.put o'.dst undef) w')
    (h : o.wpIn F n P a w K Q') : o'.wpIn F n P a' w K' Q := by
  unfold Oper.wpIn at *
  rw [← hsem, ← hab]
  refine ⟨h.1, ?_⟩
  have hh := h.2
  generalize (o.semAt F.round a.eval).run P w = r at *
  cases r with
  | ok x w' =>
    cases x <;> simp only [Oper.uponIn] at hh ⊢ <;>
      first
        | exact hput _ _ hh
        | exact hdef _ _ hh
        | exact ⟨hh.1, CallsIn.mono hh.2 (fun e w'' he => by
            cases e with
            | returned v => exact hput _ _ he
            | panicked c => exact absurd (hq _ _ _ he) (by intro h; cases h)
            | outgrown => obtain ⟨a0, w0, h0⟩ := he; exact absurd (hq _ _ _ h0) (by intro h; cases h))⟩
        | exact ⟨hh.1, RowsIn.mono hh.2 (fun _ _ he => hput _ _ he)⟩
        | exact ⟨hh.1, RoundIn.mono hh.2 (fun e w'' he => by
            cases e with
            | returned v => exact hput _ _ he
            | panicked c => exact absurd (hq _ _ _ he) (by intro h; cases h)
            | outgrown => obtain ⟨a0, w0, h0⟩ := he; exact absurd (hq _ _ _ h0) (by intro h; cases h))⟩
  | halt x w' =>
    cases x <;> simp only [Oper.uponIn] at hh ⊢ <;> first | exact absurd (hq _ _ _ hh) (by intro h; cases h) | exact hh.elim | exact hh

theorem resolve_congr {ρ ρ' : Operand → Value} {b : Builtin} {args : Array Operand} {tys : Array TypeId} {ty : TypeId} (h : ∀ y ∈ args, ρ y = ρ' y) : resolve ρ ⟨.builtin b, args, tys⟩ ty = resolve ρ' ⟨.builtin b, args, tys⟩ ty := by
  have e : args.map ρ = args.map ρ' := Array.map_congr_left h
  simp only [resolve, e]

theorem exec_congr {ρ ρ' : Operand → Value} {o : Oper} (hi : idleOp o.op = true) (h : ∀ y ∈ o.op.operands, ρ y = ρ' y) : execOp ρ o = execOp ρ' o := by
  obtain ⟨dst, op, ty, after, guard⟩ := o
  replace hi : idleOp op = true := hi
  replace h : ∀ y ∈ op.operands, ρ y = ρ' y := h
  cases op <;> first | cases hi | skip
  case move x => simp only [execOp, h x (by simp [Op.operands])]
  case assign x => simp only [execOp, h x (by simp [Op.operands])]
  case buildSlice t l ps =>
    have e : (ps.map fun p => (p.1, ρ p.2)) = ps.map fun p => (p.1, ρ' p.2) := Array.map_congr_left fun p hp => by
      rw [h p.2 (by simp only [Op.operands]; simp; exact ⟨p.1, by simpa using hp⟩)]
    simp only [execOp]
    exact congrArg (fun z => (do pure (Next.value (← Instr.buildSlice t l z)) : Sem Next)) e
  case load t x => simp only [execOp, h x (by simp [Op.operands])]
  case store t x y => simp only [execOp, h x (by simp [Op.operands]), h y (by simp [Op.operands])]
  case nilCheck x => simp only [execOp, h x (by simp [Op.operands])]
  case fieldAddr s x f => simp only [execOp, h x (by simp [Op.operands])]
  case call c =>
    obtain ⟨cl, args, tys⟩ := c
    cases cl <;> first | cases hi | skip
    rename_i b
    have : resolve ρ ⟨.builtin b, args, tys⟩ ty = resolve ρ' ⟨.builtin b, args, tys⟩ ty := resolve_congr fun y hy => h y (by simp [Op.operands, Call.operands]; exact hy)
    simp only [execOp, this]

theorem sem_congr {ro : Option Nat} {ρ ρ' : Operand → Value} {o : Oper} (hi : idleOp o.op = true) (h : ∀ y ∈ o.op.operands, ρ y = ρ' y) : o.semAt ro ρ = o.semAt ro ρ' := by
  have hnd : ∀ c, o.op ≠ .defer c := fun c e => by rw [e] at hi; cases hi
  rw [Oper.semAt_eq _ _ _ hnd, Oper.semAt_eq _ _ _ hnd]
  exact exec_congr hi h
theorem about_congr {ρ ρ' : Operand → Value} {o : Oper} (hi : idleOp o.op = true) (h : ∀ y ∈ o.op.operands, ρ y = ρ' y) : o.about P w ρ = o.about P w ρ' := by
  obtain ⟨dst, op, ty, after, guard⟩ := o
  replace hi : idleOp op = true := hi
  replace h : ∀ y ∈ op.operands, ρ y = ρ' y := h
  cases op <;> first | rfl | skip
  case call c =>
    obtain ⟨cl, args, tys⟩ := c
    cases cl <;> first | cases hi | skip
    rename_i b
    have : resolve ρ ⟨.builtin b, args, tys⟩ ty = resolve ρ' ⟨.builtin b, args, tys⟩ ty := resolve_congr fun y hy => h y (by simp [Op.operands, Call.operands]; exact hy)
    simp only [Oper.about, this]

theorem eval_put {a : Act} {d : Tmp} {v : Value} {y : Operand} (h : y ≠ .tmp d) : (a.put (some d) v).eval y = a.eval y := by
  cases y with
  | tmp t =>
    have : d ≠ t := fun e => h (by rw [e])
    simp [Act.put, Act.eval, Array.getD_eq_getD_getElem?, Array.getElem?_setIfInBounds, this]
  | const v => rfl
  | global g => rfl
  | func f => rfl
theorem put_comm (a : Act) {d : Tmp} {e : Option Tmp} (h : e ≠ some d) (v u : Value) : (a.put (some d) v).put e u = (a.put e u).put (some d) v := by
  cases e with
  | none => rfl
  | some t =>
    have : t ≠ d := fun e => h (by rw [e])
    simp only [Act.put]
    congr 1
    exact Array.setIfInBounds_comm _ _ (fun e => this e.symm)

/-- What is asked of the region. -/
structure Idle (ops : Array Oper) (o0 : Oper) (d : Tmp) (x : Operand) : Prop where
  at0 : ops[0]? = some o0
  op : o0.op = .move x
  dst : o0.dst = some d
  guard : o0.guard = none
  after : o0.after.toList = []
  rest : ∀ (j : Nat) (o : Oper), j ≠ 0 → ops[j]? = some o → o.guard = none ∧ idleOp o.op = true ∧ o.dst ≠ some d ∧ (∀ t, o.dst = some t → x ≠ .tmp t) ∧ (.tmp d ∈ o.op.operands → ∃ e ∈ o.after, Region.binds .any e = true ∧ e.on = 0)
theorem wanted_none {o : Oper} {y : Nat → Option Bool} (h : o.guard = none) : Region.wanted o y = true := by
  unfold Region.wanted
  rw [h]
variable {ops ops' : Array Oper} {o0 : Oper} {d : Tmp} {x : Operand}
theorem wpOp_plain {i : Nat} {o : Oper} (ho : ops[i]? = some o) (hg : o.guard = none) {K : Act → World → Prop} {a : Act} : wpOpIn F n P ops Q i K a w = o.wpIn F n P a w K Q := by
  unfold wpOpIn
  simp only [ho, wanted_none hg, if_true]
theorem getD_setB (l : Array Bool) (j i : Nat) (hj : j < l.size) : (l.setIfInBounds j true).getD i false = (l.getD i false || decide (i = j)) := getD_set l j i hj
theorem in_ready {ops : Array Oper} {listed : Array Bool} (hl : listed.size = ops.size) {i : Nat} : i ∈ Region.ready .any ops listed ↔ ∃ o, ops[i]? = some o ∧ listed.getD i false = false ∧ (∀ e ∈ o.after, Region.binds .any e = true → listed.getD e.on false = true) := by
  rw [Go.mem_ready]
  constructor
  · rintro ⟨h1, o, ho, h2⟩
    have hi : i < ops.size := (Array.getElem?_eq_some_iff.1 ho).1
    refine ⟨o, ho, ?_, h2⟩
    have : i < listed.size := by omega
    simp [Array.getD_eq_getD_getElem?, this] at h1 ⊢
    exact h1
  · rintro ⟨o, ho, h1, h2⟩
    have hi : i < ops.size := (Array.getElem?_eq_some_iff.1 ho).1
    refine ⟨?_, o, ho, h2⟩
    have : i < listed.size := by omega
    simp [Array.getD_eq_getD_getElem?, this] at h1 ⊢
    exact h1
/-- It may be done first. -/
theorem any_idle (hI : Idle ops o0 d x) (hq : ∀ e a w, Q' e a w → e = .normal) (hqq : ∀ a w, Q' .normal a w → Q .normal a w) : ∀ (fuel : Nat) (listed : Array Bool) (a : Act) (w : World), listed.size = ops.size → listed.getD 0 false = false →
    wpAnyIn F n P .any ops Q' fuel (listed.setIfInBounds 0 true) (a.put (some d) (a.eval x)) w → wpAnyIn F n P .any ops Q (fuel + 1) listed a w := by
  have h0s : 0 < ops.size := (Array.getElem?_eq_some_iff.1 hI.at0).1
  have first : ∀ (listed : Array Bool) (a : Act) (w : World) (K : Act → World → Prop), K (a.put (some d) (a.eval x)) w → wpOpIn F n P ops Q 0 K a w := by
    intro listed a w K hK
    rw [wpOp_plain hI.at0 hI.guard]
    unfold Oper.wpIn
    have hnd : ∀ c, o0.op ≠ .defer c := fun c e => by rw [hI.op] at e; cases e
    rw [Oper.semAt_eq _ _ _ hnd]
    refine ⟨fun f hf => ?_, ?_⟩
    · simp [Oper.about, hI.op] at hf
    · simp only [execOp, hI.op]
      show K (a.put o0.dst (a.eval x)) w
      rw [hI.dst]
      exact hK
  have zero : ∀ listed : Array Bool, listed.size = ops.size → listed.getD 0 false = false → 0 ∈ Region.ready .any ops listed := fun listed hl h0 => (in_ready hl).2 ⟨o0, hI.at0, h0, fun e he => by
    have : e ∈ o0.after.toList := Array.mem_def.1 he
    rw [hI.after] at this
    cases this⟩
  have more : ∀ listed : Array Bool, listed.size = ops.size → ∀ i, i ≠ 0 → i ∈ Region.ready .any ops listed → i ∈ Region.ready .any ops (listed.setIfInBounds 0 true) := fun listed hl i hi h => by
    obtain ⟨o, ho, h1, h2⟩ := (in_ready hl).1 h
    refine (in_ready (by simp [hl])).2 ⟨o, ho, ?_, fun e he hb => ?_⟩
    · rw [getD_setB _ _ _ (by omega), h1]
      simp [hi]
    · rw [getD_setB _ _ _ (by omega), h2 e he hb]
      rfl
  intro fuel
  induction fuel with
  | zero =>
    intro listed a w hl h0 h
    refine ⟨fun he => ?_, fun i hi => ?_⟩
    · have := zero listed hl h0
      rw [he] at this
      cases this
    · by_cases hi0 : i = 0
      · subst hi0
        exact first listed a w _ ⟨h.1, hqq _ _ h.2⟩
      · have := more listed hl i hi0 hi
        rw [h.1] at this
        cases this
  | succ fuel ih =>
    intro listed a w hl h0 h
    refine ⟨fun he => ?_, fun i hi => ?_⟩
    · have := zero listed hl h0
      rw [he] at this
      cases this
    · by_cases hi0 : i = 0
      · subst hi0
        refine first listed a w _ ?_
        have : ∀ (fuel : Nat) (listed : Array Bool) (a : Act) (w : World), wpAnyIn F n P .any ops Q' fuel listed a w → wpAnyIn F n P .any ops Q fuel listed a w := by
          intro fuel
          induction fuel with
          | zero => exact fun l a w h => ⟨h.1, hqq _ _ h.2⟩
          | succ fuel ih =>
            intro l a w h
            refine ⟨fun he => hqq _ _ (h.1 he), fun i hi => ?_⟩
            have hh := h.2 i hi
            cases ho : ops[i]? with
            | none => unfold wpOpIn at hh ⊢; rw [ho] at hh ⊢; exact ih _ _ _ hh
            | some o =>
              have hg : o.guard = none := by
                by_cases e : i = 0
                · subst e; rw [hI.at0] at ho; obtain rfl := Option.some.inj ho; exact hI.guard
                · exact (hI.rest i o e ho).1
              rw [wpOp_plain ho hg] at hh ⊢
              exact wpIn_other rfl rfl hq (fun v w' h => ih _ _ _ h) (fun d w' h => ih _ _ _ h) hh
        exact this _ _ _ _ h
      · have hm := more listed hl i hi0 hi
        obtain ⟨o, ho, h1, h2⟩ := (in_ready hl).1 hi
        obtain ⟨r1, r2, r3, r4, r5⟩ := hI.rest i o hi0 ho
        have hil : i < listed.size := by have := (Array.getElem?_eq_some_iff.1 ho).1; omega
        have hny : ∀ y ∈ o.op.operands, y ≠ .tmp d := fun y hy e => by
          subst e
          obtain ⟨e, he, hb, hon⟩ := r5 hy
          have := h2 e he hb
          rw [hon, h0] at this
          cases this
        have hev : ∀ y ∈ o.op.operands, (a.put (some d) (a.eval x)).eval y = a.eval y := fun y hy => eval_put (hny y hy)
        have hh := h.2 i hm
        rw [wpOp_plain ho r1] at hh ⊢
        have hcomm : (listed.setIfInBounds 0 true).setIfInBounds i true = (listed.setIfInBounds i true).setIfInBounds 0 true := Array.setIfInBounds_comm _ _ (fun e => hi0 e.symm)
        have hset0 : (listed.setIfInBounds i true).getD 0 false = false := by
          rw [getD_setB _ _ _ hil, h0]
          simp [Ne.symm hi0]
        have hex : ∀ (b : Act) (v : Value), (b.put o.dst v).eval x = b.eval x := fun b v => by
          cases hd : o.dst with
          | none => rfl
          | some t => exact eval_put (r4 t hd)
        refine wpIn_other (sem_congr r2 hev) (about_congr r2 hev) hq (fun v w' hk => ?_) (fun dd w' hk => ?_) hh
        · refine ih _ _ _ (by simp [hl]) hset0 ?_
          rw [hcomm] at hk
          rw [hex, ← put_comm a r3]
          exact hk
        · refine ih _ _ _ (by simp [hl]) hset0 ?_
          rw [hcomm] at hk
          rw [hex, ← put_comm _ r3]
          exact hk
/-- Edges that lead to what is done already make no difference. -/
theorem any_addE (hI : Idle ops o0 d x) (hsz : ops'.size = ops.size) (hrest : ∀ (j : Nat) (o : Oper), j ≠ 0 → ops[j]? = some o → ops'[j]? = some (addE o)) (hq : ∀ e a w, Q' e a w → e = .normal) (hqq : ∀ a w, Q' .normal a w → Q .normal a w) :
    ∀ (fuel : Nat) (listed : Array Bool) (a : Act) (w : World), listed.size = ops.size → listed.getD 0 false = true → wpAnyIn F n P .any ops' Q' fuel listed a w → wpAnyIn F n P .any ops Q fuel listed a w := by
  have same : ∀ listed : Array Bool, listed.size = ops.size → listed.getD 0 false = true → ∀ i, i ∈ Region.ready .any ops listed ↔ i ∈ Region.ready .any ops' listed := by
    intro listed hl h0 i
    by_cases hi : i = 0
    · subst hi
      constructor
      · intro h
        obtain ⟨o, ho, h1, _⟩ := (in_ready hl).1 h
        rw [h0] at h1
        cases h1
      · intro h
        obtain ⟨o, ho, h1, _⟩ := (in_ready (by omega)).1 h
        rw [h0] at h1
        cases h1
    · constructor
      · intro h
        obtain ⟨o, ho, h1, h2⟩ := (in_ready hl).1 h
        refine (in_ready (by omega)).2 ⟨addE o, hrest i o hi ho, h1, fun e he hb => ?_⟩
        have he : e ∈ (⟨0, .data⟩ :: o.after.toList : List Edge) := Array.mem_def.1 he
        rcases List.mem_cons.1 he with rfl | he
        · exact h0
        · exact h2 e (Array.mem_def.2 he) hb
      · intro h
        obtain ⟨o', ho', h1, h2⟩ := (in_ready (by omega)).1 h
        have hil : i < ops.size := by have := (Array.getElem?_eq_some_iff.1 ho').1; omega
        have ho : ops[i]? = some ops[i] := Array.getElem?_eq_getElem hil
        rw [hrest i _ hi ho] at ho'
        obtain rfl := Option.some.inj ho'
        exact (in_ready hl).2 ⟨_, ho, h1, fun e he hb => h2 e (Array.mem_def.2 (List.mem_cons_of_mem _ (Array.mem_def.1 he))) hb⟩
  intro fuel
  induction fuel with
  | zero =>
    intro listed a w hl h0 h
    refine ⟨List.eq_nil_iff_forall_not_mem.2 fun i hi => ?_, hqq _ _ h.2⟩
    have := (same listed hl h0 i).1 hi
    rw [h.1] at this
    cases this
  | succ fuel ih =>
    intro listed a w hl h0 h
    refine ⟨fun he => hqq _ _ (h.1 (List.eq_nil_iff_forall_not_mem.2 fun i hi => ?_)), fun i hi => ?_⟩
    · have := (same listed hl h0 i).2 hi
      rw [he] at this
      cases this
    · obtain ⟨o, ho, h1, h2⟩ := (in_ready hl).1 hi
      have hi0 : i ≠ 0 := fun e => by subst e; rw [h0] at h1; cases h1
      have hil : i < listed.size := by have := (Array.getElem?_eq_some_iff.1 ho).1; omega
      have hg := (hI.rest i o hi0 ho).1
      have hh := h.2 i ((same listed hl h0 i).1 hi)
      rw [wpOp_plain (hrest i o hi0 ho) (show (addE o).guard = none from hg)] at hh
      rw [wpOp_plain ho hg]
      have hset0 : (listed.setIfInBounds i true).getD 0 false = true := by
        rw [getD_setB _ _ _ hil, h0]
        rfl
      exact wpIn_other (o := addE o) rfl rfl hq (fun v w' hk => ih _ _ _ (by simp [hl]) hset0 hk) (fun dd w' hk => ih _ _ _ (by simp [hl]) hset0 hk) hh
end

theorem onZero_ok : ∀ {l : List Edge}, onZero l = true → ∃ e ∈ l, Region.binds .any e = true ∧ e.on = 0
  | [], h => by cases h
  | e :: l, h => by
    simp only [onZero] at h
    split at h
    · rename_i hb
      split at h
      · rename_i h0
        exact ⟨e, List.mem_cons_self .., hb, h0⟩
      · obtain ⟨e', h1, h2⟩ := onZero_ok h
        exact ⟨e', List.mem_cons_of_mem _ h1, h2⟩
    · obtain ⟨e', h1, h2⟩ := onZero_ok h
      exact ⟨e', List.mem_cons_of_mem _ h1, h2⟩
theorem idleRest_ok {d : Nat} {x : Operand} : ∀ {l : List Oper}, idleRest d (tmpsOf [x]) l = true → ∀ o ∈ l, o.guard = none ∧ idleOp o.op = true ∧ o.dst ≠ some d ∧ (∀ t, o.dst = some t → x ≠ .tmp t) ∧ (.tmp d ∈ o.op.operands → ∃ e ∈ o.after, Region.binds .any e = true ∧ e.on = 0)
  | [], _, o, ho => by cases ho
  | a :: l, h, o, ho => by
    simp only [idleRest] at h
    split at h
    · cases h
    · rename_i hg
      split at h
      · rename_i h1 h2
        have hoff : ∀ t, a.dst = some t → t ∉ (d :: tmpsOf [x]) := fun t ht hm => by
          rw [ht] at h2
          simp only [offDst] at h2
          split at h2
          · cases h2
          · rename_i hn
            exact memN_out hn hm
        have base : a.guard = none ∧ idleOp a.op = true ∧ a.dst ≠ some d ∧ (∀ t, a.dst = some t → x ≠ .tmp t) := by
          refine ⟨hg, h1, fun e => hoff d e (List.mem_cons_self ..), fun t ht e => hoff t ht ?_⟩
          rw [e]
          exact List.mem_cons_of_mem _ (List.mem_cons_self ..)
        split at h
        · rename_i hm
          rcases List.mem_cons.1 ho with rfl | ho
          · exact ⟨base.1, base.2.1, base.2.2.1, base.2.2.2, fun hd => absurd (tmpsOf_mem (Array.mem_def.1 hd)) (memN_out hm)⟩
          · exact idleRest_ok h o ho
        · split at h
          · rename_i hz
            rcases List.mem_cons.1 ho with rfl | ho
            · exact ⟨base.1, base.2.1, base.2.2.1, base.2.2.2, fun _ => by
                obtain ⟨e, he, h3⟩ := onZero_ok hz
                exact ⟨e, Array.mem_def.2 he, h3⟩⟩
            · exact idleRest_ok h o ho
          · cases h
      · cases h
theorem mapE_get : ∀ (l : List Oper) (j : Nat) (o : Oper), l[j]? = some o → (mapE l)[j]? = some (addE o)
  | a :: l, 0, o, h => by simp at h; subst h; rfl
  | a :: l, j + 1, o, h => by simpa [mapE] using mapE_get l j o (by simpa using h)
  | [], j, o, h => by simp at h
theorem mapE_len : ∀ l : List Oper, (mapE l).length = l.length
  | [] => rfl
  | _ :: l => congrArg (· + 1) (mapE_len l)
theorem idleL_ok {ops : Array Oper} {l : List Oper} (h : idleL ops.toList = some l) : ∃ o0 d x, Idle ops o0 d x ∧ l.length = ops.size ∧ l[0]? = some o0 ∧ ∀ (j : Nat) (o : Oper), j ≠ 0 → ops[j]? = some o → l[j]? = some (addE o) := by
  obtain ⟨os⟩ := ops
  have h : idleL os = some l := h
  cases os with
  | nil => cases h
  | cons o r =>
    simp only [idleL] at h
    split at h
    · rename_i x d h1 h2 h3 h4
      split at h
      · rename_i h5
        split at h
        · cases h
          refine ⟨o, d, x, ⟨by simp, h1, h2, h3, h4, fun j o' hj ho' => ?_⟩, by simp [mapE_len], rfl, fun j o' hj ho' => ?_⟩
          · cases j with
            | zero => exact absurd rfl hj
            | succ j =>
              have : r[j]? = some o' := by simpa using ho'
              exact idleRest_ok h5 o' (List.mem_of_getElem? this)
          · cases j with
            | zero => exact absurd rfl hj
            | succ j =>
              have : r[j]? = some o' := by simpa using ho'
              simpa using mapE_get r j o' this
        · cases h
      · cases h
    · cases h

section
variable {P : Program} {TT : Nat → Option TI} {B : Bs} {w : World} {β : Env} {fp : Nat → Nat → Prop} {ts : List SV} {ks : List KB} {a : Act} {rd : Option Nat} {n : Nat} {Q : Exit → Act → World → Prop}
theorem region_idle (hTT : TTok P TT) (hmix : P.follows .mixedOrders = true) {ops : Array Oper} {l : List Oper} (hil : idleL ops.toList = some l) {hs : List Bool} (hdr : drawOk l hs = true) {id : Nat} {ts' : List SV} {ks' : List KB} (h : Tr P TT l l ts ks ts' ks' hs) (hS : Sat B w β fp ts ks a)
    (hQ : ∀ a' w' β' fp', Sat B w' β' fp' ts' ks' a' → Q .normal a' w') : (Code.region id ops true).wpIn (wideF rd) n P Q a w := by
  obtain ⟨o0, d, x, hI, hlen, hl0, hlr⟩ := idleL_ok hil
  obtain ⟨S, T, κ, e1, e2, e3, e4, e5, hw⟩ := h.places
  have hdr := drawOk_ok hdr
  have h0s : 0 < ops.size := (Array.getElem?_eq_some_iff.1 hI.at0).1
  refine wpIn_region_any hmix ?_
  have hS0 : Sat B { w with drawn := w.drawn + 1 } β fp (T 0) (κ 0) a := by
    rw [e1, e2]
    exact hS.on (hS.went.mem.quiet ⟨rfl, rfl, rfl, Nat.le_refl _, fun _ _ _ => rfl⟩)
  obtain ⟨h', hInv⟩ := Inv.start hw hdr (m := 0) (Nat.zero_le _) (listed := Array.replicate ops.size false) (by simp [hlen]) (fun i hi => by
    simp [← hlen] at hi ⊢; simp [hi]) hS0
  have hany := any_order (rd := rd) (n := n) (Q := fun e a w => e = .normal ∧ Q .normal a w) hTT hw hdr (fun a' w' β' fp' hS' => ⟨rfl, hQ a' w' β' fp' (by rw [← e3, ← e4]; exact hS')⟩) ops.size _ a _ 0 h' (List.range ops.size) hInv (fun i hi _ => by simpa [← hlen] using hi) (by simp)
  obtain ⟨k, hk⟩ : ∃ k, ops.size = k + 1 := ⟨ops.size - 1, by omega⟩
  have hq : ∀ (e : Exit) (a : Act) (w : World), (e = .normal ∧ Q .normal a w) → e = .normal := fun e a w h => h.1
  have hz : 0 ∈ Region.ready .any l.toArray (Array.replicate ops.size false) := (in_ready (by simp [hlen])).2 ⟨o0, by simpa using hl0, by simp [Array.getD_eq_getD_getElem?, h0s], fun e he => by
    have : e ∈ o0.after.toList := Array.mem_def.1 he
    rw [hI.after] at this
    cases this⟩
  rw [show ops.size = k + 1 from hk] at hany ⊢
  rw [hk] at hz
  have h1 := hany.2 0 hz
  rw [wpOp_plain (by simpa using hl0) hI.guard] at h1
  have h2 : wpAnyIn (wideF rd) n P .any l.toArray (fun e a w => e = .normal ∧ Q .normal a w) k ((Array.replicate (k + 1) false).setIfInBounds 0 true) (a.put (some d) (a.eval x)) { w with drawn := w.drawn + 1 } := by
    have hnd : ∀ c, o0.op ≠ .defer c := fun c e => by rw [hI.op] at e; cases e
    unfold Oper.wpIn at h1
    rw [Oper.semAt_eq _ _ _ hnd] at h1
    have h1 := h1.2
    simp only [execOp, hI.op] at h1
    have h1 : wpAnyIn (wideF rd) n P .any l.toArray (fun e a w => e = .normal ∧ Q .normal a w) k ((Array.replicate (k + 1) false).setIfInBounds 0 true) (a.put o0.dst (a.eval x)) { w with drawn := w.drawn + 1 } := h1
    rw [hI.dst] at h1
    exact h1
  refine any_idle (Q' := fun e a w => e = .normal ∧ Q .normal a w) hI hq (fun a w h => h.2) k _ a _ (by simp [hk]) (by simp [Array.getD_eq_getD_getElem?]) ?_
  refine any_addE (ops' := l.toArray) hI (by simp [hlen]) (fun j o hj ho => by simpa using hlr j o hj ho) hq (fun a w h => ⟨rfl, h.2⟩) k _ _ _ (by simp [hk]) (by
    rw [getD_setB _ _ _ (by simp)]
    simp) h2
end
section
variable {X : Nat → Prop} {w : World} {β : Env} {fp : Nat → Nat → Prop} {ks : List KB}
/-- A row that a cell holds gets a new number. -/
theorem Mem.moveCell (h : Mem X w β fp ks) {i j q : Nat} {t e : TypeId} {l : List SV} {sz n : Nat} {z : Z} {f : Nat → List DV} (hj : ks[j]? = some (.cells t l)) (hq : l[q]? = some (.all i)) (hi : ks[i]? = some (.row e sz n z f)) :
    ∃ β' fp', Went X w β fp w β' fp' ((ks.set j (.cells t (l.set q (.all ks.length)))).set i .gone ++ [.row e sz n z f]) := by
  have hil : i < ks.length := (List.getElem?_eq_some_iff.1 hi).1
  have hjl : j < ks.length := (List.getElem?_eq_some_iff.1 hj).1
  have hij : i ≠ j := fun e => by subst e; rw [hj] at hi; cases hi
  have hn := h.kl ks.length (Nat.le_refl _)
  have hfn : ∀ b, ¬ fp ks.length b := fun b hb => by obtain ⟨L, hL⟩ := h.kn _ b hb; rw [hn] at hL; cases hL
  obtain ⟨β', hβ'⟩ : ∃ β' : Env, β' = upd β ks.length (β i) := ⟨_, rfl⟩
  obtain ⟨fp', hfp'⟩ : ∃ fp' : Nat → Nat → Prop, fp' = fun p b => (p = ks.length ∧ fp i b) ∨ (p ≠ i ∧ p ≠ ks.length ∧ fp p b) := ⟨_, rfl⟩
  have bs : β' ks.length = β i := by rw [hβ']; exact upd_same _ _ _
  have bo : ∀ p, p ≠ ks.length → β' p = β p := fun p hp => by rw [hβ']; exact upd_other _ _ hp
  have hext : Ext β β' := fun p L hL => by
    have : p ≠ ks.length := fun e => by rw [e, hn] at hL; cases hL
    rw [bo p this]
    exact hL
  have fs : fp' ks.length = fp i := by
    rw [hfp']
    funext b
    apply propext
    constructor
    · rintro (⟨_, h1⟩ | ⟨_, h1, _⟩)
      · exact h1
      · exact absurd rfl h1
    · exact fun h1 => .inl ⟨rfl, h1⟩
  have fo : ∀ p, p ≠ i → p ≠ ks.length → fp' p = fp p := fun p h1 h2 => by
    rw [hfp']
    funext b
    apply propext
    constructor
    · rintro (⟨h3, _⟩ | ⟨_, _, h3⟩)
      · exact absurd h3 h2
      · exact h3
    · exact fun h3 => .inr ⟨h1, h2, h3⟩
  have fi : ∀ p b, fp' p b → ∃ p0, fp p0 b := fun p b hb => by
    rw [hfp'] at hb
    rcases hb with ⟨_, h1⟩ | ⟨_, _, h1⟩
    · exact ⟨i, h1⟩
    · exact ⟨p, h1⟩
  have hMx : ∀ b, Mx X fp' b → Mx X fp b := fun b hb => hb.imp id (fun ⟨p, hp⟩ => fi p b hp)
  refine ⟨β', fp', ⟨⟨⟨h.xa, fun p b hb => ?_, fun p p' b hb hb' => ?_, fun p b hb => ?_, fun p b hb => ?_, fun p L k hk hne hL => ?_⟩, fun p hp => ?_, fun p t' dom cols hp => ?_⟩, Step.refl _ _, hext, fun p b hb => .inl (fi p b hb)⟩⟩
  · obtain ⟨p0, h0⟩ := fi p b hb
    exact h.xb p0 b h0
  · rw [hfp'] at hb hb'
    rcases hb with ⟨rfl, h1⟩ | ⟨h1, h2, h3⟩
    · rcases hb' with ⟨h4, _⟩ | ⟨h4, _, h5⟩
      · exact h4.symm
      · exact absurd (h.dis _ _ _ h1 h5).symm h4
    · rcases hb' with ⟨_, h4⟩ | ⟨_, _, h5⟩
      · exact absurd (h.dis _ _ _ h3 h4) h1
      · exact h.dis _ _ _ h3 h5
  · obtain ⟨p0, h0⟩ := fi p b hb
    exact h.kw p0 b h0
  · rw [hfp'] at hb
    rcases hb with ⟨rfl, h1⟩ | ⟨_, h2, h3⟩
    · rw [bs]
      exact h.kn i b h1
    · rw [bo p h2]
      exact h.kn p b h3
  · by_cases hp : p = ks.length
    · subst hp
      rw [List.getElem?_append_right (by simp)] at hk
      simp at hk
      subst hk
      rw [bs] at hL
      rw [fs]
      exact (h.kb i L _ hi (by simp) hL).mono (Step.refl _ _) (fun b _ => hMx b) hext (fun b _ => rfl)
    · have hpl : p < ks.length := by
        have := (List.getElem?_eq_some_iff.1 hk).1
        simp at this
        omega
      rw [List.getElem?_append_left (by simpa using hpl), List.getElem?_set] at hk
      split at hk
      · split at hk
        · cases hk
          exact absurd rfl hne
        · cases hk
      · rename_i hpi
        rw [bo p hp] at hL
        rw [fo p (fun e => hpi e.symm) hp]
        rw [List.getElem?_set] at hk
        split at hk
        · rename_i hjp
          subst hjp
          · cases hk
            have hkb := (h.kb j L _ hj (by simp) hL).mono (Step.refl (Mx X fp) w) (fun b _ => hMx b) hext (fun b _ => rfl)
            cases hkb with
            | cells _ _ vs h0 h1 h3 h4 h5 =>
              refine .cells t _ vs h0 h1 (by simpa using h3) (fun o s u hs hu => ?_) h5
              rw [List.getElem?_set] at hs
              split at hs
              · rename_i eo
                subst eo
                split at hs
                · cases hs
                  have hd := h4 q _ u hq hu
                  cases hd with
                  | allNil _ L1 hL1 hL2 => exact .allNil _ L1 (by rw [bs, ← bo i (by omega)]; exact hL1) hL2
                  | all _ L1 hL1 hL2 => exact .all _ L1 (by rw [bs, ← bo i (by omega)]; exact hL1) hL2
                · cases hs
              · exact h4 o s u hs hu
        · exact (h.kb p L k hk hne hL).mono (Step.refl _ _) (fun b _ => hMx b) hext (fun b _ => rfl)
  · have : ks.length + 1 ≤ p := by simpa using hp
    rw [bo p (by omega)]
    exact h.kl p (by omega)
  · by_cases hpl : p < ks.length
    · rw [List.getElem?_append_left (by simpa using hpl), List.getElem?_set] at hp
      split at hp
      · split at hp <;> cases hp
      · rw [List.getElem?_set] at hp
        split at hp
        · cases hp
        · obtain ⟨L, hL⟩ := h.ka p t' dom cols hp
          exact ⟨L, hext p L hL⟩
    · rw [List.getElem?_append_right (by simpa using hpl)] at hp
      have : p = ks.length := by
        have := (List.getElem?_eq_some_iff.1 hp).1
        simp at this
        omega
      subst this
      simp at hp
/-- An empty block of cells taken as a row that is not nil. -/
theorem Mem.csRow (h : Mem X w β fp ks) {i : Nat} {e : TypeId} {L : Loc} (hi : ks[i]? = some (.cells e [])) (hL0 : β i = some L) (sz : Nat) (f : Nat → List DV) :
    ∃ fp', Went X w β fp w (upd β ks.length (some ⟨L.b, 0, 0, sz, false⟩)) fp' (ks.set i .gone ++ [.row e sz 0 .no f]) := by
  have hil : i < ks.length := (List.getElem?_eq_some_iff.1 hi).1
  have hn := h.kl ks.length (Nat.le_refl _)
  obtain ⟨β', hβ'⟩ : ∃ β' : Env, β' = upd β ks.length (some ⟨L.b, 0, 0, sz, false⟩) := ⟨_, rfl⟩
  rw [← hβ']
  obtain ⟨fp', hfp'⟩ : ∃ fp' : Nat → Nat → Prop, fp' = fun p b => (p = ks.length ∧ fp i b) ∨ (p ≠ i ∧ p ≠ ks.length ∧ fp p b) := ⟨_, rfl⟩
  have bs : β' ks.length = some ⟨L.b, 0, 0, sz, false⟩ := by rw [hβ']; exact upd_same _ _ _
  have bo : ∀ p, p ≠ ks.length → β' p = β p := fun p hp => by rw [hβ']; exact upd_other _ _ hp
  have hext : Ext β β' := fun p L hL => by
    have : p ≠ ks.length := fun e => by rw [e, hn] at hL; cases hL
    rw [bo p this]
    exact hL
  have fs : fp' ks.length = fp i := by
    rw [hfp']
    funext b
    apply propext
    constructor
    · rintro (⟨_, h1⟩ | ⟨_, h1, _⟩)
      · exact h1
      · exact absurd rfl h1
    · exact fun h1 => .inl ⟨rfl, h1⟩
  have fo : ∀ p, p ≠ i → p ≠ ks.length → fp' p = fp p := fun p h1 h2 => by
    rw [hfp']
    funext b
    apply propext
    constructor
    · rintro (⟨h3, _⟩ | ⟨_, _, h3⟩)
      · exact absurd h3 h2
      · exact h3
    · exact fun h3 => .inr ⟨h1, h2, h3⟩
  have fi : ∀ p b, fp' p b → ∃ p0, fp p0 b := fun p b hb => by
    rw [hfp'] at hb
    rcases hb with ⟨_, h1⟩ | ⟨_, _, h1⟩
    · exact ⟨i, h1⟩
    · exact ⟨p, h1⟩
  have hMx : ∀ b, Mx X fp' b → Mx X fp b := fun b hb => hb.imp id (fun ⟨p, hp⟩ => fi p b hp)
  refine ⟨fp', ⟨⟨⟨h.xa, fun p b hb => ?_, fun p p' b hb hb' => ?_, fun p b hb => ?_, fun p b hb => ?_, fun p L1 k hk hne hL => ?_⟩, fun p hp => ?_, fun p t' dom cols hp => ?_⟩, Step.refl _ _, hext, fun p b hb => .inl (fi p b hb)⟩⟩
  · obtain ⟨p0, h0⟩ := fi p b hb
    exact h.xb p0 b h0
  · rw [hfp'] at hb hb'
    rcases hb with ⟨rfl, h1⟩ | ⟨h1, h2, h3⟩
    · rcases hb' with ⟨h4, _⟩ | ⟨h4, _, h5⟩
      · exact h4.symm
      · exact absurd (h.dis _ _ _ h1 h5).symm h4
    · rcases hb' with ⟨_, h4⟩ | ⟨_, _, h5⟩
      · exact absurd (h.dis _ _ _ h3 h4) h1
      · exact h.dis _ _ _ h3 h5
  · obtain ⟨p0, h0⟩ := fi p b hb
    exact h.kw p0 b h0
  · rw [hfp'] at hb
    rcases hb with ⟨rfl, h1⟩ | ⟨_, h2, h3⟩
    · exact ⟨_, bs⟩
    · rw [bo p h2]
      exact h.kn p b h3
  · by_cases hp : p = ks.length
    · subst hp
      rw [List.getElem?_append_right (by simp)] at hk
      simp at hk
      subst hk
      rw [bs] at hL
      cases hL
      rw [fs]
      have hkb := h.kb i L _ hi (by simp) hL0
      cases hkb with
      | cells _ _ vs h0 h1 h3 h4 h5 =>
        have hz : vs.size = 0 := h3.symm
        exact .row e sz 0 .no f vs (0, 0) h0 rfl rfl rfl (fun e => by cases e) h1 (fun o ho => by omega) (by simpa using hz) (Nat.le_refl _) (fun k hk => absurd hk (Nat.not_lt_zero _)) (fun k j d u hk => absurd hk (Nat.not_lt_zero _)) h5
    · have hpl : p < ks.length := by
        have := (List.getElem?_eq_some_iff.1 hk).1
        simp at this
        omega
      rw [List.getElem?_append_left (by simpa using hpl), List.getElem?_set] at hk
      split at hk
      · cases hk
        exact absurd rfl hne
      · rename_i hpi
        rw [bo p hp] at hL
        rw [fo p (fun e => hpi e.symm) hp]
        exact (h.kb p L1 k hk hne hL).mono (Step.refl _ _) (fun b _ => hMx b) hext (fun b _ => rfl)
  · have : ks.length + 1 ≤ p := by simpa using hp
    rw [bo p (by omega)]
    exact h.kl p (by omega)
  · by_cases hpl : p < ks.length
    · rw [List.getElem?_append_left (by simpa using hpl), List.getElem?_set] at hp
      split at hp
      · cases hp
      · obtain ⟨L1, hL⟩ := h.ka p t' dom cols hp
        exact ⟨L1, hext p L1 hL⟩
    · rw [List.getElem?_append_right (by simpa using hpl)] at hp
      have : p = ks.length := by
        have := (List.getElem?_eq_some_iff.1 hp).1
        simp at this
        omega
      subst this
      simp at hp
end
end Go.Eng
namespace Go.Eng
open Go Go.RowKit

section
variable {P : Program} {TT : Nat → Option TI} {IN : Nat → Option Inl} {B : Bs} {w : World} {β : Env} {fp : Nat → Nat → Prop} {ts : List SV} {ks : List KB} {a : Act}

theorem resK_spec (hTT : TTok P TT) (hS : Sat B w β fp ts ks a) : ∀ (rs : List ResultVar) (c : List SV → Prop), resK TT ts ks rs c → ∃ (ss : List SV) (vs : List Value), c ss ∧ ss.length = vs.length ∧ vs.length = rs.length ∧
    (∀ (j : Nat) (s : SV) (u : Value), ss[j]? = some s → vs[j]? = some u → Den w (Mx B.X fp) β s u) ∧
    (rs.mapM fun (r : ResultVar) => (match r with
      | .tmp t => pure (a.tmps.getD t undef)
      | .cell b t => do loadVar t (← asAddr (a.tmps.getD b undef)) : Sem Value)).run P w = .ok vs w := by
  have slot : ∀ t : Nat, Den w (Mx B.X fp) β (getT ts t) (a.tmps.getD t undef) := fun t => by
    have := hS.val (.tmp t)
    simpa only [Go.Eng.val, Act.eval] using this
  intro rs
  induction rs with
  | nil => intro c h; exact ⟨[], [], h, rfl, rfl, by simp, by simp⟩
  | cons r rs ih =>
    intro c h
    cases r with
    | tmp t =>
      simp only [resK, getTK_eq] at h
      obtain ⟨ss, vs, hc, h1, h2, h3, h4⟩ := ih _ h
      refine ⟨getT ts t :: ss, a.tmps.getD t undef :: vs, hc, by simp [h1], by simp [h2], fun j s u hs hu => ?_, by
        simp only [List.mapM_cons, Sem.run_bind, Sem.run_pure, Result.andThen_ok, h4]⟩
      cases j with
      | zero => simp only [List.getElem?_cons_zero, Option.some.injEq] at hs hu; rw [← hs, ← hu]; exact slot t
      | succ j => exact h3 j s u (by simpa using hs) (by simpa using hu)
    | cell t ty =>
      simp only [resK] at h
      split at h
      · exact h.elim
      · rename_i size bytes agg zero desc eqk hty
        rw [getTK_eq] at h
        have hv := slot t
        split at h
        · rename_i i off hx
          rw [hx] at hv
          have ev : ∃ L, β i = some L ∧ a.tmps.getD t undef = .pointer (some ⟨L.b, off, none⟩) := by
            generalize a.tmps.getD t undef = av at hv
            cases hv with
            | ptr _ _ L hL => exact ⟨L, hL, rfl⟩
          obtain ⟨L, hL, ev⟩ := ev
          rw [getBK_eq] at h
          split at h
          · rename_i t' l hg
            have hk := hS.went.mem.at (getB_some hg (by simp)) (by simp) hL
            cases hk with
            | cells _ _ vs hfp hb hl hd h1 =>
              obtain ⟨r0, v0, hK, hr, hd'⟩ := load_cells (w := w) (M := Mx B.X fp) (β := β) hTT hty ⟨L.b, 0, none⟩ l off vs.toList (by simpa using hl) (fun j s u hs hu => hd j s u hs (by simpa using hu)) (fun u hu => by
                  obtain ⟨j, hj, rfl⟩ := List.mem_iff_getElem.1 hu
                  exact h1 j _ (by simp)) (fun j u hu => by
                  rw [add_lit0]
                  simpa [World.cell?, hb] using hu) h
              rw [add_lit0, Nat.zero_add] at hr
              obtain ⟨ss, us, hc, e1, e2, e3, e4⟩ := ih _ hK
              refine ⟨r0 :: ss, v0 :: us, hc, by simp [e1], by simp [e2], fun j s u hs hu => ?_, ?_⟩
              · cases j with
                | zero => simp only [List.getElem?_cons_zero, Option.some.injEq] at hs hu; rw [← hs, ← hu]; exact hd'
                | succ j => exact e3 j s u (by simpa using hs) (by simpa using hu)
              · have ha : (asAddr (a.tmps.getD t undef)).run P w = .ok ⟨L.b, off, none⟩ w := by rw [ev]; rfl
                simp only [List.mapM_cons, Sem.run_bind, ha, Sem.run_pure, Result.andThen_ok, hr, e4]
          · exact h.elim
        · exact h.elim

/-- What the results come to. -/
theorem results_spec (hTT : TTok P TT) {fn : Func} (hS : Sat B w β fp ts ks a) {c : List SV → Prop} (h : resK TT ts ks fn.results.toList c) : ∃ (ss : List SV) (us : List Value) (v : Value), c ss ∧ ss.length = us.length ∧ (∀ (j : Nat) (s : SV) (u : Value), ss[j]? = some s → us[j]? = some u → Den w (Mx B.X fp) β s u) ∧
    (results fn a.tmps).run P w = .ok v w ∧ v = (if hh : us.toArray.size = 1 then us.toArray[0] else .tuple us.toArray) ∧ Den w (Mx B.X fp) β (retV ss) v := by
  obtain ⟨ss, us, hc, e1, e2, e3, e4⟩ := resK_spec (P := P) hTT hS _ _ h
  refine ⟨ss, us, _, hc, e1, e3, ?_, rfl, ?_⟩
  · have e4' : (fn.results.mapM fun (r : ResultVar) => (match r with
        | .tmp t => pure (a.tmps.getD t undef)
        | .cell b t => do loadVar t (← asAddr (a.tmps.getD b undef)) : Sem Value)).run P w = .ok us.toArray w := by
      rw [Array.mapM_eq_mapM_toList]
      simp only [Sem.run_map, e4, Result.andThen_ok]
    unfold results
    simp only [Sem.run_bind]
    exact (congrArg (fun r => Result.andThen r _) e4').trans rfl
  · unfold retV
    split
    · rename_i s
      have hu1 : us.length = 1 := by rw [← e1]; rfl
      match us, hu1, e3 with
      | [u], _, e3 => exact e3 0 s u rfl rfl
    · rename_i l hne
      have hu1 : ¬ us.toArray.size = 1 := fun e => by
        have : ss.length = 1 := by rw [e1]; simpa using e
        match ss, this with
        | [s], _ => exact hne s rfl
      rw [dif_neg hu1]
      exact .tup ss us e1 e3

/-- A block that no one reads is written anew. -/
theorem Went.other {X : Nat → Prop} {w0 : World} {β0 : Env} {fp0 : Nat → Nat → Prop} (h : Went X w0 β0 fp0 w β fp ks) {r : Nat} {ob o : Obj} (hr : w.heap[r]? = some ob) (hob : ∀ c e f, ob ≠ .cells c e f) (h0 : w0.heap.size ≤ r) (hM : ¬ Mx X fp r) :
    Went X w0 β0 fp0 (World.setBlock w r o) β fp ks ∧ Keep (Mx X fp) w (World.setBlock w r o) := by
  have hk : Keep (Mx X fp) w (World.setBlock w r o) := ⟨by simp [World.setBlock], fun p u _ hp => by
    have hne : p.block ≠ r := fun e => by
      unfold World.cell? at hp
      rw [e, hr] at hp
      split at hp
      · rename_i c e f heq
        cases heq
        exact hob _ _ _ rfl
      · cases hp
    have := setBlock_other w r p.block o hne
    unfold World.cell? at hp ⊢
    rw [this]
    exact hp⟩
  have hm := h.mem
  refine ⟨⟨⟨⟨fun b hb => by simpa [World.setBlock] using hm.xa b hb, hm.xb, hm.dis, fun i b hb => by simpa [World.setBlock] using hm.kw i b hb, hm.kn, fun i L k hki hne hL => ?_⟩, hm.kl, hm.ka⟩, ⟨h.st.os, h.st.tape, h.st.output, by simpa [World.setBlock] using h.st.size, fun b hb hn => ?_⟩, h.ext, h.own⟩, hk⟩
  · exact (hm.kb i L k hki hne hL).keep hk (fun _ _ e => e) (Ext.refl _) (fun b hb => setBlock_other w r b o (fun e => hM (.inr ⟨i, e ▸ hb⟩)))
  · rw [setBlock_other w r b o (by omega)]
    exact h.st.block b hb hn

/-- The marks are taken. -/
theorem leave_marks {F : Fence} {n : Nat} {fn : Func} {R : Ending → World → Prop} (hfin : ∀ w', Sat B w' β fp ts ks { a with defers := [] } → ∃ v, (results fn a.tmps).run P w' = .ok v w' ∧ R (.returned v) w') :
    ∀ (ds : List Deferred) (w : World), Sat B w β fp ts ks { a with defers := ds } → LeavesInM F n P fn a.tmps R ds .returning w := by
  intro ds
  induction ds with
  | nil => intro w hS; exact hfin w hS
  | cons d ds ih =>
    intro w hS
    obtain ⟨r, hd, h0, hr, hM⟩ := hS.df.marks d (by simp)
    obtain ⟨hW, hk⟩ := hS.went.other (o := .deferred none) hr (fun _ _ _ e => by cases e) h0 hM
    refine ⟨by simp, .inl ⟨r, World.setBlock w r (.deferred none), hd, ?_, ih _ ⟨hW, ⟨fun d' hd' => ?_, (List.pairwise_cons.1 hS.df.un).2⟩, hS.len, fun t s v hs hv => (hS.tm t s v hs hv).keep hk (fun _ _ e => e) (Ext.refl _)⟩⟩⟩
    · have hg : (getObj r).run P w = .ok (.deferred (some [])) w := by simp [getObj, Sem.run, hr]
      have hs : (setObj r (.deferred none)).run P w = .ok () (World.setBlock w r (.deferred none)) := by simp [setObj, Sem.run, hr, World.setBlock]
      simp [Instr.takeDeferred, hg, hs]
    · obtain ⟨r', e1, e2, e3, e4⟩ := hS.df.marks d' (by simp [hd'])
      have hne := (List.pairwise_cons.1 hS.df.un).1 d' hd' r r' hd e1
      exact ⟨r', e1, e2, by rw [setBlock_other w r r' _ (Ne.symm hne)]; exact e3, e4⟩

/-- What is asked of the code ahead of what is still to be done. -/
def E (P : Program) (rd : Option Nat) (n : Nat) (SJ : (List SV → List KB → Prop) → Act → World → Prop) (Q : Exit → Act → World → Prop) : List It → Exit → Act → World → Prop
  | [], e, a, w => Q e a w
  | .code c :: r, .normal, a, w => c.wpIn (wideF rd) n P (E P rd n SJ Q r) a w
  | .code _ :: r, e, a, w => E P rd n SJ Q r e a w
  | .ops _ _ all os :: r, .normal, a, w => wpOpsIn (wideF rd) n P all.toArray (E P rd n SJ Q r) (List.range' (all.length - os.length) os.length) a w
  | .ops _ _ _ _ :: r, e, a, w => E P rd n SJ Q r e a w
  | .blk id :: r, .exit id', a, w => if id' = id then E P rd n SJ Q r .normal a w else E P rd n SJ Q r (.exit id') a w
  | .blk _ :: r, e, a, w => E P rd n SJ Q r e a w
  | .scp :: _, .goto _, _, _ => False
  | .scp :: r, e, a, w => E P rd n SJ Q r e a w
  | .lp J :: _, .normal, a, w => SJ J a w
  | .lp _ :: r, e, a, w => E P rd n SJ Q r e a w
  | .again c :: r, .normal, a, w => Again (wideF rd) n P c (E P rd n SJ Q r) a w
  | .again _ :: r, e, a, w => E P rd n SJ Q r e a w

theorem stepR_scope {P : Program} {b : Frame} {a : Act} {k : List Item} {cs : List Frame} {w : World} {c : Code} : step P (lone (b.atR a (.code (.scope c) :: k)) cs w) = .next (lone (b.atR a (.code c :: .inScope c :: k)) cs w) :=
  step_lone_go (by simp [stepG, stepG.exec, Frame.atR])
theorem stepR_inScope {P : Program} {b : Frame} {a : Act} {k : List Item} {cs : List Frame} {w : World} {c : Code} : step P (lone (b.atR a (.inScope c :: k)) cs w) = .next (lone (b.atR a k) cs w) :=
  step_lone_go (by simp [stepG, stepG.exec, Frame.atR])
/-- A scope in which nothing jumps to a label. -/
theorem wpIn_scope {P : Program} {F : Fence} {n : Nat} {a : Act} {w : World} {Q : Exit → Act → World → Prop} {c : Code} (h : c.wpIn F n P (Exit.noGoto Q) a w) : (Code.scope c).wpIn F n P Q a w := by
  intro b k cs hro hb hr
  have h0 : (lone (b.atR a (.code (.scope c) :: k)) cs w).fenced P F := fenced_calm hb hr rfl
  obtain ⟨e, a₁, w₁, hq, harr⟩ := h b (.inScope c :: k) cs hro hb hr
  cases e with
  | normal => exact ⟨.normal, a₁, w₁, hq, .head h0 stepR_scope (StepsIn.trans harr (.one (fenced_calm hb hr rfl) stepR_inScope))⟩
  | exit id' =>
    have hx : exitTo id' (.inScope c :: k) = exitTo id' k := by simp [exitTo]
    exact ⟨.exit id', a₁, w₁, hq, fun k' hk => .head h0 stepR_scope (harr.1 k' (by rw [hx]; exact hk)),
      fun hr' hk => let ⟨k₁, h1, h2⟩ := harr.2 hr' (by rw [hx]; exact hk); ⟨k₁, h1, .head h0 stepR_scope h2⟩⟩
  | goto l => exact hq.elim
  | ret => exact ⟨_, a₁, w₁, hq, .of_steps (.one h0 stepR_scope) harr⟩
  | panic ch => exact ⟨_, a₁, w₁, hq, .of_steps (.one h0 stepR_scope) harr⟩
  | outgrown => exact ⟨_, a₁, w₁, hq, .of_steps (.one h0 stepR_scope) harr⟩
/-- Regions under way are such as keep to the text, and what is left of them is their end. -/
def okStk : List It → Prop
  | [] => True
  | .ops d _ all os :: r => d = false ∧ (∃ i, all.drop i = os) ∧ okStk r
  | _ :: r => okStk r

variable {rd : Option Nat} {n : Nat} {Q : Exit → Act → World → Prop} {SJ : (List SV → List KB → Prop) → Act → World → Prop}

theorem E_ret (r : List It) (a : Act) (w : World) (h : Q .ret a w) : E P rd n SJ Q r .ret a w := by
  induction r with
  | nil => exact h
  | cons x r ih => cases x <;> exact ih
theorem E_exit (id : Nat) (r : List It) (a : Act) (w : World) : (∀ r', popTo id r = some r' → E P rd n SJ Q r' .normal a w) → (popTo id r = none → Q (.exit id) a w) → E P rd n SJ Q r (.exit id) a w := by
  induction r with
  | nil => intro _ h; exact h rfl
  | cons x r ih =>
    intro h1 h2
    cases x with
    | blk i =>
      simp only [E]
      simp only [popTo] at h1 h2
      by_cases he : id = i
      · subst he
        rw [if_pos rfl]
        rw [show Nat.beq id id = true from Nat.beq_refl id] at h1
        exact h1 r rfl
      · rw [if_neg he]
        have hb : Nat.beq i id = false := by
          cases hq : Nat.beq i id with
          | false => rfl
          | true => exact absurd (beq_of hq).symm he
        rw [hb] at h1 h2
        exact ih h1 h2
    | scp => exact ih h1 h2
    | code c => exact ih h1 h2
    | ops x y => exact ih h1 h2
    | lp J => exact ih h1 h2
    | again c => exact ih h1 h2

theorem popTo_ok {id : Nat} {r r' : List It} (h : popTo id r = some r') (hr : okStk r) : okStk r' := by
  induction r with
  | nil => cases h
  | cons x r ih =>
    cases x with
    | blk i =>
      simp only [popTo] at h
      split at h
      · cases h; exact hr
      · exact ih h hr
    | scp => exact ih h hr
    | code c => exact ih h hr
    | ops x y => exact ih h hr.2.2
    | lp J => exact ih h hr
    | again c => exact ih h hr

theorem headK_eq (body : Code) (ts : List SV) (ks : List KB) (u : List (Nat × SV)) (k : List (Nat × KB)) : ∃ ts' ks', ∀ c', headK body ts ks u k c' = c' ts' ks' := by
  have h1 : ∀ (l : List Nat) (ts : List SV), ∃ ts', ∀ c, havocK l ts c = c ts' := by
    intro l
    induction l with
    | nil => intro ts; exact ⟨ts, fun _ => rfl⟩
    | cons t l ih => intro ts; obtain ⟨ts', h⟩ := ih (setT ts t .any); exact ⟨ts', fun c => by simp only [havocK, setK_eq]; exact h c⟩
  have h2 : ∀ (l : List (Nat × SV)) (ts : List SV), ∃ ts', ∀ c, updsK l ts c = c ts' := by
    intro l
    induction l with
    | nil => intro ts; exact ⟨ts, fun _ => rfl⟩
    | cons p l ih => obtain ⟨t, v⟩ := p; intro ts; obtain ⟨ts', h⟩ := ih (setT ts t v); exact ⟨ts', fun c => by simp only [updsK, setK_eq]; exact h c⟩
  have h3 : ∀ (l : List (Nat × KB)) (ks : List KB), ∃ ks', ∀ c, updsBK l ks c = c ks' := by
    intro l
    induction l with
    | nil => intro ks; exact ⟨ks, fun _ => rfl⟩
    | cons p l ih => obtain ⟨t, v⟩ := p; intro ks; obtain ⟨ks', h⟩ := ih (ks.set t v); exact ⟨ks', fun c => by simp only [updsBK, setBK_eq]; exact h c⟩
  obtain ⟨t1, e1⟩ := h1 (writes body) ts
  obtain ⟨t2, e2⟩ := h2 u t1
  obtain ⟨k2, e3⟩ := h3 k ks
  exact ⟨t2, k2, fun c' => by unfold headK; rw [e1, e2, e3]⟩

theorem rd_tf {M : Nat → Prop} {x : DV} {v : Value} (h : Den w M β (.d x) v) : v = (match x with | .tt => .bool true | .ff => .bool false | .bool b => .bool b | _ => v) := by
  cases den_data h <;> rfl

/-- The functions that are entered where they are called are as they stand in the program. -/
def INok (P : Program) (IN : Nat → Option Inl) : Prop := ∀ f i, IN f = some i → ∃ fn : Func, P.funcs[f]? = some fn ∧ fn.body = some i.body ∧ fn.results.toList = i.results ∧ fn.ntmps = i.nargs + i.extra ∧ ∀ (args : Array Value) (w : World), (callFunc f args).run P w = .ok (.enter f args) w

theorem anys_get (n j : Nat) (s : SV) (h : (anys n)[j]? = some s) : s = .any := by
  induction n generalizing j with
  | zero => simp [anys] at h
  | succ n ih => cases j with
    | zero => simp [anys] at h; exact h.symm
    | succ j => exact ih j (by simpa [anys] using h)
theorem anys_length (n : Nat) : (anys n).length = n := by
  induction n with
  | zero => rfl
  | succ n ih => simp [anys, ih]

/-- A function is entered: what is known. -/
theorem enter_sat {X : Nat → Prop} (hM : Mem X w β fp ks) {as : List SV} {vs : List Value} (hl : as.length = vs.length) (hd : ∀ (j : Nat) (s : SV) (u : Value), as[j]? = some s → vs[j]? = some u → Den w (Mx X fp) β s u) {k m : Nat} (hm : m = as.length + k) :
    Sat ⟨X, w, β, fp⟩ w β fp (as ++ anys k) ks { tmps := vs.toArray ++ Array.replicate (m - vs.toArray.size) undef, defers := [] } := by
  refine ⟨Went.refl hM, Dfs.nil _ _ _, by simp [anys_length]; omega, fun t s v hs hv => ?_⟩
  by_cases ht : t < as.length
  · rw [List.getElem?_append_left ht] at hs
    have hv' : vs[t]? = some v := by
      rw [Array.getElem?_append_left (by simp; omega)] at hv
      simpa using hv
    exact hd t s v hs hv'
  · rw [List.getElem?_append_right (by omega)] at hs
    rw [anys_get _ _ _ hs]
    exact .any _

end
end Go.Eng
namespace Go.Eng
open Go Go.RowKit

mutual
theorem subVK_eq (k i n : Nat) (s : SV) (K : SV → Prop) : subVK k i n s K = K (subV k i n s) := by
  match s with
  | .ptr j off =>
    simp only [subVK, subV]
    split <;> rfl
  | .agg l => simp only [subVK, subV]; exact subLK_eq k i n l _
  | .tup l => simp only [subVK, subV]; exact subLK_eq k i n l _
  | .fn f l => simp only [subVK, subV]; exact subLK_eq k i n l _
  | .d _ => simp only [subVK, subV]
  | .aptr _ _ _ _ => simp only [subVK, subV]
  | .dptr _ _ => simp only [subVK, subV]
  | .all _ => simp only [subVK, subV]
  | .row _ _ _ => simp only [subVK, subV]
  | .cs _ _ _ _ => simp only [subVK, subV]
  | .rptr _ _ _ _ => simp only [subVK, subV]
  | .map _ => simp only [subVK, subV]
  | .ap _ _ _ => simp only [subVK, subV]
  | .np _ _ => simp only [subVK, subV]
  | .yl _ => simp only [subVK, subV]
  | .v _ => simp only [subVK, subV]
  | .any => simp only [subVK, subV]
theorem subLK_eq (k i n : Nat) (l : List SV) (K : List SV → Prop) : subLK k i n l K = K (subL k i n l) := by
  match l with
  | [] => simp only [subLK, subL]
  | a :: l => simp only [subLK, subL]; rw [subVK_eq, subLK_eq]
end
def subB (k i n : Nat) (l : List KB) : List KB := l.map (subK k i n)
theorem subBK_eq (k i n : Nat) (l : List KB) (K : List KB → Prop) : subBK k i n l K = K (subB k i n l) := by
  induction l generalizing K with
  | nil => rfl
  | cons b l ih => cases b <;> simp [subBK, subB, subK, subLK_eq] <;> (rw [ih]; rfl)
theorem subL_get (k i n : Nat) (l : List SV) (j : Nat) : (subL k i n l)[j]? = (l[j]?).map (subV k i n) := by
  induction l generalizing j with
  | nil => simp [subL]
  | cons a l ih => cases j <;> simp [subL, ih]
theorem subL_length (k i n : Nat) (l : List SV) : (subL k i n l).length = l.length := by
  induction l with
  | nil => rfl
  | cons a l ih => simp [subL, ih]

section
variable {X : Nat → Prop} {w : World} {M : Nat → Prop} {β : Env} {fp : Nat → Nat → Prop} {ks : List KB} {ts : List SV}

theorem Den.sub {k i : Nat} {L Li : Loc} (hk : β k = some L) (hi : β i = some Li) {s : SV} {v : Value} (h : Den w M β s v) : Den w M β (subV k i (L.b + 1) s) v := by
  induction h with
  | ptr j off L' hL' =>
    simp only [subV]
    split
    · rename_i hj
      cases beq_of hj
      obtain rfl : L' = L := Option.some.inj (hL'.symm.trans hk)
      exact .ap i _ off Li hi
    · exact .ptr j off L' hL'
  | agg l vs h1 _ h3 ih =>
    simp only [subV]
    refine .agg _ vs (by rw [subL_length]; exact h1) (fun j s u a b => ?_) h3
    rw [subL_get] at a
    cases hl : l[j]? with
    | none => rw [hl] at a; cases a
    | some s0 => rw [hl] at a; cases a; exact ih j s0 u hl b
  | tup l vs h1 _ ih =>
    simp only [subV]
    refine .tup _ vs (by rw [subL_length]; exact h1) (fun j s u a b => ?_)
    rw [subL_get] at a
    cases hl : l[j]? with
    | none => rw [hl] at a; cases a
    | some s0 => rw [hl] at a; cases a; exact ih j s0 u hl b
  | fn f l vs h1 _ ih =>
    simp only [subV]
    refine .fn f _ vs (by rw [subL_length]; exact h1) (fun j s u a b => ?_)
    rw [subL_get] at a
    cases hl : l[j]? with
    | none => rw [hl] at a; cases a
    | some s0 => rw [hl] at a; cases a; exact ih j s0 u hl b
  | d h => exact .d h
  | aptr i off len ix L h1 h2 h3 => exact .aptr i off len ix L h1 h2 h3
  | dptr cells off ad u h1 h2 h3 h4 => exact .dptr cells off ad u h1 h2 h3 h4
  | allNil i L h1 h2 => exact .allNil i L h1 h2
  | all i L h1 h2 => exact .all i L h1 h2
  | rowNil i L h1 h2 => exact .rowNil i L h1 h2
  | row i lo n off L h1 h2 h3 h4 => exact .row i lo n off L h1 h2 h3 h4
  | cs i off n c L h h1 => exact .cs i off n c L h h1
  | rptr i j off sz L h h1 => exact .rptr i j off sz L h h1
  | map i L h => exact .map i L h
  | ap i n off L h => exact .ap i n off L h
  | npNil i => exact .npNil i
  | np i n L h => exact .np i n L h
  | yl i L h => exact .yl i L h
  | v x => exact .v x
  | any x => exact .any x

theorem KBat.sub {k i : Nat} {L Li : Loc} (hk : β k = some L) (hi : β i = some Li) {L' : Loc} {f : Nat → Prop} {b : KB} (h : KBat w M β L' f b) : KBat w M β L' f (subK k i (L.b + 1) b) := by
  cases h with
  | cells t l vs h0 h1 h3 h4 h5 =>
    refine .cells t _ vs h0 h1 (by rw [subL_length]; exact h3) (fun j s u a b => ?_) h5
    rw [subL_get] at a
    cases hl : l[j]? with
    | none => rw [hl] at a; cases a
    | some s0 => rw [hl] at a; cases a; exact (h4 j s0 u hl b).sub hk hi
  | loop l ps asg body st r h0 h1 h2 h3 h4 h5 h6 h7 =>
    refine .loop _ ps asg body st r h0 h1 (by rw [subL_length]; exact h2) (fun j s u a b => ?_) h4 h5 h6 h7
    rw [subL_get] at a
    cases hl : l[j]? with
    | none => rw [hl] at a; cases a
    | some s0 => rw [hl] at a; cases a; exact (h3 j s0 u hl b).sub hk hi
  | rowNil e sz z f h0 h1 h2 h3 h4 => exact .rowNil e sz z f h0 h1 h2 h3 h4
  | row e sz n z f vs fz h0 h1 h2 hn h3 h4 h5 h6 h7 h8 h9 h10 => exact .row e sz n z f vs fz h0 h1 h2 hn h3 h4 h5 h6 h7 h8 h9 h10
  | map eks ka ea l es clock h0 h1 h2 h3 => exact .map eks ka ea l es clock h0 h1 h2 h3
  | arena t dom cols h0 h1 h2 => exact .arena t dom cols h0 h1 h2
  | obj φ h1 h2 => exact .obj φ h1 h2

def fpJoin (k i b : Nat) (fp : Nat → Nat → Prop) : Nat → Nat → Prop := fun j x => if j = k then False else if j = i then x = b ∨ fp i x else fp j x

theorem Mem.join (h : Mem X w β fp ks) {k i : Nat} {L : Loc} {t : TypeId} {l : List SV} {dom : Nat → Prop} {cols cols' : List Col} (hk : ks[k]? = some (.cells t l)) (hi : ks[i]? = some (.arena t dom cols)) (hL : β k = some L) (hlen : l.length = cols.length)
    (hput : putCK cols 0 (L.b + 1) (subL k i (L.b + 1) l) (fun c => c = cols')) :
    ¬ dom (L.b + 1) ∧ Went X w β fp w β (fpJoin k i L.b fp) (subB k i (L.b + 1) ((ks.set k .gone).set i (.arena t (fun m => m = L.b + 1 ∨ dom m) cols'))) := by
  obtain ⟨Li, hLi⟩ := h.ka i t dom cols hi
  have hki : k ≠ i := fun e => by subst e; rw [hk] at hi; cases hi
  have hbk := h.at hk (by simp) hL
  have hbi := h.at hi (by simp) hLi
  have hil : i < ks.length := (List.getElem?_eq_some_iff.1 hi).1
  have hkl : k < ks.length := (List.getElem?_eq_some_iff.1 hk).1
  cases hbk with
  | cells _ _ vs f0 f1 f3 f4 f5 =>
  cases hbi with
  | arena _ _ _ g0 g1 g2 =>
  have hnd : ¬ dom (L.b + 1) := fun e => hki (h.dis k i L.b ((f0 _).2 rfl) ((g0 _).2 e))
  refine ⟨hnd, ?_⟩
  obtain ⟨cN, hcN, p1, p2⟩ := putCK_spec hput
  rw [hcN] at p1 p2
  have hfp : ∀ j x, fpJoin k i L.b fp j x → ∃ j', fp j' x := fun j x hx => by
    unfold fpJoin at hx
    split at hx
    · exact hx.elim
    · split at hx
      · rcases hx with rfl | hx
        · exact ⟨k, (f0 _).2 rfl⟩
        · exact ⟨i, hx⟩
      · exact ⟨j, hx⟩
  have hM : ∀ b, Mx X (fpJoin k i L.b fp) b → Mx X fp b := fun b hm => hm.imp id (fun ⟨j, hj⟩ => hfp j b hj)
  have hget : ∀ (j : Nat) (b : KB), (subB k i (L.b + 1) ((ks.set k .gone).set i (.arena t (fun m => m = L.b + 1 ∨ dom m) cols')))[j]? = some b → (j = k ∧ b = .gone) ∨ (j = i ∧ b = .arena t (fun m => m = L.b + 1 ∨ dom m) cols') ∨ (j ≠ k ∧ j ≠ i ∧ ∃ b0, ks[j]? = some b0 ∧ b = subK k i (L.b + 1) b0) := fun j b hb => by
    unfold subB at hb
    rw [List.getElem?_map, List.getElem?_set, List.getElem?_set] at hb
    by_cases e1 : i = j
    · subst e1
      rw [if_pos rfl, if_pos (by simpa using hil)] at hb
      simp [subK] at hb
      exact .inr (.inl ⟨rfl, hb.symm⟩)
    · rw [if_neg e1] at hb
      by_cases e2 : k = j
      · subst e2
        rw [if_pos rfl, if_pos hkl] at hb
        simp [subK] at hb
        exact .inl ⟨rfl, hb.symm⟩
      · rw [if_neg e2, Option.map_eq_some_iff] at hb
        obtain ⟨b0, h1, h2⟩ := hb
        exact .inr (.inr ⟨Ne.symm e2, Ne.symm e1, b0, h1, h2.symm⟩)
  refine h.go (Step.refl _ _) (Ext.refl _) (fun j b hb => .inl (hfp j b hb)) (fun p q b hp hq => ?_) (fun j b hb => by obtain ⟨j', hj'⟩ := hfp j b hb; exact h.kw j' b hj') (fun j hj => h.kl j (by simpa [subB] using hj)) (fun j t' dom' c' hj => ?_) (fun j b hb => ?_) (fun j L' b hb hne hL' => ?_)
  · unfold fpJoin at hp hq
    by_cases p1 : p = k
    · rw [if_pos p1] at hp; exact hp.elim
    by_cases q1 : q = k
    · rw [if_pos q1] at hq; exact hq.elim
    rw [if_neg p1] at hp
    rw [if_neg q1] at hq
    have key : ∀ j, j ≠ k → j ≠ i → fp j b → b = L.b → False := fun j e1 _ hj eb => e1 (h.dis j k b hj ((f0 _).2 eb))
    by_cases p2 : p = i <;> by_cases q2 : q = i
    · omega
    · rw [if_pos p2] at hp
      rw [if_neg q2] at hq
      rcases hp with hp | hp
      · exact (key q q1 q2 hq hp).elim
      · exact absurd (h.dis q i b hq hp) q2
    · rw [if_neg p2] at hp
      rw [if_pos q2] at hq
      rcases hq with hq | hq
      · exact (key p p1 p2 hp hq).elim
      · exact absurd (h.dis p i b hp hq) p2
    · rw [if_neg p2] at hp
      rw [if_neg q2] at hq
      exact h.dis p q b hp hq
  · rcases hget j _ hj with ⟨_, e⟩ | ⟨rfl, _⟩ | ⟨_, _, b0, h1, h2⟩
    · cases e
    · exact ⟨Li, hLi⟩
    · cases b0 <;> simp [subK] at h2
      exact h.ka j _ _ _ h1
  · unfold fpJoin at hb
    split at hb
    · exact hb.elim
    · split at hb
      · rename_i e; subst e; exact ⟨Li, hLi⟩
      · exact h.kn j b hb
  · rcases hget j b hb with ⟨_, e⟩ | ⟨rfl, rfl⟩ | ⟨e1, e2, b0, h1, rfl⟩
    · exact absurd e hne
    · refine .inr ?_
      have hfi : ∀ x, fpJoin k j L.b fp j x ↔ (x = L.b ∨ fp j x) := fun x => by
        unfold fpJoin
        rw [if_neg (Ne.symm hki), if_pos rfl]
      refine .arena t _ _ (fun x => ?_) (fun e => ?_) (fun x hx => ?_)
      · rw [hfi, g0]
        simp
      · rcases e with e | e
        · omega
        · exact g1 e
      · rcases hx with hx | hx
        · have : x = L.b := by omega
          subst this
          refine ⟨vs, f1, by omega, fun q c u hc hu => ?_, f5⟩
          have hq : q < cols.length := by rw [← p1]; exact (List.getElem?_eq_some_iff.1 hc).1
          obtain ⟨c', e1, e2, e3⟩ := p2 q _ (List.getElem?_eq_getElem hq)
          rw [hc] at e1
          cases e1
          rcases e3 with ⟨_, _, v, hv, hden⟩ | ⟨e3, _⟩
          · rw [Nat.sub_zero, subL_get] at hv
            cases hl : l[q]? with
            | none => rw [hl] at hv; cases hv
            | some s0 =>
              rw [hl] at hv
              cases hv
              exact (hden _ _ _ _ ((f4 q s0 u hl hu).sub hL hLi)).mono (Step.refl _ _) (fun b _ e => hM b e) (Ext.refl _)
          · rw [subL_length] at e3
            omega
        · have hxn : x + 1 ≠ L.b + 1 := fun e => hnd (e ▸ hx)
          obtain ⟨vs', a1, a2, a3, a4⟩ := g2 x hx
          refine ⟨vs', a1, by omega, fun q c u hc hu => ?_, a4⟩
          have hq : q < cols.length := by rw [← p1]; exact (List.getElem?_eq_some_iff.1 hc).1
          obtain ⟨c', e1, e2, e3⟩ := p2 q _ (List.getElem?_eq_getElem hq)
          rw [hc] at e1
          cases e1
          rw [e2 _ hxn]
          exact (a3 q _ u (List.getElem?_eq_getElem hq) hu).mono (Step.refl _ _) (fun b _ e => hM b e) (Ext.refl _)
    · refine .inr ?_
      have hf : fpJoin k i L.b fp j = fp j := by
        funext x
        unfold fpJoin
        rw [if_neg e1, if_neg e2]
      rw [hf]
      have hne0 : b0 ≠ .gone := fun e => by subst e; exact hne rfl
      exact ((h.kb j L' b0 h1 hne0 hL').sub hL hLi).mono (Step.refl _ _) (fun b _ e => hM b e) (Ext.refl _) (fun _ _ => rfl)

theorem arenaOf_spec {t : TypeId} {l : List KB} {i0 i : Nat} (h : arenaOf t l i0 = some i) : ∃ j dom cols, i = i0 + j ∧ l[j]? = some (.arena t dom cols) := by
  induction l generalizing i0 with
  | nil => cases h
  | cons b l ih =>
    have next : arenaOf t l (i0 + 1) = some i → ∃ j dom cols, i = i0 + j ∧ (b :: l)[j]? = some (.arena t dom cols) := fun h => by
      obtain ⟨j, dom, cols, e, hj⟩ := ih h
      exact ⟨j + 1, dom, cols, by omega, by simpa using hj⟩
    cases b with
    | arena t' dom cols =>
      simp only [arenaOf] at h
      split at h
      · rename_i ht
        cases beq_of ht
        cases h
        exact ⟨0, dom, cols, rfl, rfl⟩
      · exact next h
    | _ => exact next h
theorem absAt_spec {l : List SV} {k i : Nat} (h : absAt ks l = some (k, i)) : ∃ (j off : Nat), l[j]? = some (SV.ptr k off) := by
  induction l with
  | nil => cases h
  | cons s l ih =>
    have next : absAt ks l = some (k, i) → ∃ (j off : Nat), (s :: l)[j]? = some (SV.ptr k off) := fun h => by
      obtain ⟨j, off, hj⟩ := ih h
      exact ⟨j + 1, off, by simpa using hj⟩
    cases s with
    | ptr k' off =>
      simp only [absAt] at h
      split at h
      · split at h
        · cases h; exact ⟨0, off, rfl⟩
        · exact next h
      · exact next h
    | _ => exact next h

theorem putCK_one {cols : List Col} {off n : Nat} {vs : List SV} {K : List Col → Prop} (h : putCK cols off n vs K) : ∃ c, putCK cols off n vs (fun x => x = c) ∧ K c :=
  (Ex.putC (l := cols) (off := off) (n := n) (vs := vs) (G := fun c K => K c) (fun c => Ex.self c)) K h

/-- The state goes on, one block having joined its family. -/
theorem absK_sound {B : Bs} {a : Act} {k i : Nat} {K : List SV → List KB → Prop} (hS : Sat B w β fp ts ks a) (hf : absF ts ks = some (k, i)) (h : absK ts ks k i K) : ∃ ts' ks' fp', K ts' ks' ∧ Sat B w β fp' ts' ks' a := by
  unfold absF at hf
  split at hf
  · obtain ⟨j, off, hj⟩ := absAt_spec hf
    have hjl : j < a.tmps.size := by rw [hS.len]; exact (List.getElem?_eq_some_iff.1 hj).1
    have hd := hS.tm j _ _ hj (Array.getElem?_eq_getElem hjl)
    have hL : ∃ L, β k = some L := by
      generalize a.tmps[j] = v at hd
      cases hd with
      | ptr _ _ L hL => exact ⟨L, hL⟩
    obtain ⟨L, hL⟩ := hL
    unfold absK at h
    rw [getBK_eq] at h
    split at h
    · rename_i t l hgk
      rw [getBK_eq] at h
      split at h
      · rename_i t' dom cols hgi
        split at h
        · rename_i hb
          rw [Bool.and_eq_true, lenL_eq, lenC_eq] at hb
          have h1 := beq_of hb.1
          have h2 := beq_of hb.2
          subst h2
          have hk := getB_some hgk (by simp)
          have hi := getB_some hgi (by simp)
          have hnd : ¬ dom (L.b + 1) := by
            obtain ⟨Li, hLi⟩ := hS.went.mem.ka i _ _ _ hi
            have hbk := hS.went.mem.at hk (by simp) hL
            have hbi := hS.went.mem.at hi (by simp) hLi
            cases hbk with
            | cells _ _ vs f0 =>
            cases hbi with
            | arena _ _ _ g0 =>
            intro e
            have := hS.went.mem.dis k i L.b ((f0 _).2 rfl) ((g0 _).2 e)
            subst this
            rw [hk] at hi
            cases hi
          have h := h (L.b + 1) (by omega) hnd
          rw [subLK_eq] at h
          obtain ⟨cols', hput, h⟩ := putCK_one h
          rw [setBK_eq, setBK_eq, subBK_eq, subLK_eq] at h
          obtain ⟨Li, hLi⟩ := hS.went.mem.ka i _ _ _ hi
          obtain ⟨_, hW⟩ := hS.went.mem.join hk hi hL h1 hput
          have hS' := hS.on hW
          refine ⟨_, _, _, h, hS'.went, hS'.df, by rw [subL_length]; exact hS'.len, fun t s v hs hv => ?_⟩
          rw [subL_get] at hs
          cases hl : ts[t]? with
          | none => rw [hl] at hs; cases hs
          | some s0 => rw [hl] at hs; cases hs; exact (hS'.tm t s0 v hl hv).sub hL hLi
        · exact h.elim
      · exact h.elim
    · exact h.elim
  · cases hf

end
end Go.Eng
namespace Go.Eng
open Go Go.RowKit

section
variable {P : Program} {X : Nat → Prop} {w : World} {β : Env} {fp : Nat → Nat → Prop} {ks : List KB}

/-- The record of a range over a function goes on. -/
theorem Mem.turn (h : Mem X w β fp ks) {i : Nat} {L : Loc} {l : List SV} {ps : List Tmp} {asg body : Code} {st : RS} {r r' : Loop} (hi : ks[i]? = some (.loop l ps asg body st)) (hL : β i = some L) (hr : w.heap[L.b]? = some (.loop r))
    (e1 : r'.tmps = r.tmps) (e2 : r'.params = r.params) (e3 : r'.assign = r.assign) (e4 : r'.body = r.body) {k' : KB} (hk' : k' = .gone ∨ ∃ st', k' = .loop l ps asg body st' ∧ RSok r' st') :
    Went X w β fp (World.setBlock w L.b (.loop r')) β fp (ks.set i k') := by
  have hb := h.kb i L _ hi (by simp) hL
  cases hb with
  | loop _ _ _ _ _ r0 h0 h1 h2 h3 h4 h5 h6 h7 =>
    rw [hr] at h1
    cases h1
    have hst : Step (fun b => ∃ i, fp i b) w (World.setBlock w L.b (.loop r')) := Step.setBlock w ⟨i, (h0 _).2 rfl⟩ _
    refine h.go hst (Ext.refl _) (fun j b hb => .inl ⟨j, hb⟩) h.dis (fun j b hb => by simpa [World.setBlock] using h.kw j b hb) (fun j hj => h.kl j (by simpa using hj)) (h.ka_set hL k') h.kn (fun j L' k hk hne hL' => ?_)
    rw [List.getElem?_set] at hk
    split at hk
    · rename_i e
      subst e
      split at hk
      · cases hk
        rw [hL] at hL'
        cases hL'
        rcases hk' with rfl | ⟨st', rfl, hok⟩
        · exact absurd rfl hne
        · exact .inr (.loop l ps asg body st' r' h0 (setBlock_same w L.b _ (lt_of_block hr)) (by rw [e1]; exact h2) (fun j s u hs hu => by
            rw [e1] at hu
            exact (h3 j s u hs hu).mono (hst.mono (fun _ _ e => .inr e)) (fun _ _ e => e) (Ext.refl _)) (by rw [e2]; exact h4) (by rw [e3]; exact h5) (by rw [e4]; exact h6) hok)
      · cases hk
    · rename_i hji
      exact .inl ⟨hk, hL', rfl, fun b hb => setBlock_other w L.b b _ (fun e => hji (h.dis i j b ((h0 _).2 e) hb))⟩

theorem getLoop_run {r : Loop} {l : Nat} (h : w.heap[l]? = some (.loop r)) : (Instr.getLoop l).run P w = .ok r w := by
  have : (getObj l).run P w = .ok (.loop r) w := by simp [getObj, Sem.run, h]
  simp [Instr.getLoop, this]
theorem setLoop_run {r : Loop} {l : Nat} (h : w.heap[l]? = some (.loop r)) (o : Obj) : (setObj l o).run P w = .ok () (World.setBlock w l o) := by
  simp [setObj, Sem.run, h, World.setBlock]
theorem beginRound_run {r : Loop} {l : Nat} (h : w.heap[l]? = some (.loop r)) (hs : r.state = .ready) : (Instr.beginRound l).run P w = .ok () (World.setBlock w l (.loop { r with state := .busy })) := by
  simp [Instr.beginRound, getLoop_run h, setLoop_run h, hs]
theorem endRound_run {r : Loop} {l : Nat} (h : w.heap[l]? = some (.loop r)) (j : Option Code) : (Instr.endRound l j).run P w = .ok (.bool j.isNone) (World.setBlock w l (.loop { r with state := if j.isNone then .ready else .done, pending := j })) := by
  simp [Instr.endRound, getLoop_run h, setLoop_run h]
theorem endLoop_run {r : Loop} {l : Nat} (h : w.heap[l]? = some (.loop r)) (hs : r.state ≠ .busy) : (Instr.endLoop l).run P w = .ok r.pending (World.setBlock w l (.loop { r with state := .exhausted })) := by
  simp [Instr.endLoop, getLoop_run h, setLoop_run h, hs]
end

section
variable {P : Program} {TT : Nat → Option TI} {IN : Nat → Option Inl}

/-- In which round the code is. -/
def RdOk (q rd : Option Nat) (β : Env) : Prop :=
  match q with
  | none => rd = none
  | some q => ∃ L, β q = some L ∧ rd = some L.b

/-- What `run` comes to, at so much fuel. -/
def Sound (P : Program) (TT : Nat → Option TI) (IN : Nat → Option Inl) (m : Nat) : Prop :=
  ∀ (B : Bs) (nb : Nb) (rd : Option Nat) (n : Nat) (Q : Exit → Act → World → Prop) (K : Exit → List SV → List KB → Prop), (∀ i, nb.n ≤ i → B.β0 i = none) → RdOk nb.rd rd B.β0 →
    (∀ e ts ks a w β fp, K e ts ks → Sat B w β fp ts ks a → Q e a w) →
    ∀ (stk : List It) (ts : List SV) (ks : List KB) (a : Act) (w : World) (β : Env) (fp : Nat → Nat → Prop), run P TT IN m nb stk ts ks K → okStk stk → Sat B w β fp ts ks a →
      E P rd n (fun J a w => ∃ ts ks β fp, J ts ks ∧ Sat B w β fp ts ks a) Q stk .normal a w

theorem setsK_spec {R : SV → Value → Prop} : ∀ (ps : List Tmp) (l as : List SV) (T : Array Value) (vs : List Value) (k : List SV → Prop), setsK l ps as k → as.length = vs.length → l.length = T.size →
    (∀ (j : Nat) (s : SV) (u : Value), l[j]? = some s → T[j]? = some u → R s u) → (∀ (j : Nat) (s : SV) (u : Value), as[j]? = some s → vs[j]? = some u → R s u) →
    ∃ l', k l' ∧ ps.length = vs.length ∧ l'.length = ((ps.zip vs).foldl (fun t x => t.setIfInBounds x.1 x.2) T).size ∧ ∀ (j : Nat) (s : SV) (u : Value), l'[j]? = some s → ((ps.zip vs).foldl (fun t x => t.setIfInBounds x.1 x.2) T)[j]? = some u → R s u
  | [], l, [], T, [], k, h, _, h2, h3, _ => ⟨l, h, rfl, h2, h3⟩
  | t :: ps, l, a :: as, T, v :: vs, k, h, h1, h2, h3, h4 => by
    simp only [setsK, setK_eq, setT_eq] at h
    obtain ⟨l', a1, a2, a3, a4⟩ := setsK_spec ps (l.set t a) as (T.setIfInBounds t v) vs k h (by simpa using h1) (by simpa using h2) (fun j s u hs hu => by
      rw [List.getElem?_set] at hs
      rw [Array.getElem?_setIfInBounds] at hu
      split at hs
      · rename_i e
        rw [if_pos e] at hu
        split at hs
        · split at hu
          · cases hs; cases hu; exact h4 0 a v rfl rfl
          · cases hu
        · cases hs
      · rename_i e
        rw [if_neg e] at hu
        exact h3 j s u hs hu) (fun j s u hs hu => h4 (j + 1) s u (by simpa using hs) (by simpa using hu))
    exact ⟨l', a1, by simp [a2], a3, a4⟩

theorem yield_sound {m : Nat} (IH : Sound P TT IN m) {X : Nat → Prop} {w : World} {β : Env} {fp : Nat → Nat → Prop} {ts : List SV} {ks : List KB} {a : Act} {rd : Option Nat} {n : Nat} {Q : Exit → Act → World → Prop} {o : Oper} {K : SV → List KB → Prop} {next : Act → World → Prop}
    {g : Operand} {args : Array Operand} {tys : Array TypeId} {i : Nat} (ho : o.op = .call ⟨.value g, args, tys⟩) (hv : Den w (Mx X fp) β (.yl i) (a.eval g)) (h : yieldK (run P TT IN m) i (vals ts args.toList) ks K) (hM : Mem X w β fp ks) (hT : ∀ x, Den w (Mx X fp) β (val ts x) (a.eval x))
    (done : ∀ (s : SV) (k1 : List KB) (v : Value) (w' : World) (β' : Env) (fp' : Nat → Nat → Prop), K s k1 → Went X w β fp w' β' fp' k1 → Den w' (Mx X fp') β' s v → next (a.put o.dst v) w') : o.wpIn (wideF rd) n P a w next Q := by
  obtain ⟨L, hL, ev⟩ : ∃ L, β i = some L ∧ a.eval g = .func (.yield L.b) #[] #[] := by
    generalize a.eval g = av at hv
    cases hv with
    | yl _ L hL => exact ⟨L, hL, rfl⟩
  unfold yieldK at h
  rw [getBK_eq] at h
  split at h
  · rename_i tc ps asg body st hg
    split at h
    · have hki := getB_some hg (by simp)
      have hb := hM.at hki (by simp) hL
      cases hb with
      | loop _ _ _ _ _ r h0 h1 h2 h3 h4 h5 h6 h7 =>
        obtain ⟨al, ad⟩ := args_den (a := a) hT args.toList [] [] rfl (fun j s u hs => by simp at hs)
        simp only [List.append_nil] at al ad
        obtain ⟨t1, h, p1, p2, p3⟩ := setsK_spec (R := Den w (Mx X fp) β) ps tc _ r.tmps _ _ h al h2 h3 ad
        rw [lenBK_eq, Nat.zero_add] at h
        refine ⟨fun _ _ => trivial, ?_⟩
        rw [Oper.semAt_eq _ _ _ (by rw [ho]; simp)]
        have hrun : (execOp a.eval o).run P w = .ok (.round L.b r.fn ((ps.zip (args.toList.map a.eval)).foldl (fun t x => t.setIfInBounds x.1 x.2) r.tmps) asg body) w := by
          have hsz : ¬ (#[] ++ args.map a.eval).size ≠ r.params.size := by
            have : r.params.size = ps.length := by rw [← h4]; simp
            rw [this, p1]; simp
          have hf : (r.params.zip (#[] ++ args.map a.eval)).foldl (fun tmps x => match x with | (t, a) => tmps.setIfInBounds t a) r.tmps = (ps.zip (args.toList.map a.eval)).foldl (fun t x => t.setIfInBounds x.1 x.2) r.tmps := by
            rw [← h4, ← Array.foldl_toList]
            simp
          simp only [execOp, ho, resolve, ev, Deferred.ofValue, Sem.run_bind, Sem.run_pure, Result.andThen_ok, invoke, Instr.yield, getLoop_run h1, hsz, if_false]
          rw [hf, h5, h6]
        rw [hrun, Oper.uponIn_round]
        refine ⟨fun hsm => by simp [wideF, Fence.wide] at hsm, roundIn_of_wpIn trivial ?_⟩
        have hS0 : Sat ⟨X, w, β, fp⟩ w β fp t1 ks { tmps := (ps.zip (args.toList.map a.eval)).foldl (fun t x => t.setIfInBounds x.1 x.2) r.tmps, defers := [] } := ⟨Went.refl hM, Dfs.nil _ _ _, p2.symm, p3⟩
        have := IH ⟨X, w, β, fp⟩ ⟨ks.length, some i⟩ (some L.b) (n - 1) (Exit.then (fun a₁ w₁ => ∃ w₂, (Instr.beginRound L.b).run P w₁ = .ok () w₂ ∧ body.wpIn (wideF (some L.b)) (n - 1) P (roundPost P L.b fun
            | .returned v, w'' => next (a.put o.dst v) w''
            | .panicked chain, w'' => Q (.panic chain) a w''
            | .outgrown, _ => LetsOut Q) a₁ w₂) (fun _ _ _ => False)) _ hM.kl ⟨L, hL, rfl⟩ (fun e t2 k2 a2 w2 β2 fp2 hK hS2 => by
          cases e with
          | normal =>
            have hK : getBK k2 i _ := hK
            rw [getBK_eq] at hK
            split at hK
            · rename_i tc' ps' asg' body' st' hg2
              split at hK
              · rw [setBK_eq] at hK
                have hki2 := getB_some hg2 (by simp)
                have hL2 := hS2.went.ext i L hL
                have hb2 := hS2.went.mem.at hki2 (by simp) hL2
                cases hb2 with
                | loop _ _ _ _ _ r2 g0 g1 g2 g3 g4 g5 g6 g7 =>
                  have hW := hS2.went.mem.turn (r' := { r2 with state := .busy }) hki2 hL2 g1 rfl rfl rfl rfl (.inr ⟨.busy, rfl, rfl⟩)
                  refine ⟨_, beginRound_run g1 g7.1, ?_⟩
                  have := IH ⟨X, w, β, fp⟩ ⟨ks.length, some i⟩ (some L.b) (n - 1) (roundPost P L.b fun
                    | .returned v, w'' => next (a.put o.dst v) w''
                    | .panicked chain, w'' => Q (.panic chain) a w''
                    | .outgrown, _ => LetsOut Q) _ hM.kl ⟨L, hL, rfl⟩ (fun e t4 k4 a4 w4 β4 fp4 hK hS4 => by
                    have fin : ∀ (j : Option Code) (st : RS) (s : SV), (∀ r : Loop, RSok { r with state := if j.isNone then .ready else .done, pending := j } st) → (∀ w M β, Den w M β s (.bool j.isNone)) → toK k4 i st (fun k5 => K s k5) → ∃ v w', (Instr.endRound L.b j).run P w4 = .ok v w' ∧ next (a.put o.dst v) w' := fun j st s hst hs hK => by
                      unfold toK at hK
                      rw [getBK_eq] at hK
                      split at hK
                      · rename_i tc5 ps5 asg5 body5 st5 hg4
                        rw [setBK_eq] at hK
                        have hki4 := getB_some hg4 (by simp)
                        have hL4 := hS4.went.ext i L hL
                        have hb4 := hS4.went.mem.at hki4 (by simp) hL4
                        cases hb4 with
                        | loop _ _ _ _ _ r4 q0 q1 q2 q3 q4 q5 q6 q7 =>
                          have hW5 := hS4.went.mem.turn (r' := { r4 with state := if j.isNone then .ready else .done, pending := j }) hki4 hL4 q1 rfl rfl rfl rfl (.inr ⟨st, rfl, hst r4⟩)
                          exact ⟨_, _, endRound_run q1 j, done _ _ _ _ _ _ hK (hS4.went.trans hW5) (hs _ _ _)⟩
                      · exact hK.elim
                    cases e with
                    | normal => exact fin none .ready (.d .tt) (fun r => ⟨rfl, rfl⟩) (fun _ _ _ => .d .tt) hK
                    | ret => exact fin (some .ret) (.done .ret) (.d .ff) (fun r => ⟨rfl, rfl⟩) (fun _ _ _ => .d .ff) hK
                    | exit id => exact fin (some (.exit id)) (.done (.exit id)) (.d .ff) (fun r => ⟨rfl, rfl⟩) (fun _ _ _ => .d .ff) hK
                    | _ => exact hK.elim) [.code body] _ _ _ _ _ _ hK trivial (hS2.on hW)
                  exact wpIn_mono this (fun e a' w' he => he)
              all_goals exact hK.elim
            · exact hK.elim
          | _ => exact hK.elim) [.code asg] _ _ _ _ _ _ h trivial hS0
        exact wpIn_mono this (fun e a' w' he => he)
    all_goals exact h.elim
  · exact h.elim

theorem Sat.lay {B : Bs} {w : World} {β : Env} {fp : Nat → Nat → Prop} {ts : List SV} {ks : List KB} {a : Act} (hS : Sat B w β fp ts ks a) (r : Loop) (h1 : r.tmps = a.tmps) (h2 : r.state = .ready) (h3 : r.pending = none) :
    Went B.X w β fp (w.alloc (.loop r)) (upd β ks.length (some (locB w.heap.size))) (updP fp ks.length (· = w.heap.size)) (ks ++ [.loop ts r.params.toList r.assign r.body .ready]) := by
  have hM := hS.went.mem
  have hn := hM.kl ks.length (Nat.le_refl _)
  exact hM.alloc _ (locB w.heap.size) _ rfl (.loop ts _ _ _ .ready r (fun x => Iff.rfl) (by show (w.heap.push _)[w.heap.size]? = _; simp) (by rw [h1]; exact hS.len.symm) (fun j s u hs hu => (hS.tm j s u hs (by rw [← h1]; exact hu)).mono (Step.alloc _ w _) (alloc_M hM _) (ext_upd _ hn)) rfl rfl rfl ⟨h2, h3⟩)

theorem Sat.mark {B : Bs} {w : World} {β : Env} {fp : Nat → Nat → Prop} {ts : List SV} {ks : List KB} {a : Act} (hS : Sat B w β fp ts ks a) :
    Sat B (w.alloc (.deferred (some []))) β fp ts ks { a with defers := { target := .collected w.heap.size, args := #[] } :: a.defers } := by
  have hM := hS.went.mem
  have hS' := hS.on (hM.quiet (Step.alloc _ w (.deferred (some []))))
  refine ⟨hS'.went, ⟨fun d hd => ?_, List.pairwise_cons.2 ⟨fun d hd r r' e1 e2 => ?_, hS'.df.un⟩⟩, hS'.len, hS'.tm⟩
  · rcases List.mem_cons.1 hd with rfl | hd
    · refine ⟨w.heap.size, rfl, hS.went.st.size, by show (w.heap.push _)[w.heap.size]? = _; simp, ?_⟩
      rintro (hx | ⟨i, hi⟩)
      · have := hM.xa _ hx; omega
      · have := hM.kw i _ hi; omega
    · exact hS'.df.marks d hd
  · cases e1
    obtain ⟨q, e3, _, e4, _⟩ := hS.df.marks d hd
    rw [e2] at e3
    cases e3
    have := (Array.getElem?_eq_some_iff.1 e4).1
    omega

theorem newObj_run (w : World) (o : Obj) : (newObj o).run P w = .ok w.heap.size (w.alloc o) := by
  simp [newObj, Sem.run]
/-- The record of a range over a function is laid. -/
theorem enter_loop {B : Bs} {w : World} {β : Env} {fp : Nat → Nat → Prop} {ts : List SV} {ks : List KB} {a : Act} {nb : Nb} {rd : Option Nat} (hS : Sat B w β fp ts ks a) (hrd : RdOk nb.rd rd B.β0) {K : Prop} (h : inRdK nb ks K) (fn : FuncId) (ps : Array Tmp) (asg body : Code) :
    K ∧ ∃ (l : Nat) (mark : List Deferred) (w1 : World) (L : Loc) (fp1 : Nat → Nat → Prop), (Instr.enterLoop fn a.tmps ps asg body rd).run P w = .ok (l, mark) w1 ∧ L.b = l ∧
      Went B.X w β fp w1 (upd β ks.length (some L)) fp1 (ks ++ [.loop ts ps.toList asg body .ready]) ∧ Sat B w1 (upd β ks.length (some L)) fp1 ts (ks ++ [.loop ts ps.toList asg body .ready]) { a with defers := mark ++ a.defers } := by
  unfold inRdK at h
  split at h
  · rename_i hq
    rw [hq] at hrd
    cases hrd
    have hm := hS.mark
    have hW := hm.lay { state := .ready, pending := none, fn := fn, tmps := a.tmps, params := ps, assign := asg, body := body, defers := w.heap.size } rfl rfl rfl
    have hQ := hS.went.mem.quiet (Step.alloc _ w (.deferred (some [])))
    refine ⟨h, (w.alloc (.deferred (some []))).heap.size, [{ target := .collected w.heap.size, args := #[] }], _, locB (w.alloc (.deferred (some []))).heap.size, _, ?_, rfl, hQ.trans hW, hm.on hW⟩
    simp only [Instr.enterLoop, Sem.run_bind, newObj_run, Result.andThen_ok, Sem.run_pure]
  · rename_i q hq
    rw [hq] at hrd
    obtain ⟨L, hL, rfl⟩ := hrd
    rw [getBK_eq] at h
    split at h
    · rename_i t1 p1 a1 b1 s1 hg
      have hb := hS.went.mem.at (getB_some hg (by simp)) (by simp) (hS.went.ext q L hL)
      cases hb with
      | loop _ _ _ _ _ r h0 h1 h2 h3 h4 h5 h6 h7 =>
        have hW := hS.lay { state := .ready, pending := none, fn := fn, tmps := a.tmps, params := ps, assign := asg, body := body, defers := r.defers } rfl rfl rfl
        refine ⟨h, w.heap.size, [], _, locB w.heap.size, _, ?_, rfl, hW, hS.on hW⟩
        simp only [Instr.enterLoop, Sem.run_bind, getLoop_run h1, newObj_run, Result.andThen_ok, Sem.run_pure]
    · exact h.elim

theorem execS_sound (hTT : TTok P TT) (hIN : INok P IN) {m : Nat} (IH : Sound P TT IN m) {B : Bs} {w : World} {β : Env} {fp : Nat → Nat → Prop} {ts : List SV} {ks : List KB} {a : Act} {rd : Option Nat} {n : Nat} {Q : Exit → Act → World → Prop} {o : Oper} {K : List SV → List KB → Prop} {next : Act → World → Prop}
    (h : execS P TT IN (run P TT IN m) o ts ks K) (hS : Sat B w β fp ts ks a) (hn : ∀ ts' ks' a' w' β' fp', K ts' ks' → Sat B w' β' fp' ts' ks' a' → next a' w') : o.wpIn (wideF rd) n P a w next Q := by
  have hM := hS.went.mem
  have hT := hS.val
  have done : ∀ (s : SV) (k1 : List KB) (v : Value) (w' : World) (β' : Env) (fp' : Nat → Nat → Prop), K (putT o.dst s ts) k1 → Went B.X w β fp w' β' fp' k1 → Den w' (Mx B.X fp') β' s v → next (a.put o.dst v) w' := fun s k1 v w' β' fp' hk hW hd =>
    hn _ _ _ _ _ _ hk ((hS.on hW).put _ hd)
  unfold execS at h
  split at h
  · rename_i g args tys ho
    rw [valK_eq] at h
    have hv := hT g
    split at h
    · rename_i f caps hg
      rw [hg] at hv
      rw [valsK_eq, appK_eq] at h
      obtain ⟨vs, ev, hl, hd⟩ := fn_value hv
      split at h
      · rename_i nargs extra results body hin
        split at h
        · rename_i hbeq
          rw [lenL_eq] at hbeq
          have hbeq := beq_of hbeq
          rw [appK_eq, lenBK_eq, Nat.zero_add] at h
          obtain ⟨fn, hfn, hbody, hres, hnt, hent⟩ := hIN f _ hin
          simp only at hbody hres hnt
          obtain ⟨al, ad⟩ := args_den (a := a) hT args.toList caps vs hl hd
          refine call_wp ho ev hent (R := fun e w' => ∃ v, e = .returned v ∧ next (a.put o.dst v) w') ?_ (fun e w' he => he)
          refine (callsIn_wide (n := 0)).1 (callsIn_of_wp_marks hfn hbody trivial ?_ rfl)
          have hS0 := enter_sat hM al ad (k := extra) (m := fn.ntmps) (by omega)
          have := IH ⟨B.X, w, β, fp⟩ ⟨ks.length, none⟩ none 0 (bodyPostM (wideF none) 0 P fn (fun e w' => ∃ v, e = .returned v ∧ next (a.put o.dst v) w')) _ hM.kl rfl (fun e ts2 ks2 a2 w2 β2 fp2 hK hS2 => by
            have fin : resK TT ts2 ks2 results (fun vs => putDst o.dst (retV vs) ts (fun ts' => K ts' ks2)) → LeavesInM (wideF none) 0 P fn a2.tmps (fun e w' => ∃ v, e = .returned v ∧ next (a.put o.dst v) w') a2.defers .returning w2 := fun hK => by
              refine leave_marks (a := a2) (fun w3 hS3 => ?_) a2.defers w2 hS2
              rw [← hres] at hK
              obtain ⟨ss, us, v, hc, e1, e3, hrun, _, hden⟩ := results_spec (P := P) hTT hS3 hK
              rw [putDst_eq] at hc
              exact ⟨v, hrun, v, rfl, done _ _ _ _ _ _ hc hS3.went hden⟩
            cases e with
            | normal => exact fin hK
            | ret => exact fin hK
            | _ => exact hK.elim) [.code body] _ _ _ _ _ _ h trivial hS0
          exact wpIn_mono this (fun e a' w' he => he)
        · exact h.elim
      · refine seqStop_sound hTT ho ev hl hd h hM hT (fun s k1 v w' β' fp' hk hW hden => ?_)
        rw [putDst_eq] at hk
        exact done _ _ _ _ _ _ hk hW hden
    · rename_i i hg
      rw [hg] at hv
      rw [valsK_eq] at h
      refine yield_sound IH ho hv h hM hT (fun s k1 v w' β' fp' hk hW hden => ?_)
      rw [putDst_eq] at hk
      exact done _ _ _ _ _ _ hk hW hden
    · exact h.elim
  · split at h
    · refine mev_sound hTT h hM hT (fun s k1 v w' β' fp' hk hW hden => ?_)
      rw [putDst_eq] at hk
      exact done _ _ _ _ _ _ hk hW hden
    · obtain ⟨s, v, hk, hrun, hd⟩ := pev_sound hTT h hT hM.kb' hM.apart
      rw [putDst_eq] at hk
      exact wpIn_of_run (nodefer_pev h) hrun (done _ _ _ _ _ _ hk (Went.refl hM) hd)

theorem ops_head {all os : List Oper} {o : Oper} (h : ∃ i, all.drop i = o :: os) : all.toArray[all.length - (o :: os).length]? = some o ∧ all.length - (o :: os).length + 1 = all.length - os.length ∧ ∃ i, all.drop i = os := by
  obtain ⟨i, hd⟩ := h
  have hlt : i < all.length := by
    rcases Nat.lt_or_ge i all.length with h | h
    · exact h
    · rw [List.drop_eq_nil_of_le h] at hd; cases hd
  have hl : (o :: os).length = all.length - i := by rw [← hd]; simp
  rw [List.drop_eq_getElem_cons hlt] at hd
  obtain ⟨h1, h2⟩ := List.cons.inj hd
  have hi : all.length - (o :: os).length = i := by omega
  rw [hi]
  refine ⟨by simp [hlt, h1], by simp at hl; omega, i + 1, h2⟩

theorem run_sound (hTT : TTok P TT) (hIN : INok P IN) (hmix : P.follows .mixedOrders = true) : ∀ m, Sound P TT IN m := by
  intro m
  induction m using Nat.strongRecOn with
  | _ m ih =>
  intro B nb rd n Q K hnb hrd hQ stk ts ks a w β fp h hok hS
  cases m with
  | zero => exact h.elim
  | succ m =>
    rw [run_succ] at h
    have IH := fun stk ts ks a w β fp h hok hS => ih m (by omega) B nb rd n Q K hnb hrd hQ stk ts ks a w β fp h hok hS
    unfold stepF at h
    split at h
    · exact hQ _ _ _ _ _ _ _ h hS
    · rename_i id r
      exact IH r _ _ _ _ _ _ h hok hS
    · rename_i r
      have := IH r _ _ _ _ _ _ h hok hS
      exact this
    · exact ⟨_, _, _, _, h, hS⟩
    · cases hok.1
    · rename_i hs all os r
      obtain ⟨_, hdrop, hok'⟩ := hok
      cases os with
      | nil =>
        simp only at h
        show wpOpsIn _ _ _ _ _ (List.range' _ 0) _ _
        simpa [wpOpsIn] using IH _ _ _ _ _ _ _ h hok' hS
      | cons o os =>
        simp only at h
        obtain ⟨hi, hi1, hdrop'⟩ := ops_head hdrop
        show wpOpsIn _ _ _ _ _ (List.range' (all.length - (o :: os).length) (o :: os).length) _ _
        rw [List.length_cons, List.range'_succ, wpOpsIn_cons]
        rw [List.length_cons] at hi hi1
        have okr : okStk (.ops false hs all os :: r) := ⟨rfl, hdrop', hok'⟩
        have rest : ∀ ts' ks' a' w' β' fp', run P TT IN m nb (.ops false hs all os :: r) ts' ks' K → Sat B w' β' fp' ts' ks' a' → wpOpsIn (wideF rd) n P all.toArray (E P rd n (fun J a w => ∃ ts ks β fp, J ts ks ∧ Sat B w β fp ts ks a) Q r) (List.range' (all.length - (os.length + 1) + 1) os.length) a' w' := fun ts' ks' a' w' β' fp' hr hS' => by
          rw [hi1]
          exact IH _ _ _ _ _ _ _ hr okr hS'
        have doit : ∀ (g : guardOk all ts o = some true), execS P TT IN (run P TT IN m) o ts ks (fun ts' ks' => run P TT IN m nb (.ops false hs all os :: r) ts' ks' K) → wpOpIn (wideF rd) n P all.toArray (E P rd n (fun J a w => ∃ ts ks β fp, J ts ks ∧ Sat B w β fp ts ks a) Q r) (all.length - (os.length + 1)) (wpOpsIn (wideF rd) n P all.toArray (E P rd n (fun J a w => ∃ ts ks β fp, J ts ks ∧ Sat B w β fp ts ks a) Q r) (List.range' (all.length - (os.length + 1) + 1) os.length)) a w := fun hg h => by
          unfold wpOpIn
          have hw := wanted_of (all := all) hS.slot hg
          simp only [hi, hw, if_true]
          exact execS_sound hTT hIN (ih m (by omega)) h hS (fun ts' ks' a' w' β' fp' hr hS' => rest ts' ks' a' w' β' fp' hr hS')
        have skip : ∀ (g : guardOk all ts o = some false), putDst o.dst skipV ts (fun ts' => run P TT IN m nb (.ops false hs all os :: r) ts' ks K) → wpOpIn (wideF rd) n P all.toArray (E P rd n (fun J a w => ∃ ts ks β fp, J ts ks ∧ Sat B w β fp ts ks a) Q r) (all.length - (os.length + 1)) (wpOpsIn (wideF rd) n P all.toArray (E P rd n (fun J a w => ∃ ts ks β fp, J ts ks ∧ Sat B w β fp ts ks a) Q r) (List.range' (all.length - (os.length + 1) + 1) os.length)) a w := fun hg h => by
          unfold wpOpIn
          have hw := wanted_of (all := all) hS.slot hg
          simp only [hi, hw, Bool.false_eq_true, if_false]
          rw [putDst_eq] at h
          exact ⟨fun _ _ => trivial, rest _ _ _ _ _ _ h (hS.put _ (.v _))⟩
        split at h
        · rename_i hg
          exact doit (by simp [guardOk, hg]) h
        · rename_i j want hg
          split at h
          · exact h.elim
          · rename_i t hd
            rw [getTK_eq] at h
            split at h
            · rename_i hv
              split at h
              · exact doit (by simp [guardOk, hg, hd, hv]) h
              · exact skip (by simp [guardOk, hg, hd, hv]) h
            · rename_i hv
              split at h
              · exact doit (by simp [guardOk, hg, hd, hv]) h
              · exact skip (by simp [guardOk, hg, hd, hv]) h
            · rename_i hv
              exact skip (by simp [guardOk, hg, hd, hv]) h
            · rename_i b hv
              have okc : okStk (.ops false hs all (o :: os) :: r) := ⟨rfl, hdrop, hok'⟩
              have fin : run P TT IN m nb (.ops false hs all (o :: os) :: r) (setT ts t (.d (if b then .tt else .ff))) ks K → wpOpIn (wideF rd) n P all.toArray (E P rd n (fun J a w => ∃ ts ks β fp, J ts ks ∧ Sat B w β fp ts ks a) Q r) (all.length - (os.length + 1)) (wpOpsIn (wideF rd) n P all.toArray (E P rd n (fun J a w => ∃ ts ks β fp, J ts ks ∧ Sat B w β fp ts ks a) Q r) (List.range' (all.length - (os.length + 1) + 1) os.length)) a w := fun h => by
                have := IH _ _ _ _ _ _ _ h okc (hS.refine_ t hv)
                have this : wpOpsIn (wideF rd) n P all.toArray (E P rd n (fun J a w => ∃ ts ks β fp, J ts ks ∧ Sat B w β fp ts ks a) Q r) (List.range' (all.length - (o :: os).length) (o :: os).length) a w := this
                rw [List.length_cons, List.range'_succ, wpOpsIn_cons] at this
                exact this
              cases b with
              | true => have := h.1 rfl; rw [setK_eq] at this; exact fin this
              | false => have := h.2 rfl; rw [setK_eq] at this; exact fin this
            · exact h.elim
    · rename_i c r
      have hok' : okStk r := hok
      show c.wpIn (wideF rd) n P (E P rd n _ Q r) a w
      split at h
      · exact wpIn_skip (IH _ _ _ _ _ _ _ h hok' hS)
      · exact wpIn_label (IH _ _ _ _ _ _ _ h hok' hS)
      · rename_i c1
        refine wpIn_scope ?_
        have := IH _ _ _ _ _ _ _ h hok' hS
        refine wpIn_mono this (fun e a' w' he => ?_)
        cases e <;> exact he
      · rename_i c1 c2
        refine wpIn_seq ?_
        have := IH _ _ _ _ _ _ _ h hok' hS
        refine wpIn_mono this (fun e a' w' he => ?_)
        cases e <;> exact he
      · rename_i id c1
        refine wpIn_block ?_
        have := IH _ _ _ _ _ _ _ h hok' hS
        refine wpIn_mono this (fun e a' w' he => ?_)
        cases e <;> exact he
      · rename_i id
        refine wpIn_exit (E_exit id r a w (fun r' hr' => ?_) (fun hr' => ?_))
        · rw [hr'] at h
          exact IH _ _ _ _ _ _ _ h (popTo_ok hr' hok') hS
        · rw [hr'] at h
          exact hQ _ _ _ _ _ _ _ h hS
      · exact wpIn_ret (E_ret r a w (hQ _ _ _ _ _ _ _ h hS))
      · rename_i id ops draw
        split at h
        case h_2 k i hab =>
          obtain ⟨ts', ks', fp', h, hS'⟩ := absK_sound hS hab h
          exact IH _ _ _ _ _ _ _ h hok' hS'
        split at h
        case h_2 hhd =>
          cases draw with
          | false => cases hhd
          | true =>
            split at h
            · rename_i l hil
              obtain ⟨n', ts', ks', hs, hn, htr, hdr, hrun⟩ := run_ops _ _ _ _ _ h
              rw [revB_eq, revB_eq, List.append_nil, List.append_nil, List.reverse_reverse] at hdr
              exact region_idle hTT hmix hil hdr htr hS (fun a' w' β' fp' hS' => ih n' (by omega) B nb rd n Q K hnb hrd hQ _ _ _ _ _ _ _ hrun hok' hS')
            split at h
            · obtain ⟨n', ts', ks', hs, hn, htr, hdr, hrun⟩ := run_ops _ _ _ _ _ h
              rw [revB_eq, revB_eq, List.append_nil, List.append_nil, List.reverse_reverse] at hdr
              exact region_draw hTT hmix hdr htr hS (fun a' w' β' fp' hS' => ih n' (by omega) B nb rd n Q K hnb hrd hQ _ _ _ _ _ _ _ hrun hok' hS')
            obtain ⟨ts', ks', hsc, hrun⟩ := h
            exact region_sched hTT hmix hsc hS (fun a' w' β' fp' hS' => IH _ _ _ _ _ _ _ hrun hok' hS')
        cases draw with
        | false =>
          refine wpIn_region ?_
          have := IH _ _ _ _ _ _ _ h ⟨rfl, ⟨0, rfl⟩, hok'⟩ hS
          have this : wpOpsIn (wideF rd) n P ops.toList.toArray (E P rd n (fun J a w => ∃ ts ks β fp, J ts ks ∧ Sat B w β fp ts ks a) Q r) (List.range' (ops.toList.length - ops.toList.length) ops.toList.length) a w := this
          rw [Nat.sub_self] at this
          simpa [List.range_eq_range'] using this
        | true =>
          obtain ⟨n', ts', ks', hs, hn, htr, hdr, hrun⟩ := run_ops _ _ _ _ _ h
          rw [revB_eq, revB_eq, List.append_nil, List.append_nil, List.reverse_reverse] at hdr
          exact region_draw hTT hmix hdr htr hS (fun a' w' β' fp' hS' => ih n' (by omega) B nb rd n Q K hnb hrd hQ _ _ _ _ _ _ _ hrun hok' hS')
      · rename_i cnd x y
        rw [valK_eq] at h
        have hv := hS.val cnd
        split at h
        · rename_i hx; rw [hx] at hv
          exact wpIn_cond_true (rd_tf hv) (IH _ _ _ _ _ _ _ h hok' hS)
        · rename_i hx; rw [hx] at hv
          exact wpIn_cond_false (rd_tf hv) (IH _ _ _ _ _ _ _ h hok' hS)
        · rename_i b hx; rw [hx] at hv
          cases b with
          | true => exact wpIn_cond_true (rd_tf hv) (IH _ _ _ _ _ _ _ (h.1 rfl) hok' hS)
          | false => exact wpIn_cond_false (rd_tf hv) (IH _ _ _ _ _ _ _ (h.2 rfl) hok' hS)
        · exact h.elim
      · exact wpIn_of_again (IH _ _ _ _ _ _ _ h hok' hS)
      · rename_i g ps asg body
        rw [valK_eq] at h
        have hv := hS.val g
        split at h
        · rename_i f caps hg
          rw [hg] at hv
          obtain ⟨vs, ev, hl, hd⟩ := fn_value hv
          split at h
          · rename_i nargs extra results fb hin
            split at h
            · rename_i hbeq
              rw [lenL_eq] at hbeq
              have hbeq := beq_of hbeq
              obtain ⟨fn, hfn, hbody, hres, hnt, hent⟩ := hIN f _ hin
              simp only at hbody hres hnt
              refine wpIn_rangeFunc (fun fn0 _ => ?_)
              obtain ⟨h, l, mark, w1, L, fp1, hent1, rfl, hW1, hS1⟩ := enter_loop (P := P) hS hrd h fn0 ps asg body
              rw [lenBK_eq, Nat.zero_add, appK_eq, addBK_eq] at h
              have hM1 := hS1.went.mem
              have hLi : upd β ks.length (some L) ks.length = some L := upd_same _ _ _
              refine ⟨L.b, mark, w1, { target := .fn (.func f) vs.toArray, args := #[.func (.yield L.b) #[] #[]] }, w1, f, (Value.func (.yield L.b) #[] #[] :: vs).toArray, w1, hent1, ?_, fun _ _ => trivial, ?_, fun hsm => by simp [wideF, Fence.wide] at hsm, callsIn_wideF ?_⟩
              · simp only [resolve, ev, Deferred.ofValue, Sem.run_pure]
                simp only [List.map_toArray, List.map_cons, List.map_nil, Array.empty_append, Act.eval]
              · have := hent (#[.func (.yield L.b) #[] #[]] ++ vs.toArray) w1
                simp only [invoke]
                rw [this]
                simp
              refine (callsIn_wide (n := 0)).1 (callsIn_of_wp_marks hfn hbody trivial ?_ rfl)
              have hS0 := enter_sat hM1 (as := .yl ks.length :: caps) (vs := Value.func (.yield L.b) #[] #[] :: vs) (by simp [hl]) (fun j s u hs hu => by
                cases j with
                | zero => simp at hs hu; subst hs hu; exact .yl _ L hLi
                | succ j => exact hW1.den (hd j s u (by simpa using hs) (by simpa using hu))) (k := extra) (m := fn.ntmps) (by simp; omega)
              have := ih m (by omega) ⟨B.X, w1, upd β ks.length (some L), fp1⟩ ⟨ks.length + 1, none⟩ none 0 (bodyPostM (wideF none) 0 P fn (rangePost (wideF rd) n P L.b (E P rd n (fun J a w => ∃ ts ks β fp, J ts ks ∧ Sat B w β fp ts ks a) Q r) { a with defers := mark ++ a.defers })) _ (fun q hq => hM1.kl q (by simpa using hq)) rfl (fun e ts2 ks2 a2 w2 β2 fp2 hK hS2 => by
                have fin : resK TT ts2 ks2 results (fun _ => getBK ks2 ks.length (fun b => match b with
                  | .loop _ _ _ _ st => match st with
                    | .ready => setBK ks2 ks.length .gone (fun k3 => run P TT IN m nb r ts k3 K)
                    | .done c => setBK ks2 ks.length .gone (fun k3 => run P TT IN m nb (.code c :: r) ts k3 K)
                    | _ => False
                  | _ => False)) → LeavesInM (wideF none) 0 P fn a2.tmps (rangePost (wideF rd) n P L.b (E P rd n (fun J a w => ∃ ts ks β fp, J ts ks ∧ Sat B w β fp ts ks a) Q r) { a with defers := mark ++ a.defers }) a2.defers .returning w2 := fun hK => by
                  refine leave_marks (a := a2) (fun w3 hS3 => ?_) a2.defers w2 hS2
                  rw [← hres] at hK
                  obtain ⟨ss, us, v, hc, e1, e3, hrun, _, hden⟩ := results_spec (P := P) hTT hS3 hK
                  refine ⟨v, hrun, ?_⟩
                  rw [getBK_eq] at hc
                  split at hc
                  · rename_i t5 p5 a5 b5 st5 hg5
                    have hki5 := getB_some hg5 (by simp)
                    have hL5 := hS3.went.ext ks.length L hLi
                    have hb5 := hS3.went.mem.at hki5 (by simp) hL5
                    cases hb5 with
                    | loop _ _ _ _ _ r5 q0 q1 q2 q3 q4 q5 q6 q7 =>
                      have hW5 := hS3.went.mem.turn (r' := { r5 with state := .exhausted }) (k' := .gone) hki5 hL5 q1 rfl rfl rfl rfl (.inl rfl)
                      have hS5 := (hS1.on hS3.went).on hW5
                      split at hc
                      · rw [setBK_eq] at hc
                        refine ⟨none, _, (endLoop_run q1 (by rw [q7.1]; simp)).trans (congrArg (fun p => Result.ok p _) q7.2), ?_⟩
                        exact IH _ _ _ _ _ _ _ hc hok' hS5
                      · rename_i c
                        rw [setBK_eq] at hc
                        refine ⟨some c, _, (endLoop_run q1 (by rw [q7.1]; simp)).trans (congrArg (fun p => Result.ok p _) q7.2), ?_⟩
                        exact IH (.code c :: r) _ _ _ _ _ _ hc hok' hS5
                      · exact hc.elim
                  · exact hc.elim
                cases e with
                | normal => exact fin hK
                | ret => exact fin hK
                | _ => exact hK.elim) [.code fb] _ _ _ _ _ _ h trivial hS0
              exact wpIn_mono this (fun e a' w' he => he)
            · exact h.elim
          · exact h.elim
        · exact h.elim
      · exact h.elim
    · rename_i body r
      have hok' : okStk r := hok
      show Again (wideF rd) n P body (E P rd n _ Q r) a w
      cases h with
      | once h =>
        refine again_round ?_
        have := IH _ _ _ _ _ _ _ h hok' hS
        refine wpIn_mono this (fun e a' w' he => ?_)
        cases e <;> exact he
      | nilT t e sz f sz' f' ht h =>
        rw [lenB_eq, addB_eq] at h
        have hW := hS.went.mem.nilRow e sz .iff (by simp) f
        have hS' := hS.on hW
        refine IH _ _ _ _ _ _ _ h hok' ⟨hS'.went, hS'.df, by rw [setT_eq]; simpa using hS'.len, fun u s v hs hv => ?_⟩
        rw [setT_eq, List.getElem?_set] at hs
        split at hs
        · rename_i eu
          subst eu
          split at hs
          · rename_i hlt
            cases hs
            rw [getT_eq, List.getElem?_eq_getElem hlt] at ht
            have hd := hS.tm t _ v (List.getElem?_eq_getElem hlt) hv
            simp only [Option.getD_some] at ht
            rw [ht] at hd
            cases den_data hd
            exact .allNil _ _ (upd_same _ _ _) rfl
          · cases hs
        · exact hS'.tm u s v hs hv
      | nilC i j e sz f sz' f' t l hg hj h =>
        rw [lenB_eq, addB_eq, setB_eq, setT_eq] at h
        have hki := getB_some hg (by simp)
        have hW := hS.went.mem.nilRow e sz .iff (by simp) f
        have hS' := hS.on hW
        have hil : i < ks.length := (List.getElem?_eq_some_iff.1 hki).1
        have hm := hS'.went.mem
        refine IH _ _ _ _ _ _ _ h hok' ⟨⟨⟨⟨hm.xa, hm.xb, hm.dis, hm.kw, hm.kn, fun q L k hk hne hL => ?_⟩, fun q hq => hm.kl q (by simpa using hq), fun q t' dom cols hq => ?_⟩, hS'.went.st, hS'.went.ext, hS'.went.own⟩, hS'.df, hS'.len, hS'.tm⟩
        case refine_2 =>
          refine hm.ka q t' dom cols ?_
          by_cases hql : q < ks.length
          · rw [List.getElem?_append_left (by simpa using hql), List.getElem?_set] at hq
            rw [List.getElem?_append_left hql]
            split at hq
            · cases hq
            · exact hq
          · rw [List.getElem?_append_right (by simp; omega)] at hq
            rw [List.getElem?_append_right (by omega)]
            simpa using hq
        by_cases hq : q < ks.length
        · rw [List.getElem?_append_left (by simpa using hq), List.getElem?_set] at hk
          split at hk
          · rename_i eq
            subst eq
            cases hk
            have hkb := hm.kb i L (.cells t l) (by rw [List.getElem?_append_left hil]; exact hki) (by simp) hL
            cases hkb with
            | cells _ _ vs h0 h1 h3 h4 h5 =>
              refine .cells t _ vs h0 h1 (by simpa using h3) (fun p s u hs hu => ?_) h5
              rw [List.getElem?_set] at hs
              split at hs
              · rename_i ep
                subst ep
                split at hs
                · rename_i hlt
                  cases hs
                  rw [getT_eq, List.getElem?_eq_getElem hlt] at hj
                  have hd := h4 j _ u (List.getElem?_eq_getElem hlt) hu
                  simp only [Option.getD_some] at hj
                  rw [hj] at hd
                  cases den_data hd
                  exact .allNil _ _ (upd_same _ _ _) rfl
                · cases hs
              · exact h4 p s u hs hu
          · exact hm.kb q L k (by rw [List.getElem?_append_left hq]; exact hk) hne hL
        · rw [List.getElem?_append_right (by simp; omega)] at hk
          exact hm.kb q L k (by rw [List.getElem?_append_right (by omega)]; simpa using hk) hne hL
      | pad h =>
        rw [addB_eq] at h
        exact IH _ _ _ _ _ _ _ h hok' (hS.moreTo [.gone] (fun k hk => by rw [List.mem_singleton.1 hk]; rfl))
      | csT t i e sz f ht hi h =>
        rw [lenB_eq, addB_eq, setB_eq] at h
        have hki := getB_some hi (by simp)
        have htl : t < ts.length := by
          rcases Nat.lt_or_ge t ts.length with h1 | h1
          · exact h1
          · rw [getT_eq, List.getElem?_eq_none h1] at ht
            cases ht
        rw [getT_eq, List.getElem?_eq_getElem htl] at ht
        simp only [Option.getD_some] at ht
        have hta : t < a.tmps.size := by rw [hS.len]; exact htl
        have hd := hS.tm t _ _ (List.getElem?_eq_getElem htl) (Array.getElem?_eq_getElem hta)
        rw [ht] at hd
        generalize hv0 : a.tmps[t] = v0 at hd
        cases hd with
        | cs _ _ _ _ L hL hc =>
          obtain ⟨fp', hW⟩ := hS.went.mem.csRow hki hL sz f
          have hS' := hS.on hW
          refine IH _ _ _ _ _ _ _ h hok' ⟨hS'.went, hS'.df, by rw [setT_eq]; simpa using hS'.len, fun u s v hs hv => ?_⟩
          rw [setT_eq, List.getElem?_set] at hs
          split at hs
          · rename_i eu
            subst eu
            cases hs
            rw [Array.getElem?_eq_getElem hta, hv0] at hv
            cases hv
            exact .all _ _ (upd_same _ _ _) rfl
          · exact hS'.tm u s v hs hv
      | moveC i j q t l e sz n0 z f hj hq hi h =>
        rw [lenB_eq, addB_eq, setB_eq, setB_eq, setT_eq] at h
        have hkj := getB_some hj (by simp)
        have hki := getB_some hi (by simp)
        have hlq : l[q]? = some (.all i) := by
          rw [getT_eq] at hq
          cases e1 : l[q]? with
          | none => rw [e1] at hq; cases hq
          | some s => rw [e1] at hq; exact congrArg some hq
        obtain ⟨β', fp', hW⟩ := hS.went.mem.moveCell hkj hlq hki
        exact IH _ _ _ _ _ _ _ h hok' (hS.on hW)
      | inv ι ok u k μ hstart hround =>
        obtain ⟨i0, ρ0, hok0, hsub⟩ := hstart
        obtain ⟨t0, k0, e0⟩ := headK_eq body ts ks (u i0) (k i0)
        rw [e0] at hsub
        refine again_ix (fun i a w => ok i ∧ ∃ ts1 ks1 β fp, (∀ c, headK body ts ks (u i) (k i) c = c ts1 ks1) ∧ Sat B w β fp ts1 ks1 a) μ i0 ?_ ?_
        · obtain ⟨β', fp', hS'⟩ := hS.weaken hnb hsub
          exact ⟨hok0, t0, k0, β', fp', e0, hS'⟩
        · rintro i a' w' ⟨hoki, ts1, ks1, β1, fp1, e1, hS1⟩
          have hr := hround i hoki
          rw [e1] at hr
          have := IH _ _ _ _ _ _ _ hr hok' hS1
          refine wpIn_mono this (fun e a2 w2 he => ?_)
          cases e with
          | normal =>
            obtain ⟨ts2, ks2, β2, fp2, ⟨j, ρ, hokj, hlt, hsubj⟩, hS2⟩ := he
            obtain ⟨t3, k3, e3⟩ := headK_eq body ts ks (u j) (k j)
            rw [e3] at hsubj
            obtain ⟨β', fp', hS'⟩ := hS2.weaken hnb hsubj
            exact ⟨j, ⟨hokj, t3, k3, β', fp', e3, hS'⟩, hlt⟩
          | _ => exact he

end
end Go.Eng
namespace Go.Eng
open Go Go.RowKit

/-- Two data that the same values read as. -/
def DEq : DV → DV → Prop
  | .sl b n sz f, .sl b' n' sz' f' => b = b' ∧ n = n' ∧ (n = 0 ∨ sz = sz') ∧ ∀ i, i < n → f i = f' i
  | .bool b, .tt => b = true
  | .bool b, .ff => b = false
  | .tt, .bool b => b = true
  | .ff, .bool b => b = false
  | x, y => x = y
def wdt : DV → Nat
  | .sl _ _ sz _ => sz
  | _ => 0
/-- A value of the function's own, handed out as data. -/
def Conv (ks : List KB) (s t : SV) : Prop :=
  match t with
  | .any => True
  | .d y => match s with
    | .d x => DEq x y
    | .cs i off n c => 0 < wdt y ∧ srcK ks (wdt y) (.cs i off n c) (fun k g _ => DEq (.sl false k (wdt y) g) y)
    | s => dvK ks s (fun x _ => DEq x y)
  | t => s = t ∧ closed t = true
def ConvL (ks : List KB) : List SV → List SV → Prop
  | [], [] => True
  | a :: l, b :: m => Conv ks a b ∧ ConvL ks l m
  | _, _ => False
/-- One result, a struct's cells one by one. -/
def Conv1 (ks : List KB) : SV → SV → Prop
  | .agg l, .agg m => ConvL ks l m
  | a, b => Conv ks a b
def Conv1L (ks : List KB) : List SV → List SV → Prop
  | [], [] => True
  | a :: l, b :: m => Conv1 ks a b ∧ Conv1L ks l m
  | _, _ => False
/-- All results. -/
def ResOk (ks : List KB) (vs : List SV) (res : SV) : Prop :=
  match vs with
  | [v] => Conv1 ks v res
  | vs => match res with
    | .tup l => Conv1L ks vs l
    | _ => False

section
variable {P : Program} {TT : Nat → Option TI} {IN : Nat → Option Inl} {X : Nat → Prop} {w : World} {β : Env} {fp : Nat → Nat → Prop} {ks : List KB}

theorem DEq_rd {x y : DV} (h : DEq x y) {M : Nat → Prop} {v : Value} (hr : Rd w M x v) : Rd w M y v := by
  unfold DEq at h
  split at h
  · obtain ⟨rfl, rfl, hsz, hf⟩ := h
    rename_i b n sz f sz' f'
    rcases Nat.eq_zero_or_pos n with h0 | h0
    · subst h0; exact hr.width
    · rcases hsz with e | rfl
      · omega
      · exact hr.congr hf
  · subst h; cases hr; exact .tt
  · subst h; cases hr; exact .ff
  · subst h; cases hr; exact .bool true
  · subst h; cases hr; exact .bool false
  · subst h; exact hr

/-- Everything given up. -/
theorem gone_all (h : Mem X w β fp ks) : ∀ b, X b → Mx X (fpGone (List.range ks.length) fp) b := fun b hb => .inl hb
theorem all_gone (h : Mem X w β fp ks) : ∀ b, Mx X (fpGone (List.range ks.length) fp) b → X b := fun b hb => hb.elim id (fun ⟨i, hi, hfi⟩ => by
  have : i < ks.length := by
    rcases Nat.lt_or_ge i ks.length with e | e
    · exact e
    · exact absurd hfi (h.out e b)
  exact absurd (List.mem_range.2 this) hi)

theorem Conv_den (h : Mem X w β fp ks) {s t : SV} {v : Value} (hc : Conv ks s t) (hd : Den w (Mx X fp) β s v) : Den w X noE t v := by
  have hsub : ∀ {d : DV}, Rd w (Mx X (fpGone (List.range ks.length) fp)) d v → Rd w X d v := fun hr => rd_less hr (gone_all h)
  unfold Conv at hc
  split at hc
  · exact .any _
  · rename_i y
    split at hc
    · rename_i x
      exact .d (DEq_rd hc (rd_less (den_data hd) (fun b hb => .inl hb)))
    · rename_i i off n c
      obtain ⟨hpos, hc⟩ := hc
      obtain ⟨k, g, fr, hk, h1, h2⟩ := cs_rd h.toMem0 hc hd
      exact .d (DEq_rd hk (hsub (h2 _ (fun i hi => List.mem_range.2 (h1 i hi)))))
    · rename_i hns1 hns2
      obtain ⟨d, fr, hk, h1, h2⟩ := dvK_spec h.toMem0 hc hd
      exact .d (DEq_rd hk (hsub (h2 _ (fun i hi => List.mem_range.2 (h1 i hi)))))
  · obtain ⟨rfl, hcl⟩ := hc
    exact (den_less hd (fun b hb => .inl hb)).closed hcl _

theorem ConvL_get {l m : List SV} (h : ConvL ks l m) : l.length = m.length ∧ ∀ (j : Nat) (s : SV), m[j]? = some s → ∃ s0, l[j]? = some s0 ∧ Conv ks s0 s := by
  induction l generalizing m with
  | nil => cases m with
    | nil => exact ⟨rfl, fun j s hs => by simp at hs⟩
    | cons => exact h.elim
  | cons a l ih => cases m with
    | nil => exact h.elim
    | cons b m =>
      obtain ⟨h1, h2⟩ := ih h.2
      refine ⟨by simp [h1], fun j s hs => ?_⟩
      cases j with
      | zero => simp at hs; subst hs; exact ⟨a, rfl, h.1⟩
      | succ j => exact h2 j s (by simpa using hs)
theorem Conv1L_get {l m : List SV} (h : Conv1L ks l m) : l.length = m.length ∧ ∀ (j : Nat) (s : SV), m[j]? = some s → ∃ s0, l[j]? = some s0 ∧ Conv1 ks s0 s := by
  induction l generalizing m with
  | nil => cases m with
    | nil => exact ⟨rfl, fun j s hs => by simp at hs⟩
    | cons => exact h.elim
  | cons a l ih => cases m with
    | nil => exact h.elim
    | cons b m =>
      obtain ⟨h1, h2⟩ := ih h.2
      refine ⟨by simp [h1], fun j s hs => ?_⟩
      cases j with
      | zero => simp at hs; subst hs; exact ⟨a, rfl, h.1⟩
      | succ j => exact h2 j s (by simpa using hs)
theorem Conv1_den (h : Mem X w β fp ks) {s t : SV} {v : Value} (hc : Conv1 ks s t) (hd : Den w (Mx X fp) β s v) : Den w X noE t v := by
  unfold Conv1 at hc
  split at hc
  · rename_i l m
    obtain ⟨hl, hg⟩ := ConvL_get hc
    cases hd with
    | agg _ vs h1 h2 h3 =>
      refine .agg m vs (by omega) (fun j s u hs hu => ?_) h3
      obtain ⟨s0, hs0, hc⟩ := hg j s hs
      exact Conv_den h hc (h2 j s0 u hs0 hu)
  · exact Conv_den h hc hd

/-- The end of a function whose contract is over data. -/
def endD (TT : Nat → Option TI) (rs : List ResultVar) (res : SV) (e : Exit) (ts : List SV) (ks : List KB) : Prop :=
  match e with
  | .normal => resK TT ts ks rs (fun vs => ResOk ks vs res)
  | .ret => resK TT ts ks rs (fun vs => ResOk ks vs res)
  | _ => False

/-- A function's contract out of `run`. -/
theorem fnOk_of_run (hTT : TTok P TT) (hIN : INok P IN) (hmix : P.follows .mixedOrders = true) {f : FuncId} {fn : Func} {c : Code} (m : Nat) (hf : P.funcs[f]? = some fn) (hb : fn.body = some c) (hent : ∀ (args : Array Value) (w : World), (callFunc f args).run P w = .ok (.enter f args) w)
    {args : List SV} {res : SV} (hcl : closedL args = true) (k : Nat) (hk : fn.ntmps = args.length + k) (h : run P TT IN m ⟨0, none⟩ [.code c] (args ++ anys k) [] (endD TT fn.results.toList res)) : FnOk P f args res := by
  refine ⟨hent, fun M w vs hM hl hd => ?_⟩
  refine (callsIn_wide (n := 0)).1 (callsIn_of_wp_marks hf hb trivial ?_ rfl)
  have hM0 : Mem M w noE (fun _ _ => False) [] := ⟨⟨hM, fun _ _ h => h.elim, fun _ _ _ h => h.elim, fun _ _ h => h.elim, fun _ _ h => h.elim, fun i L k hk => by simp at hk⟩, fun _ _ => rfl, fun i t dom cols hi => by simp at hi⟩
  have hS := enter_sat hM0 hl (fun j s u hs hu => (hd j s u hs hu).mono (M' := Mx M (fun _ _ => False)) (Step.refl _ _) (fun b _ hm => hm.elim id (fun ⟨_, e⟩ => e.elim)) (Ext.refl _)) (k := k) (m := fn.ntmps) hk
  have := run_sound hTT hIN hmix m ⟨M, w, noE, fun _ _ => False⟩ ⟨0, none⟩ none 0 (bodyPostM (wideF none) 0 P fn (fun e w' => ∃ r, e = .returned r ∧ Step (fun _ => False) w w' ∧ Den w' M noE res r)) _ (fun _ _ => rfl) rfl (fun e ts2 ks2 a2 w2 β2 fp2 hK hS2 => by
    have fin : resK TT ts2 ks2 fn.results.toList (fun vs => ResOk ks2 vs res) → LeavesInM (wideF none) 0 P fn a2.tmps (fun e w' => ∃ r, e = .returned r ∧ Step (fun _ => False) w w' ∧ Den w' M noE res r) a2.defers .returning w2 := fun hK => by
      refine leave_marks (a := a2) (fun w3 hS3 => ?_) a2.defers w2 hS2
      obtain ⟨ss, us, v, hres, e1, e3, hrun, rfl, hden⟩ := results_spec (P := P) hTT hS3 hK
      refine ⟨_, hrun, _, rfl, hS3.went.st.mono (fun b _ hb => by obtain ⟨i, hi⟩ := hb; exact hi), ?_⟩
      unfold ResOk at hres
      split at hres
      · rename_i s
        have hu1 : us.length = 1 := by rw [← e1]; rfl
        match us, hu1, e3 with
        | [u], _, e3 => exact Conv1_den hS3.went.mem hres (e3 0 s u rfl rfl)
      · rename_i hne
        split at hres
        · obtain ⟨c1, c2⟩ := Conv1L_get hres
          have hu1 : ¬ us.toArray.size = 1 := fun e => by
            have : ss.length = 1 := by rw [e1]; simpa using e
            match ss, this with
            | [s], _ => exact hne s rfl
          rw [dif_neg hu1]
          refine .tup _ us (by omega) (fun j s u hs hu => ?_)
          obtain ⟨s0, hs0, hc⟩ := c2 j s hs
          exact Conv1_den hS3.went.mem hc (e3 j s0 u hs0 hu)
        · exact hres.elim
    cases e with
    | normal => exact fin hK
    | ret => exact fin hK
    | _ => exact hK.elim) [.code c] _ _ _ _ _ _ h trivial hS
  exact wpIn_mono this (fun e a' w' he => he)

/-- What a function over known blocks leaves, under other numbers. -/
def FinOk (nb : Nat) (R : SV → List KB → Prop) (vs : List SV) (ks : List KB) : Prop :=
  ∃ ρ s' ks', okN (lenB ks) ρ = true ∧ keeps nb 0 ρ = true ∧ SubV (renV ρ (retV vs)) s' ∧ SubB (renB ρ ks ρ) ks' ∧ R s' ks'
/-- The end of a function whose contract is over known blocks. -/
def endM (TT : Nat → Option TI) (rs : List ResultVar) (nb : Nat) (R : SV → List KB → Prop) (e : Exit) (ts : List SV) (ks : List KB) : Prop :=
  match e with
  | .normal => resK TT ts ks rs (fun vs => FinOk nb R vs ks)
  | .ret => resK TT ts ks rs (fun vs => FinOk nb R vs ks)
  | _ => False

theorem cOk_of_run (hTT : TTok P TT) (hIN : INok P IN) (hmix : P.follows .mixedOrders = true) {f : FuncId} {fn : Func} {c : Code} (m : Nat) (hf : P.funcs[f]? = some fn) (hb : fn.body = some c) (hent : ∀ (args : Array Value) (w : World), (callFunc f args).run P w = .ok (.enter f args) w)
    {args : List SV} {ks : List KB} {R : SV → List KB → Prop} (k : Nat) (hk : fn.ntmps = args.length + k) (h : run P TT IN m ⟨ks.length, none⟩ [.code c] (args ++ anys k) ks (endM TT fn.results.toList ks.length R)) : COk P f args ks R := by
  refine ⟨hent, fun X w β fp vs hM hl hd => ?_⟩
  refine (callsIn_wide (n := 0)).1 (callsIn_of_wp_marks hf hb trivial ?_ rfl)
  have hS := enter_sat hM hl hd (k := k) (m := fn.ntmps) hk
  have := run_sound hTT hIN hmix m ⟨X, w, β, fp⟩ ⟨ks.length, none⟩ none 0 (bodyPostM (wideF none) 0 P fn (fun e w' => ∃ r s ks' β' fp', e = .returned r ∧ R s ks' ∧ Went X w β fp w' β' fp' ks' ∧ Den w' (Mx X fp') β' s r)) _ hM.kl rfl (fun e ts2 ks2 a2 w2 β2 fp2 hK hS2 => by
    have fin : resK TT ts2 ks2 fn.results.toList (fun vs => FinOk ks.length R vs ks2) → LeavesInM (wideF none) 0 P fn a2.tmps (fun e w' => ∃ r s ks' β' fp', e = .returned r ∧ R s ks' ∧ Went X w β fp w' β' fp' ks' ∧ Den w' (Mx X fp') β' s r) a2.defers .returning w2 := fun hK => by
      refine leave_marks (a := a2) (fun w3 hS3 => ?_) a2.defers w2 hS2
      obtain ⟨ss, us, v, ⟨ρ, s', ks', o1, o2, hsv, hsb, hR⟩, e1, e3, hrun, _, hden⟩ := results_spec (P := P) hTT hS3 hK
      rw [lenB_eq] at o1
      have hW := (hS3.went.ren hM.kl ρ o1 o2).less hsb
      have hMx : ∀ b, Mx X (renF ρ fp2) b → Mx X fp2 b := fun b hm => hm.imp id (fun ⟨k, i, _, hb⟩ => ⟨i, hb⟩)
      exact ⟨v, hrun, v, s', ks', _, _, rfl, hR, hW, SubV_den hsv ((den_less hden hMx).ren ρ)⟩
    cases e with
    | normal => exact fin hK
    | ret => exact fin hK
    | _ => exact hK.elim) [.code c] _ _ _ _ _ _ h trivial hS
  exact wpIn_mono this (fun e a' w' he => he)

end
end Go.Eng
namespace Go.Eng
open Go Go.RowKit

def flatFs (P : Program) (F : TypeId → Option (List EK)) : List Field → Nat → Option (List EK)
  | [], _ => some []
  | f :: fs, off =>
    if f.name = "_" ∨ f.offset ≠ off then none else
    match F f.type, P.info? f.type with
    | some l, some i => if i.size = l.length then (flatFs P F fs (off + l.length)).map (l ++ ·) else none
    | _, _ => none
def repL (l : List EK) : Nat → List EK
  | 0 => []
  | n + 1 => l ++ repL l n
def flat (P : Program) : Nat → TypeId → Option (List EK)
  | 0, _ => none
  | d + 1, t => match P.underlying t with
    | some .bool => some [.bool]
    | some (.int k) => some [.int k]
    | some .string => some [.str]
    | some (.struct fs) => if P.stoodInHeld t = true then none else flatFs P (flat P d) fs.toList 0
    | some (.array n e) => match flat P d e, P.info? e with
      | some l, some i => if i.size = l.length ∧ P.cellsOf e = l.length then some (repL l n) else none
      | _, _ => none
    | _ => none

def mkV (d : TypeDesc) (cs : List Value) : Value := if aggDesc d = true then .agg cs.toArray else cs.headD undef

section
variable {P : Program} {w : World}

theorem run_part {t : TypeId} {d : TypeDesc} {i : TypeInfo} (hd : P.underlying t = some d) (hi : P.info? t = some i) (xs : List Value) (off n : Nat) (hn : i.size = n) (h1 : aggDesc d = false → n = 1) (hin : off + n ≤ xs.length) :
    (part t xs.toArray off).run P w = .ok (mkV d ((xs.drop off).take n)) w := by
  unfold mkV
  cases ha : aggDesc d with
  | true =>
    simp only [part, Sem.run_bind, Go.Eng.run_isAgg hd, ha, Result.andThen_ok, if_true, Go.Eng.run_sizeOf hi, Sem.run_pure]
    congr 2
    apply Array.ext'
    simp [hn]
  | false =>
    have := h1 ha
    subst this
    have hlt : off < xs.length := by omega
    simp only [part, Sem.run_bind, Go.Eng.run_isAgg hd, ha, Result.andThen_ok, Bool.false_eq_true, if_false]
    have e : (xs.drop off).take 1 = [xs[off]] := by rw [List.drop_eq_getElem_cons hlt]; rfl
    rw [e]
    simp [hlt]

theorem eqCells_append (a b : List EK) (x1 x2 y1 y2 : List Value) (hx : x1.length = a.length) (hy : y1.length = a.length) : eqCells (a ++ b) (x1 ++ x2) (y1 ++ y2) = (eqCells a x1 y1 && eqCells b x2 y2) := by
  induction a generalizing x1 y1 with
  | nil =>
    have : x1 = [] := List.eq_nil_of_length_eq_zero (by simpa using hx)
    have : y1 = [] := List.eq_nil_of_length_eq_zero (by simpa using hy)
    subst_vars
    simp [eqCells]
  | cons k a ih => cases x1 with
    | nil => simp at hx
    | cons x x1 => cases y1 with
      | nil => simp at hy
      | cons y y1 =>
        simp only [List.cons_append, eqCells]
        rw [ih x1 y1 (by simpa using hx) (by simpa using hy), Bool.and_assoc]

theorem Fits.take {ks l : List EK} {xs : List Value} (h : Fits (l ++ ks) xs) : Fits l (xs.take l.length) := fun j k x hk hx => by
  have hj := (List.getElem?_eq_some_iff.1 hk).1
  rw [List.getElem?_take, if_pos hj] at hx
  exact h j k x (by rw [List.getElem?_append_left hj]; exact hk) hx
theorem Fits.drop {ks l : List EK} {xs : List Value} (h : Fits (l ++ ks) xs) : Fits ks (xs.drop l.length) := fun j k x hk hx => by
  rw [List.getElem?_drop] at hx
  exact h (l.length + j) k x (by rw [List.getElem?_append_right (by omega)]; simpa using hk) hx

theorem flat_one {d : Nat} {t : TypeId} {ks : List EK} {desc : TypeDesc} (h : flat P d t = some ks) (hd : P.underlying t = some desc) (ha : aggDesc desc = false) : ks.length = 1 := by
  cases d with
  | zero => cases h
  | succ d =>
    simp only [flat, hd] at h
    cases desc <;> simp [aggDesc] at ha h <;> subst h <;> rfl

theorem flatFs_sound {d : Nat} (IH : ∀ (t : TypeId) (ks : List EK) (desc : TypeDesc), flat P d t = some ks → P.underlying t = some desc → ∀ (m : Nat) (xs ys : List Value), xs.length = ks.length → ys.length = ks.length → Fits ks xs → Fits ks ys → ∀ w : World,
      (Op.equalIn (d + m) t (mkV desc xs) (mkV desc ys)).run P w = .ok (eqCells ks xs ys) w) (m : Nat) (xs ys : List Value) :
    ∀ (fs : List Field) (off : Nat) (ks : List EK), flatFs P (flat P d) fs off = some ks → off + ks.length ≤ xs.length → off + ks.length ≤ ys.length → Fits ks (xs.drop off) → Fits ks (ys.drop off) → ∀ w : World,
      (Op.eqFields (d + m) xs.toArray ys.toArray fs).run P w = .ok (eqCells ks ((xs.drop off).take ks.length) ((ys.drop off).take ks.length)) w := by
  intro fs
  induction fs with
  | nil => intro off ks h _ _ _ _ w; simp [flatFs] at h; subst h; simp [Op.eqFields, eqCells]
  | cons f fs ih =>
    intro off ks h hx hy hfx hfy w
    simp only [flatFs] at h
    split at h
    · cases h
    · rename_i hn
      simp only [not_or, Decidable.not_not] at hn
      obtain ⟨hnm, hoff⟩ := hn
      split at h
      · rename_i l i hl hi
        split at h
        · rename_i hsz
          rw [Option.map_eq_some_iff] at h
          obtain ⟨ks', hks', rfl⟩ := h
          simp only [List.length_append] at hx hy
          obtain ⟨desc, hdesc⟩ : ∃ desc, P.underlying f.type = some desc := by
            cases hu : P.underlying f.type with
            | none => cases d <;> simp [flat, hu] at hl
            | some x => exact ⟨x, rfl⟩
          have p1 := run_part (w := w) hdesc hi xs off l.length hsz (fun ha => flat_one hl hdesc ha) (by omega)
          have p2 := run_part (w := w) hdesc hi ys off l.length hsz (fun ha => flat_one hl hdesc ha) (by omega)
          have p3 := IH f.type l desc hl hdesc m ((xs.drop off).take l.length) ((ys.drop off).take l.length) (by simp; omega) (by simp; omega) hfx.take hfy.take w
          have p4 := ih (off + l.length) ks' hks' (by omega) (by omega) (by have := hfx.drop; rwa [List.drop_drop] at this) (by have := hfy.drop; rwa [List.drop_drop] at this) w
          have esplit : ∀ zs : List Value, (zs.drop off).take (l ++ ks').length = (zs.drop off).take l.length ++ (zs.drop (off + l.length)).take ks'.length := fun zs => by
            rw [List.length_append, List.take_add, List.drop_drop]
          rw [esplit, esplit, eqCells_append _ _ _ _ _ _ (by simp; omega) (by simp; omega)]
          simp only [Op.eqFields, hnm, ne_eq, not_false_eq_true, if_true, Sem.run_bind, hoff, p1, p2, p3, Result.andThen_ok]
          cases hq : eqCells l ((xs.drop off).take l.length) ((ys.drop off).take l.length) with
          | false => simp
          | true => simp [p4]
        · cases h
      · cases h

theorem items_sound {d : Nat} {e : TypeId} {l : List EK} {desc : TypeDesc} {i : TypeInfo} (IH : ∀ (m : Nat) (xs ys : List Value), xs.length = l.length → ys.length = l.length → Fits l xs → Fits l ys → ∀ w : World,
      (Op.equalIn (d + m) e (mkV desc xs) (mkV desc ys)).run P w = .ok (eqCells l xs ys) w) (hdesc : P.underlying e = some desc) (hi : P.info? e = some i) (hsz : i.size = l.length) (h1 : aggDesc desc = false → l.length = 1) (m : Nat) (xs ys : List Value) :
    ∀ (n k : Nat), (k + n) * l.length ≤ xs.length → (k + n) * l.length ≤ ys.length → Fits (repL l n) (xs.drop (k * l.length)) → Fits (repL l n) (ys.drop (k * l.length)) → ∀ w : World,
      (Op.eqItems (d + m) e l.length xs.toArray ys.toArray (List.range' k n)).run P w = .ok (eqCells (repL l n) ((xs.drop (k * l.length)).take (n * l.length)) ((ys.drop (k * l.length)).take (n * l.length))) w := by
  intro n
  induction n with
  | zero => intro k _ _ _ _ w; simp [Op.eqItems, repL, eqCells]
  | succ n ih =>
    intro k hx hy hfx hfy w
    have hmul : (k + (n + 1)) * l.length = k * l.length + l.length + n * l.length := by
      rw [Nat.add_mul, Nat.add_mul, Nat.one_mul]; omega
    have hmul2 : (k + 1 + n) * l.length = (k + (n + 1)) * l.length := by rw [show k + 1 + n = k + (n + 1) from by omega]
    have p1 := run_part (w := w) hdesc hi xs (k * l.length) l.length hsz h1 (by omega)
    have p2 := run_part (w := w) hdesc hi ys (k * l.length) l.length hsz h1 (by omega)
    have p3 := IH m ((xs.drop (k * l.length)).take l.length) ((ys.drop (k * l.length)).take l.length) (by simp; omega) (by simp; omega) hfx.take hfy.take w
    have hk : (k + 1) * l.length = k * l.length + l.length := by rw [Nat.add_mul, Nat.one_mul]
    have p4 := ih (k + 1) (by omega) (by omega) (by have := hfx.drop; rw [List.drop_drop] at this; rw [hk]; exact this) (by have := hfy.drop; rw [List.drop_drop] at this; rw [hk]; exact this) w
    have esplit : ∀ zs : List Value, (zs.drop (k * l.length)).take ((n + 1) * l.length) = (zs.drop (k * l.length)).take l.length ++ (zs.drop ((k + 1) * l.length)).take (n * l.length) := fun zs => by
      rw [Nat.add_mul, Nat.one_mul, Nat.add_comm (n * l.length), List.take_add, List.drop_drop, hk]
    rw [esplit, esplit]
    simp only [repL]
    rw [eqCells_append _ _ _ _ _ _ (by simp; omega) (by simp; omega)]
    simp only [List.range'_succ, Op.eqItems, Sem.run_bind, p1, p2, p3, Result.andThen_ok]
    cases hq : eqCells l ((xs.drop (k * l.length)).take l.length) ((ys.drop (k * l.length)).take l.length) with
    | false => simp
    | true => simp [p4]

theorem repL_length (l : List EK) (n : Nat) : (repL l n).length = n * l.length := by
  induction n with
  | zero => simp [repL]
  | succ n ih => simp [repL, ih, Nat.add_mul]; omega

theorem repL_get (l : List EK) : ∀ (n j q : Nat), j < n → q < l.length → (repL l n)[j * l.length + q]? = l[q]? := by
  intro n
  induction n with
  | zero => intro j q hj; omega
  | succ n ih =>
    intro j q hj hq
    cases j with
    | zero => simp only [repL]; rw [List.getElem?_append_left (by omega)]; simp
    | succ j =>
      simp only [repL]
      rw [Nat.add_mul, Nat.one_mul, List.getElem?_append_right (by omega), show j * l.length + l.length + q - l.length = j * l.length + q from by omega]
      exact ih j q (by omega) hq
theorem flat_sound : ∀ (d : Nat) (t : TypeId) (ks : List EK) (desc : TypeDesc), flat P d t = some ks → P.underlying t = some desc → ∀ (m : Nat) (xs ys : List Value), xs.length = ks.length → ys.length = ks.length → Fits ks xs → Fits ks ys → ∀ w : World,
    (Op.equalIn (d + m) t (mkV desc xs) (mkV desc ys)).run P w = .ok (eqCells ks xs ys) w := by
  intro d
  induction d with
  | zero => intro t ks desc h; cases h
  | succ d IH =>
    intro t ks desc h hd m xs ys hx hy hfx hfy w
    rw [show d + 1 + m = (d + m) + 1 from by omega]
    simp only [flat, hd] at h
    have one : ∀ k : EK, ks = [k] → ∃ x y, xs = [x] ∧ ys = [y] ∧ fits k x ∧ fits k y := by
      rintro k rfl
      match xs, ys, hx, hy with
      | [x], [y], _, _ => exact ⟨x, y, rfl, rfl, hfx 0 k x rfl rfl, hfy 0 k y rfl rfl⟩
    cases desc with
    | bool =>
      obtain ⟨x, y, rfl, rfl, f1, f2⟩ := one .bool (by simpa using h.symm)
      obtain rfl : ks = [.bool] := by simpa using h.symm
      cases x <;> simp [fits] at f1
      cases y <;> simp [fits] at f2
      simp [mkV, aggDesc, eqCells, eqCell, eqIn_bool _ _ _ _ hd]
    | int k =>
      obtain ⟨x, y, rfl, rfl, f1, f2⟩ := one (.int k) (by simpa using h.symm)
      obtain rfl : ks = [.int k] := by simpa using h.symm
      cases x <;> simp [fits] at f1
      cases y <;> simp [fits] at f2
      subst f1 f2
      simp [mkV, aggDesc, eqCells, eqCell, run_equalIn_int w _ t k k _ _ hd]
    | string =>
      obtain ⟨x, y, rfl, rfl, f1, f2⟩ := one .str (by simpa using h.symm)
      obtain rfl : ks = [.str] := by simpa using h.symm
      cases x <;> simp [fits] at f1
      cases y <;> simp [fits] at f2
      simp [mkV, aggDesc, eqCells, eqCell, run_equalIn_string w _ t _ _ hd]
    | struct fs =>
      simp only at h
      split at h
      · cases h
      · rename_i hst
        have hfo : P.fieldsOf t = fs := by simp [Program.fieldsOf, hd]
        have := run_equalIn_struct (P := P) w (d + m) t xs.toArray ys.toArray (by rw [hfo]; exact hd) (by simpa using hst)
        simp only [mkV, aggDesc, if_true]
        rw [this, hfo, flatFs_sound (fun t ks desc a b => IH t ks desc a b) m xs ys fs.toList 0 ks h (by omega) (by omega) (by simpa using hfx) (by simpa using hfy) w]
        simp [hx, hy]
        rw [List.take_of_length_le (by omega), List.take_of_length_le (by omega)]
    | array n e =>
      simp only at h
      split at h
      · rename_i l i hl hi
        split at h
        · rename_i hc
          obtain ⟨hsz, hco⟩ := hc
          obtain rfl : ks = repL l n := by simpa using h.symm
          obtain ⟨desc, hdesc⟩ : ∃ desc, P.underlying e = some desc := by
            cases hu : P.underlying e with
            | none => cases d <;> simp [flat, hu] at hl
            | some x => exact ⟨x, rfl⟩
          have := run_equalIn_array (P := P) w (d + m) xs.toArray ys.toArray hd hi
          simp only [mkV, aggDesc, if_true]
          rw [repL_length] at hx hy
          rw [this, hco, List.range_eq_range', items_sound (fun m xs ys a b c d w => IH e l desc hl hdesc m xs ys a b c d w) hdesc hi hsz (fun ha => flat_one hl hdesc ha) m xs ys n 0 (by simp [hx]) (by simp [hy]) (by simpa using hfx) (by simpa using hfy) w]
          simp
          rw [List.take_of_length_le (by omega), List.take_of_length_le (by omega)]
        · cases h
      · cases h
    | _ => cases h

end

section
variable {P : Program}
theorem flatFs_each {d : Nat} (xs : List Value) : ∀ (fs : List Field) (off : Nat) (ks : List EK), flatFs P (flat P d) fs off = some ks → off + ks.length ≤ xs.length → Fits ks (xs.drop off) →
      ∀ f ∈ fs, ¬ f.name = "_" ∧ ∃ l i desc, flat P d f.type = some l ∧ P.info? f.type = some i ∧ i.size = l.length ∧ P.underlying f.type = some desc ∧ f.offset + l.length ≤ xs.length ∧ Fits l ((xs.drop f.offset).take l.length) := by
  intro fs
  induction fs with
  | nil => intro off ks h _ _ f hf; simp at hf
  | cons f fs ih =>
    intro off ks h hx hfx g hg
    simp only [flatFs] at h
    split at h
    · cases h
    · rename_i hn
      simp only [not_or, Decidable.not_not] at hn
      obtain ⟨hnm, hoff⟩ := hn
      split at h
      · rename_i l i hl hi
        split at h
        · rename_i hsz
          rw [Option.map_eq_some_iff] at h
          obtain ⟨ks', hks', rfl⟩ := h
          simp only [List.length_append] at hx
          rcases List.mem_cons.1 hg with rfl | hg
          · obtain ⟨desc, hdesc⟩ : ∃ desc, P.underlying g.type = some desc := by
              cases hu : P.underlying g.type with
              | none => cases d <;> simp [flat, hu] at hl
              | some x => exact ⟨x, rfl⟩
            exact ⟨hnm, l, i, desc, hl, hi, hsz, hdesc, by omega, by rw [hoff]; exact hfx.take⟩
          · exact ih (off + l.length) ks' hks' (by omega) (by have := hfx.drop; rwa [List.drop_drop] at this) g hg
        · cases h
      · cases h

theorem flat_key (b : Bool) : ∀ (d : Nat) (t : TypeId) (ks : List EK) (desc : TypeDesc), flat P d t = some ks → P.underlying t = some desc → ∀ (m : Nat) (xs : List Value), xs.length = ks.length → Fits ks xs → ∀ w : World,
    (Instr.checkKey b (d + m) t (mkV desc xs)).run P w = .ok () w := by
  intro d
  induction d with
  | zero => intro t ks desc h; cases h
  | succ d IH =>
    intro t ks desc h hd m xs hx hfx w
    rw [show d + 1 + m = (d + m) + 1 from by omega]
    simp only [flat, hd] at h
    cases desc with
    | bool => exact chk_plain hd (.inr (.inr rfl)) b _ _
    | int k => exact chk_plain hd (.inl ⟨k, rfl⟩) b _ _
    | string => exact chk_plain hd (.inr (.inl rfl)) b _ _
    | struct fs =>
      simp only at h
      split at h
      · cases h
      · simp only [mkV, aggDesc, if_true]
        rw [Instr.checkKey]
        simp only [Sem.run_bind, run_underlying hd, Result.andThen_ok]
        rw [← Array.forIn_toList]
        have each := flatFs_each xs fs.toList 0 ks h (by omega) (by simpa using hfx)
        generalize fs.toList = l at each
        induction l with
        | nil => simp
        | cons f l ih =>
          obtain ⟨hnm, l', i, desc, hl, hi, hsz, hdesc, e1, e2⟩ := each f (by simp)
          have p1 := run_part (w := w) hdesc hi xs f.offset l'.length hsz (fun ha => flat_one hl hdesc ha) e1
          have p2 := IH f.type l' desc hl hdesc m _ (by simp; omega) e2 w
          simp only [List.forIn_cons, Sem.run_bind, hnm, ne_eq, not_false_eq_true, if_true, Result.andThen_ok, p1, p2, Sem.run_pure]
          exact ih (fun g hg => each g (by simp [hg]))
    | array n e =>
      simp only at h
      split at h
      · rename_i l i hl hi
        split at h
        · rename_i hc
          obtain ⟨hsz, hco⟩ := hc
          obtain rfl : ks = repL l n := by simpa using h.symm
          obtain ⟨desc, hdesc⟩ : ∃ desc, P.underlying e = some desc := by
            cases hu : P.underlying e with
            | none => cases d <;> simp [flat, hu] at hl
            | some x => exact ⟨x, rfl⟩
          rw [repL_length] at hx
          simp only [mkV, aggDesc, if_true]
          rw [Instr.checkKey]
          simp only [Sem.run_bind, run_underlying hd, Result.andThen_ok]
          simp only [Std.Legacy.Range.forIn_eq_forIn_range', Std.Legacy.Range.size, Nat.sub_zero, Nat.add_one_sub_one, Nat.div_one]
          have each : ∀ j ∈ List.range' 0 n, (j + 1) * l.length ≤ xs.length ∧ Fits l ((xs.drop (j * l.length)).take l.length) := fun j hj => by
            have hj : j < n := by simpa using (List.mem_range'_1.1 hj).2
            refine ⟨by rw [hx]; exact Nat.mul_le_mul_right _ hj, ?_⟩
            intro q k x hk hxq
            have hq := (List.getElem?_eq_some_iff.1 hk).1
            rw [List.getElem?_take, if_pos hq, List.getElem?_drop] at hxq
            exact hfx _ k x (by rw [repL_get l n j q hj hq]; exact hk) hxq
          generalize List.range' 0 n = is at each
          induction is with
          | nil => simp
          | cons j is ih =>
            obtain ⟨e1, e2⟩ := each j (by simp)
            rw [Nat.add_mul, Nat.one_mul] at e1
            have p1 := run_part (w := w) hdesc hi xs (j * l.length) l.length hsz (fun ha => flat_one hl hdesc ha) e1
            have p2 := IH e l desc hl hdesc m _ (by simp; omega) e2 w
            simp only [List.forIn_cons, Sem.run_bind, Go.Eng.run_sizeOf hi, hsz, Result.andThen_ok, p1, p2, Sem.run_pure]
            exact ih (fun y hy => each y (by simp [hy]))
        · cases h
      · cases h
    | _ => cases h
end

def zagB : Value → Bool → Bool
  | .agg _, b => b
  | _, b => !b

def zeroB : List SV → List Value → Bool
  | [], [] => true
  | .d (.int k n) :: l, .int k' n' :: m => kEq k k' && n == n' && zeroB l m
  | .d .ff :: l, .bool false :: m => zeroB l m
  | .d (.str []) :: l, .string s :: m => s.data.isEmpty && zeroB l m
  | .d (.sl true 0 _ _) :: l, .slice none 0 0 :: m => zeroB l m
  | .v (.pointer none) :: l, .pointer none :: m => zeroB l m
  | .v (.map none) :: l, .map none :: m => zeroB l m
  | .v .nilFunc :: l, .nilFunc :: m => zeroB l m
  | .v .nilIface :: l, .nilIface :: m => zeroB l m
  | _, _ => false

def fieldsB (P : Program) : List Field → List (Nat × TypeId) → Bool
  | [], [] => true
  | f :: fs, (off, t) :: r => f.offset == off && f.type == t && ((P.info? t).any fun i => i.size != 0) && fieldsB P fs r
  | _, _ => false

def descB (P : Program) (d : TypeDesc) : TD → Bool
  | .other => true
  | .bool => (match d with | .bool => true | _ => false)
  | .str => (match d with | .string => true | _ => false)
  | .int k => (match d with | .int k' => kEq k' k | _ => false)
  | .slice e => (match d with | .slice e' => e' == e | _ => false)
  | .array n e => (match d with | .array n' e' => n' == n && e' == e | _ => false)
  | .ptr e => (match d with | .pointer e' => e' == e | _ => false)
  | .map k e => (match d with | .map k' e' => k' == k && e' == e | _ => false)
  | .struct fs => (match d with | .struct fields => fieldsB P fields.toList fs | _ => false)

def checkTI (P : Program) (t : TypeId) (ti : TI) : Bool :=
  match P.info? t, P.underlying t with
  | some info, some d => info.size == ti.size && info.bytes == ti.bytes && aggDesc d == ti.agg && (match info.zero with
      | some z => zeroB ti.zero z.cells.toList && zagB z ti.agg
      | none => false) && ti.zero.length == ti.size && descB P d ti.desc && (ti.eqk.isEmpty || (ti.agg && decide (flat P 20 t = some ti.eqk) && !P.eqGuardType P.depth t))
  | _, _ => false
def checkAll (P : Program) : List (Nat × TI) → Bool
  | [] => true
  | (t, ti) :: l => checkTI P t ti && checkAll P l
def look : List (Nat × TI) → Nat → Option TI
  | [], _ => none
  | (k, v) :: l, n => match Nat.beq k n with
    | true => some v
    | false => look l n

theorem zeroB_spec {l : List SV} {m : List Value} (h : zeroB l m = true) : l.length = m.length ∧ (∀ (w : World) (M : Nat → Prop) (β : Env) (j : Nat) (s : SV) (u : Value), l[j]? = some s → m[j]? = some u → Den w M β s u) ∧ ∀ (j : Nat) (u : Value), m[j]? = some u → u.oneCell' = true := by
  induction l generalizing m with
  | nil => cases m with
    | nil => exact ⟨rfl, by simp, by simp⟩
    | cons => simp [zeroB] at h
  | cons s l ih =>
    cases m with
    | nil =>
      exfalso
      unfold zeroB at h
      split at h <;> simp_all
    | cons v m =>
      have key : zeroB l m = true → (∀ (w : World) (M : Nat → Prop) (β : Env), Den w M β s v) → v.oneCell' = true → (s :: l).length = (v :: m).length ∧ (∀ (w : World) (M : Nat → Prop) (β : Env) (j : Nat) (s' : SV) (u : Value), (s :: l)[j]? = some s' → (v :: m)[j]? = some u → Den w M β s' u) ∧ ∀ (j : Nat) (u : Value), (v :: m)[j]? = some u → u.oneCell' = true := by
        intro hz hd h1
        obtain ⟨a, b, c⟩ := ih hz
        refine ⟨by simp [a], fun w M β j s' u hs hu => ?_, fun j u hu => ?_⟩
        · cases j with
          | zero => simp at hs hu; subst hs hu; exact hd w M β
          | succ j => exact b w M β j s' u (by simpa using hs) (by simpa using hu)
        · cases j with
          | zero => simp at hu; subst hu; exact h1
          | succ j => exact c j u (by simpa using hu)
      unfold zeroB at h
      split at h
      · rename_i e _; cases e
      · rename_i e1 e2
        obtain ⟨rfl, rfl⟩ := List.cons.inj e1
        obtain ⟨rfl, rfl⟩ := List.cons.inj e2
        simp only [Bool.and_eq_true, beq_iff_eq] at h
        obtain ⟨⟨hk, rfl⟩, hz⟩ := h
        cases kEq_eq hk
        exact key hz (fun w M β => .d (.int _ _)) rfl
      · rename_i e1 e2
        obtain ⟨rfl, rfl⟩ := List.cons.inj e1
        obtain ⟨rfl, rfl⟩ := List.cons.inj e2
        exact key h (fun w M β => .d .ff) rfl
      · rename_i str _ e1 e2
        obtain ⟨rfl, rfl⟩ := List.cons.inj e1
        obtain ⟨rfl, rfl⟩ := List.cons.inj e2
        simp only [Bool.and_eq_true] at h
        refine key h.2 (fun w M β => .d ?_) rfl
        have : Value.string str = strV [] := by
          obtain ⟨x⟩ := str
          simp at h
          obtain ⟨rfl, _⟩ := h
          rfl
        rw [this]
        exact .str _
      · rename_i e1 e2
        obtain ⟨rfl, rfl⟩ := List.cons.inj e1
        obtain ⟨rfl, rfl⟩ := List.cons.inj e2
        exact key h (fun w M β => .d (.nil _ _)) rfl
      · rename_i e1 e2
        obtain ⟨rfl, rfl⟩ := List.cons.inj e1
        obtain ⟨rfl, rfl⟩ := List.cons.inj e2
        exact key h (fun w M β => .v _) rfl
      · rename_i e1 e2
        obtain ⟨rfl, rfl⟩ := List.cons.inj e1
        obtain ⟨rfl, rfl⟩ := List.cons.inj e2
        exact key h (fun w M β => .v _) rfl
      · rename_i e1 e2
        obtain ⟨rfl, rfl⟩ := List.cons.inj e1
        obtain ⟨rfl, rfl⟩ := List.cons.inj e2
        exact key h (fun w M β => .v _) rfl
      · rename_i e1 e2
        obtain ⟨rfl, rfl⟩ := List.cons.inj e1
        obtain ⟨rfl, rfl⟩ := List.cons.inj e2
        exact key h (fun w M β => .v _) rfl
      · cases h

theorem fieldsB_spec {P : Program} {fs : List Field} {l : List (Nat × TypeId)} (h : fieldsB P fs l = true) : fs.length = l.length ∧ ∀ (j : Nat) (off : Nat) (ft : TypeId), l[j]? = some (off, ft) → ∃ (f : Field) (fi : TypeInfo), fs[j]? = some f ∧ f.offset = off ∧ f.type = ft ∧ P.info? ft = some fi ∧ fi.size ≠ 0 := by
  induction fs generalizing l with
  | nil => cases l with
    | nil => exact ⟨rfl, by simp⟩
    | cons => simp [fieldsB] at h
  | cons f fs ih => cases l with
    | nil => simp [fieldsB] at h
    | cons p l =>
      obtain ⟨off, t⟩ := p
      simp only [fieldsB, Bool.and_eq_true, beq_iff_eq] at h
      obtain ⟨⟨⟨h1, h2⟩, h3⟩, h4⟩ := h
      obtain ⟨a, b⟩ := ih h4
      refine ⟨by simp [a], fun j o ft hj => ?_⟩
      cases j with
      | zero =>
        simp at hj
        obtain ⟨rfl, rfl⟩ := hj
        cases hi : P.info? t with
        | none => simp [hi] at h3
        | some i => exact ⟨f, i, rfl, h1, h2, rfl, by simpa [hi] using h3⟩
      | succ j => exact b j o ft (by simpa using hj)

theorem descB_spec {P : Program} {d : TypeDesc} {td : TD} (h : descB P d td = true) : TDok P d td := by
  cases td <;> simp only [descB] at h
  · trivial
  · cases d <;> first | rfl | cases h
  · cases d <;> first | rfl | cases h
  · cases d <;> first | cases h | (exact congrArg TypeDesc.int (kEq_eq h)) | (simp at h)
  · cases d <;> first | cases h | (exact congrArg TypeDesc.slice (by simpa using h)) | (simp at h)
  · cases d <;> first | cases h | (simp at h; obtain ⟨rfl, rfl⟩ := h; rfl) | (simp at h)
  · split at h
    · obtain ⟨a, b⟩ := fieldsB_spec h
      rename_i fields
      exact ⟨fields, rfl, by simpa using a, fun j off ft hj => by
        obtain ⟨f, fi, h1, h2⟩ := b j off ft hj
        exact ⟨f, fi, by simpa using h1, h2⟩⟩
    · cases h
  · cases d <;> first | cases h | (exact congrArg TypeDesc.pointer (by simpa using h)) | (simp at h)
  · cases d <;> first | cases h | (simp at h; obtain ⟨rfl, rfl⟩ := h; rfl) | (simp at h)

theorem checkTI_spec {P : Program} {t : TypeId} {ti : TI} (h : checkTI P t ti = true) : TIok P t ti := by
  unfold checkTI at h
  split at h
  · rename_i info d hi hd
    simp only [Bool.and_eq_true, beq_iff_eq] at h
    obtain ⟨⟨⟨⟨⟨⟨h1, h2⟩, h3⟩, h4⟩, h5⟩, h6⟩, h7⟩ := h
    split at h4
    · rename_i z hz
      rw [Bool.and_eq_true] at h4
      obtain ⟨h4, hzag⟩ := h4
      obtain ⟨a, b, c⟩ := zeroB_spec h4
      refine ⟨⟨info, d, z, hi, hd, h1, h2, hz, h3, by simpa using a.symm, h5, fun w M β j s u hs hu => b w M β j s u hs (by simpa using hu), fun j u hu => c j u (by simpa using hu), descB_spec h6⟩, fun hne w xs ys hx hy hfx hfy => ?_, fun info' z' hi' hz' => ?_, fun hne => ?_⟩
      case refine_2 =>
        rw [hi] at hi'
        cases hi'
        rw [hz] at hz'
        cases hz'
        cases z <;> simp [zagB] at hzag <;> simp [mkVal, hzag, Value.cells]
      case refine_3 =>
        have : ti.eqk.isEmpty = false := by cases he : ti.eqk with | nil => exact absurd he hne | cons => rfl
        simp only [this, Bool.false_or, Bool.and_eq_true, decide_eq_true_eq, Bool.not_eq_true'] at h7
        obtain ⟨⟨g1, g2⟩, g3⟩ := h7
        refine ⟨g1, fun w b xs hx hfx => ?_⟩
        have hs := flat_key (P := P) b 20 t ti.eqk d g2 hd 9980 xs hx hfx w
        have hag : aggDesc d = true := h3.trans g1
        simp only [mkV, hag, if_true] at hs
        exact hs
      have : ti.eqk.isEmpty = false := by cases he : ti.eqk with | nil => exact absurd he hne | cons => rfl
      simp only [this, Bool.false_or, Bool.and_eq_true, decide_eq_true_eq, Bool.not_eq_true'] at h7
      obtain ⟨⟨g1, g2⟩, g3⟩ := h7
      have hs := flat_sound (P := P) 20 t ti.eqk d g2 hd 9980 xs ys hx hy hfx hfy w
      have hag : aggDesc d = true := h3.trans g1
      simp only [mkV, hag, if_true] at hs
      exact ⟨hs, g3⟩
    · cases h4
  · cases h

/-- The functions that are entered where they are called, checked one by one. -/
def inlOf (fn : Func) (nargs : Nat) : Option Inl :=
  match fn.body with
  | none => none
  | some c => some ⟨nargs, fn.ntmps - nargs, fn.results.toList, c⟩
theorem TTok_of_check {P : Program} {l : List (Nat × TI)} (h : checkAll P l = true) : TTok P (look l) := by
  induction l with
  | nil => intro t ti ht; cases ht
  | cons p l ih =>
    obtain ⟨k, v⟩ := p
    simp only [checkAll, Bool.and_eq_true] at h
    intro t ti ht
    simp only [look] at ht
    split at ht
    · rename_i hk
      have := beq_of hk
      subst this
      obtain rfl := Option.some.inj ht
      exact checkTI_spec h.1
    · exact ih h.2 t ti ht

theorem enters {P : Program} {f : FuncId} {fn : Func} (hf : P.funcs[f]? = some fn) (hn : (fn.name == "runtime.NumGoroutine") = false) (hb : fn.body.isNone = false) (args : Array Value) (w : World) : (callFunc f args).run P w = .ok (.enter f args) w := by
  unfold callFunc
  simp only [Sem.run_bind, run_program, Result.andThen_ok, hf, hn, hb, Bool.false_eq_true, if_false, Sem.run_pure]

def lookI : List (Nat × Func × Nat) → Nat → Option Inl
  | [], _ => none
  | (g, fn, na) :: l, f => match Nat.beq g f with
    | true => inlOf fn na
    | false => lookI l f
theorem INok_nil {P : Program} : INok P (lookI []) := fun f i h => by cases h
theorem INok_cons {P : Program} {l : List (Nat × Func × Nat)} {g na : Nat} {fn : Func} (h : INok P (lookI l)) (hf : P.funcs[g]? = some fn) (hn : (fn.name == "runtime.NumGoroutine") = false) (hle : Nat.ble na fn.ntmps = true) : INok P (lookI ((g, fn, na) :: l)) := fun f i hi => by
  simp only [lookI] at hi
  split at hi
  · rename_i hb
    cases beq_of hb
    unfold inlOf at hi
    split at hi
    · cases hi
    · rename_i c hc
      cases hi
      have := ble_of hle
      exact ⟨fn, hf, hc, rfl, by simp only; omega, enters hf hn (by rw [hc]; rfl)⟩
  · exact h f i hi

/-- Data that the same values read as, at any depth. -/
inductive DS : DV → DV → Prop where
  | refl (x : DV) : DS x x
  | bt : DS (.bool true) .tt
  | bf : DS (.bool false) .ff
  | tb : DS .tt (.bool true)
  | fb : DS .ff (.bool false)
  | sl (b : Bool) (n sz : Nat) (f g : Nat → List DV) : (∀ i, i < n → (f i).length = (g i).length) → (∀ (i j : Nat) (x y : DV), i < n → (f i)[j]? = some x → (g i)[j]? = some y → DS x y) → DS (.sl b n sz f) (.sl b n sz g)
  | none (b : Bool) (sz sz' : Nat) (f g : Nat → List DV) : DS (.sl b 0 sz f) (.sl b 0 sz' g)
theorem DS.rd {w : World} {M : Nat → Prop} {x y : DV} (h : DS x y) : ∀ {v : Value}, Rd w M x v → Rd w M y v := by
  induction h with
  | refl => exact fun h => h
  | bt => intro v h; cases h; exact .tt
  | bf => intro v h; cases h; exact .ff
  | tb => intro v h; cases h; exact .bool true
  | fb => intro v h; cases h; exact .bool false
  | none => exact fun h => h.width
  | sl b n sz f g hl _ ih =>
    intro v h
    cases h with
    | nil => exact .nil sz g
    | sl _ _ _ ad cap u h1 h3 h4 h5 h6 =>
      have hat : ∀ (i j : Nat) (y : DV), i < n → (g i)[j]? = some y → ∃ x, (f i)[j]? = some x := fun i j y hi hy => by
        have := (List.getElem?_eq_some_iff.1 hy).1
        rw [← hl i hi] at this
        exact ⟨_, List.getElem?_eq_getElem this⟩
      refine .sl n sz g ad cap u h1 h3 (fun i hi => (hl i hi).symm.trans (h4 i hi)) (fun i j d hi hd => ?_) (fun i j d hi hd => ?_)
      · obtain ⟨x, hx⟩ := hat i j d hi hd
        exact h5 i j x hi hx
      · obtain ⟨x, hx⟩ := hat i j d hi hd
        exact ih i j x d hi hx hd (h6 i j x hi hx)
def DSL : List DV → List DV → Prop
  | [], [] => True
  | a :: l, b :: m => DS a b ∧ DSL l m
  | _, _ => False
theorem DSL.len : ∀ {l m : List DV}, DSL l m → l.length = m.length
  | [], [], _ => rfl
  | _ :: _, _ :: _, h => congrArg (· + 1) (DSL.len h.2)
theorem DSL.at : ∀ {l m : List DV}, DSL l m → ∀ (j : Nat) (x y : DV), l[j]? = some x → m[j]? = some y → DS x y
  | [], [], _, _, _, _, hx, _ => by simp at hx
  | _ :: _, _ :: _, h, 0, x, y, hx, hy => by simp at hx hy; subst hx hy; exact h.1
  | _ :: l, _ :: m, h, j + 1, x, y, hx, hy => DSL.at (l := l) (m := m) h.2 j x y (by simpa using hx) (by simpa using hy)
theorem DS.rows {b : Bool} {n sz : Nat} {f g : Nat → List DV} (h : ∀ i, i < n → DSL (f i) (g i)) : DS (.sl b n sz f) (.sl b n sz g) := .sl b n sz f g (fun i hi => (h i hi).len) (fun i j x y hi => (h i hi).at j x y)

/-- Arguments that the same values read as. -/
def ArgEq (s t : SV) : Prop :=
  match s with
  | .d x => match t with
    | .d y => DS x y
    | _ => False
  | s => s = t
def ArgsEq : List SV → List SV → Prop
  | [], [] => True
  | a :: l, b :: m => ArgEq a b ∧ ArgsEq l m
  | _, _ => False
theorem ArgEq.den {w : World} {M : Nat → Prop} {β : Env} {s t : SV} (h : ArgEq s t) {v : Value} (hd : Den w M β s v) : Den w M β t v := by
  unfold ArgEq at h
  split at h
  · split at h
    · exact .d (h.rd (den_data hd))
    · exact h.elim
  · exact h ▸ hd
theorem ArgsEq.len : ∀ {l m : List SV}, ArgsEq l m → l.length = m.length
  | [], [], _ => rfl
  | _ :: _, _ :: _, h => congrArg (· + 1) (ArgsEq.len h.2)
theorem ArgsEq.at : ∀ {l m : List SV}, ArgsEq l m → ∀ (j : Nat) (t : SV), m[j]? = some t → ∃ s, l[j]? = some s ∧ ArgEq s t
  | [], [], _, _, _, ht => by simp at ht
  | _ :: _, _ :: _, h, 0, t, ht => by simp at ht; subst ht; exact ⟨_, rfl, h.1⟩
  | _ :: l, _ :: m, h, j + 1, t, ht => ArgsEq.at (l := l) (m := m) h.2 j t (by simpa using ht)
theorem FnOk.conv {P : Program} {f : FuncId} {args args' : List SV} {res : SV} (h : FnOk P f args res) (hc : ArgsEq args' args) : FnOk P f args' res :=
  ⟨h.1, fun M w vs hM hl hd => h.2 M w vs hM (by rw [← hc.len, hl]) (fun j s u hs hu => by
    obtain ⟨s', hs', he⟩ := hc.at j s hs
    exact he.den (hd j s' u hs' hu))⟩

/-- Bytes, by looking at each. -/
def areBytesB (n : Nat) (f : Nat → List DV) : Bool := (List.range n).all fun i => match f i with
  | [.int .u8 _] => true
  | _ => false
theorem areBytes_of {n : Nat} {f : Nat → List DV} (h : areBytesB n f = true) : areBytes n f := fun i hi => by
  have := List.all_eq_true.mp h i (List.mem_range.mpr hi)
  split at this
  · rename_i x hx; exact ⟨x, hx⟩
  · cases this

namespace Ex
variable {α : Type}
theorem viewC {ks : List KB} {s : SV} {G : SV → List Nat → (α → Prop) → Prop} (h : ∀ v l, Ex (G v l)) : Ex (fun K => viewCK ks s (fun v l => G v l K)) := by
  unfold viewCK
  split <;> first | exact dv fun d fr => h _ _ | exact h _ _
theorem viewCs {ks : List KB} : ∀ {l : List SV} {G : List SV → List Nat → (α → Prop) → Prop} (_ : ∀ v l, Ex (G v l)), Ex (fun K => viewCsK ks l (fun v l => G v l K)) := by
  intro l
  induction l with
  | nil => intro G h; exact h _ _
  | cons a l ih => intro G h; exact viewC fun d fr => ih fun ds fr' => appN fun r => h _ _
theorem view {TT : Nat → Option TI} {ks : List KB} {s : SV} {ty : Option TypeId} {G : SV → List Nat → (α → Prop) → Prop} (h : ∀ v l, Ex (G v l)) : Ex (fun K => viewK TT ks s ty (fun v l => G v l K)) := by
  unfold viewK
  repeat' (first | exact no | exact viewCs fun _ _ => h _ _ | exact src fun _ _ _ => h _ _ | exact viewC h | split)
theorem views {TT : Nat → Option TI} {ks : List KB} : ∀ {l : List SV} {tys : List TypeId} {G : List SV → List Nat → (α → Prop) → Prop} (_ : ∀ v l, Ex (G v l)), Ex (fun K => viewsK TT ks l tys (fun v l => G v l K)) := by
  intro l
  induction l with
  | nil => intro tys G h; exact h _ _
  | cons a l ih => intro tys G h; exact view fun d fr => ih fun ds fr' => appN fun r => h _ _
end Ex

theorem views_ex {TT : Nat → Option TI} {ks : List KB} {as : List SV} {tys : List TypeId} {K : List SV → List Nat → Prop} (h : viewsK TT ks as tys K) : ∃ l t, viewsK TT ks as tys (fun l' t' => l' = l ∧ t' = t) ∧ K l t := by
  obtain ⟨⟨l, t⟩, h1, h2⟩ := Ex.views (α := List SV × List Nat) (TT := TT) (ks := ks) (l := as) (tys := tys) (G := fun l t K => K (l, t)) (fun v l => Ex.self (v, l)) (fun p => K p.1 p.2) h
  exact ⟨l, t, by simpa using h1, h2⟩
/-- A call by a contract over data, the rows in the arguments being looked at. -/
theorem CallStop.look {P : Program} {TT : Nat → Option TI} {f : FuncId} {as : List SV} {tys : List TypeId} {ks : List KB} {K : Bool → SV → List KB → Prop} (r : SV)
    (h : viewsK TT ks as tys (fun l _ => FnOk P f l r ∧ closedL l = true)) (hs : scalar r = true) (hK : K false r ks) : CallStop P TT f as tys ks K := by
  obtain ⟨l, t, h1, h2, h3⟩ := views_ex h
  exact .view r l t h2 h1 h3 hs hK
end Go.Eng
