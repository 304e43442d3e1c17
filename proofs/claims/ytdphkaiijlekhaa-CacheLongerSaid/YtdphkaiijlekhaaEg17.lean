/-
  The engine, part 17: all operations that change what is known; calls by contract.
-/
import Derived.Lib.ConvBytes
import Derived.Test.YtdphkaiijlekhaaEg16
namespace Go.Eng
open Go Go.RowKit

section
variable {P : Program} {TT : Nat → Option TI} {X : Nat → Prop} {w : World} {β : Env} {fp : Nat → Nat → Prop} {ts : List SV} {ks : List KB} {a : Act} {K : SV → List KB → Prop} {o : Oper} {r : Option Nat} {n : Nat} {next : Act → World → Prop} {Q : Exit → Act → World → Prop}

theorem mev_buildSlice (hTT : TTok P TT) {t : TypeId} {len : Nat} {parts : Array (Nat × Operand)} (ho : o.op = .buildSlice t len parts) (h : mev TT ts ks (.buildSlice t len parts) K) (hM : Mem X w β fp ks) (hT : ∀ x, Den w (Mx X fp) β (val ts x) (a.eval x)) (hn : MemNext X w β fp a o K next) : o.wpIn (wideF r) n P a w next Q := by
  have hnd : ∀ c, o.op ≠ .defer c := fun c hc => by rw [ho] at hc; cases hc
  simp only [mev] at h
  split at h
  · rename_i _ _ _ _ e _ ht
    split at h
    · rename_i size bytes agg zero desc eqk hte
      split at h
      · rename_i hble
        have hble := ble_of hble
        obtain ⟨info0, d0, z0', hi0, hu0, _, _, _, _, _, _, _, _, hd0⟩ := find_TT hTT ht
        cases hd0
        obtain ⟨info, de, z0, hi, hue, hsz, hby, hz0, _, hzl, hzs, hzd, hz1, _⟩ := find_TT hTT hte
        simp only at hsz hzl hzs hzd
        rw [repK_eq] at h
        have hlen0 : ((List.replicate len zero).flatten).length = len * size := by simp [hzs]
        have hbase : ((Array.range (len * info.size)).map (z0.cells[· % z0.cells.size]!)).toList.length = len * size := by simp [hsz]
        have hzpos : ∀ m, m < len * size → 0 < z0.cells.size := fun m hm => by
          rcases Nat.eq_zero_or_pos z0.cells.size with e0 | e0
          · rw [hzl, hzs] at e0; rw [e0] at hm; omega
          · exact e0
        obtain ⟨cs', vs', h, hfill, r1, r2, r3⟩ := fillS_spec (a := a) hT parts.toList _ _ ((Array.range (len * info.size)).map (z0.cells[· % z0.cells.size]!)).toList h (by rw [hlen0, hbase]) (fun j s u hs hu => by
            obtain ⟨a1, a2⟩ := rep_get zero len j s hs
            have hu' : ((Array.range (len * info.size)).map (z0.cells[· % z0.cells.size]!))[j]? = some u := by rw [← Array.getElem?_toList]; exact hu
            obtain ⟨b1, b2⟩ := rangeMod_get hu' (hzpos j (by rw [hzs] at a2; exact a2))
            rw [hzl] at b2
            exact hzd w _ β _ s u a1 b2) (fun u hu => by
            obtain ⟨j, hj, rfl⟩ := List.mem_iff_getElem.1 hu
            have hu' := List.getElem?_eq_getElem hj
            rw [Array.getElem?_toList] at hu'
            rw [hbase] at hj
            obtain ⟨b1, b2⟩ := rangeMod_get hu' (hzpos j hj)
            exact hz1 _ _ b2)
        rw [addBK_eq, lenBK_eq, Nat.zero_add] at h
        have hW := hM.newCells e cs' vs'.toArray (by simpa using r1) (fun j s u hs hu => r2 j s u hs (by simpa using hu)) (fun j u hu => r3 u (List.mem_of_getElem? (by simpa using hu)))
        refine wpIn_of_run hnd ?_ (hn _ _ (.slice (some ⟨w.heap.size, 0, none⟩) len len) _ _ _ h hW (.cs _ 0 len len (locB w.heap.size) (upd_same _ _ _) (Nat.le_refl _)))
        have hrun : (Instr.buildSlice t len (parts.map fun (i, x) => (i, a.eval x))).run P w = .ok (.slice (some ⟨w.heap.size, 0, none⟩) len len) (w.alloc (.cells vs'.toArray e)) := by
          have hp : (parts.map fun (i, x) => (i, a.eval x)).toList = parts.toList.map fun p => (p.1, a.eval p.2) := by simp
          have hfill' : Instr.fill (fun i => some (i * info.size, info.size)) ((Array.range (len * info.size)).map (z0.cells[· % z0.cells.size]!)) (parts.map fun (i, x) => (i, a.eval x)).toList = some vs'.toArray := by
            rw [hp, hsz]
            rw [hsz, Array.toArray_toList] at hfill
            exact hfill
          have h24 : ¬ (len * info.size > 2 ^ 24) := by rw [hsz]; omega
          by_cases hz : len * info.size = 0
          · rw [hz, Array.range_zero', Array.map_empty] at hfill'
            simp only [Instr.buildSlice, Sem.run_bind, run_underlying hu0, Result.andThen_ok, run_sizeOf hi, hz]
            have hfill2 : Instr.fill (fun i => some (i * info.size, info.size)) #[] (List.map (fun x => (x.1, a.eval x.2)) parts.toList) = some vs'.toArray := by rw [← hp]; exact hfill'
            simp [newRow, Array.range_zero', hfill2]
          · exact run_buildSlice w t e len _ _ info z0 hu0 hi hz0 h24 hz hfill'
        simp [execOp, ho, hrun]
      · exact h.elim
    · exact h.elim
  · exact h.elim

theorem mev_makeSlice (hTT : TTok P TT) {t : TypeId} {x y : Operand} (ho : o.op = .makeSlice t x y) (h : mev TT ts ks (.makeSlice t x y) K) (hM : Mem X w β fp ks) (hT : ∀ x, Den w (Mx X fp) β (val ts x) (a.eval x)) (hn : MemNext X w β fp a o K next) : o.wpIn (wideF r) n P a w next Q := by
  have hnd : ∀ c, o.op ≠ .defer c := fun c hc => by rw [ho] at hc; cases hc
  simp only [mev] at h
  split at h
  · rename_i _ _ _ _ e _ ht
    split at h
    · rename_i size bytes agg zero desc eqk hte
      obtain ⟨info0, d0, z0', hi0, hu0, _, _, _, _, _, _, _, _, hd0⟩ := find_TT hTT ht
      cases hd0
      obtain ⟨info, de, z0, hi, hue, hsz, hby, hz0, _, hzl, hzs, hzd, hz1, _⟩ := find_TT hTT hte
      simp only at hsz hzl hzs hzd hby
      rw [valK_eq, valK_eq] at h
      have hx := hT x
      have hy := hT y
      split at h
      · rename_i k l k' c ex ey
        rw [ex] at hx; rw [ey] at hy
        have e1 := den_int hx
        have e2 := den_int hy
        have hE : Mem (Mx X fp) w noE (fun _ _ => False) [] := ⟨⟨hM.mlt, fun _ _ h => h.elim, fun _ _ _ h => h.elim, fun _ _ h => h.elim, fun _ _ h => h.elim, fun i L k hk => by simp at hk⟩, fun _ _ => rfl, fun i t dom cols hi => by simp at hi⟩
        obtain ⟨ds, fr, h, f1, f2, f3⟩ := dvsK_spec hE.toMem0 _ _ z0.cells.toList h (by simpa using hzl.symm) (fun j s u hs hu => hzd w _ noE j s u hs (by simpa using hu))
        obtain ⟨⟨h0, h1, h2, h3⟩, h⟩ := h
        rw [newRowK_eq] at h
        have hsize : ds.length = size := by rw [f1, hzs]
        have hgetm : ∀ (kk q : Nat) (u : Value), q < size → (madeCells z0.cells (c.toNat * info.size))[kk * size + q]? = some u → z0.cells[q]? = some u := fun kk q u hq hu => by
          obtain ⟨_, b2⟩ := rangeMod_get hu (by omega)
          rw [hzl, hzs, Nat.mul_comm, Nat.mul_add_mod, Nat.mod_eq_of_lt hq] at b2
          exact b2
        obtain ⟨hW, hden⟩ := hM.newRow e size l.toNat c.toNat .no (fun _ => ds) (madeCells z0.cells (c.toNat * info.size)) (0, 0) (by simp) (fun e => by cases e) (by rw [size_madeCells, hsz]) (by omega) (fun _ _ => hsize) (fun kk q d u _ hd hu => by
            have hq : q < size := by have := (List.getElem?_eq_some_iff.1 hd).1; omega
            have hu' := hgetm kk q u hq hu
            have := f3 fr (fun _ h => h) q d u hd (by simpa using hu')
            exact rd_less this (fun b hb => .inl hb)) (fun j u hu => by
            have hj : j < c.toNat * info.size := by have := (Array.getElem?_eq_some_iff.1 hu).1; rw [size_madeCells] at this; exact this
            have hp : 0 < z0.cells.size := by
              rcases Nat.eq_zero_or_pos z0.cells.size with e0 | e0
              · rw [hzl, hzs, ← hsz] at e0; rw [e0] at hj; omega
              · exact e0
            obtain ⟨_, b2⟩ := rangeMod_get hu hp
            exact hz1 _ _ b2)
        refine wpIn_of_run hnd ?_ (hn _ _ _ _ _ _ h hW hden)
        have hrun := run_make (P := P) w t e info z0 hu0 hi hz0 k k' l c h0 h1 (by rw [hby, Int.mul_comm]; exact h2) h3
        simp [execOp, ho, e1, e2, hrun]
      · exact h.elim
    · exact h.elim
  · exact h.elim

theorem bytesWorld_eq (w : World) (e : TypeId) (s : ByteArray) : Lib.bytesWorld w e s = w.drew.alloc (.cells (Lib.bytesCells w e s) e ((Lib.bytesCells w e s).size, (Lib.bytesCells w e s).size + 1)) := by
  have hh : (Lib.bytesWorld w e s).heap = (w.drew.alloc (.cells (Lib.bytesCells w e s) e ((Lib.bytesCells w e s).size, (Lib.bytesCells w e s).size + 1))).heap := by
    apply Array.ext_getElem?
    intro i
    rcases Nat.lt_trichotomy i w.heap.size with h | h | h
    · rw [Lib.bytesWorld_at_old w e s i h]
      exact (Below.heap_alloc w.drew _ i h).symm
    · subst h
      rw [Lib.bytesWorld_at_new]
      show _ = (w.heap.push _)[w.heap.size]?
      simp
    · rw [Array.getElem?_eq_none (by rw [Lib.bytesWorld_size]; omega)]
      show _ = (w.heap.push _)[i]?
      rw [Array.getElem?_eq_none (by simp; omega)]
  have h2 : ∀ w' : World, (Lib.bytesWorld w e s).heap = w'.heap → w'.tape = w.tape → w'.drawn = w.drew.drawn → w'.os = w.os → w'.output = w.output → Lib.bytesWorld w e s = w' := by
    intro w' a b c d f
    have g1 : (Lib.bytesWorld w e s).tape = w.tape := by simp [Lib.bytesWorld, World.freeze, World.alloc, World.drew, -World.alloc_eq, -World.drew_eq]
    have g2 : (Lib.bytesWorld w e s).drawn = w.drew.drawn := by simp [Lib.bytesWorld, World.freeze, World.alloc, World.drew, -World.alloc_eq, -World.drew_eq]
    have g3 : (Lib.bytesWorld w e s).os = w.os := by simp [Lib.bytesWorld, World.freeze, World.alloc, World.drew, -World.alloc_eq, -World.drew_eq]
    have g4 : (Lib.bytesWorld w e s).output = w.output := by simp [Lib.bytesWorld, World.freeze, World.alloc, World.drew, -World.alloc_eq, -World.drew_eq]
    generalize Lib.bytesWorld w e s = w1 at *
    obtain ⟨h1, t1, d1, o1, u1⟩ := w1
    obtain ⟨h2, t2, d2, o2, u2⟩ := w'
    simp only at a b c d f g1 g2 g3 g4
    subst a
    simp [b, c, d, f, g1, g2, g3, g4]
  exact h2 _ hh rfl rfl rfl rfl

theorem mev_convert (hTT : TTok P TT) {src dst : TypeId} {x : Operand} (ho : o.op = .convert src dst x) (h : mev TT ts ks (.convert src dst x) K) (hM : Mem X w β fp ks) (hT : ∀ x, Den w (Mx X fp) β (val ts x) (a.eval x)) (hn : MemNext X w β fp a o K next) : o.wpIn (wideF r) n P a w next Q := by
  have hnd : ∀ c, o.op ≠ .defer c := fun c hc => by rw [ho] at hc; cases hc
  simp only [mev] at h
  split at h
  · rename_i _ _ tis _ _ _ _ e _ hts ht
    obtain ⟨_, us, _, _, hsrc, _⟩ := find_TT hTT hts
    split at h
    · rename_i _ _ _ _ _ hte
      obtain ⟨info0, d0, z0', hi0, hu0, _, _, _, _, _, _, _, _, hd0⟩ := find_TT hTT ht
      cases hd0
      obtain ⟨info1, d1, z1', hi1, hu1, _, _, _, _, _, _, _, _, hd1⟩ := find_TT hTT hte
      cases hd1
      rw [valK_eq] at h
      have hx := hT x
      split at h
      · rename_i s ex
        rw [ex] at hx
        have ev := den_str hx
        rw [newRowK_eq] at h
        have hrun := Lib.run_convert_string_bytes (P := P) w src dst e ⟨s.toArray⟩ hsrc hu0 hu1
        rw [bytesWorld_eq, size_str] at hrun
        have hge := grown_ge w s.length 0 e
        have hC : (Lib.bytesCells w e ⟨s.toArray⟩).size = grownCap w s.length 0 e := by
          unfold Lib.bytesCells
          rw [size_str]
          simp
          omega
        have hW := hM.drew
        have hget : ∀ j u, j < s.length → (Lib.bytesCells w e ⟨s.toArray⟩)[j]? = some u → ∃ b, s[j]? = some b ∧ u = .int .u8 b.toNat := fun j u hj hu => by
          unfold Lib.bytesCells at hu
          rw [Array.getElem?_append_left (by simpa using hj)] at hu
          simp at hu
          obtain ⟨b, h1, h2⟩ := hu
          exact ⟨b, h1, h2.symm⟩
        obtain ⟨hW2, hden⟩ := hW.mem.newRow e 1 s.length (grownCap w s.length 0 e) .no (fun j => [.int .u8 (byteAt s j)]) (Lib.bytesCells w e ⟨s.toArray⟩) ((Lib.bytesCells w e ⟨s.toArray⟩).size, (Lib.bytesCells w e ⟨s.toArray⟩).size + 1) (fun o ho => by omega) (fun e => by cases e) (by rw [hC, Nat.mul_one]) hge (fun _ _ => rfl) (fun k q d u hk hd hu => by
            cases q with
            | zero =>
              simp at hd
              subst hd
              obtain ⟨b, hb, rfl⟩ := hget k u hk (by simpa using hu)
              have : byteAt s (k : Int) = b.toNat := by unfold byteAt; simp [hb]
              rw [this]
              exact .int _ _
            | succ q => simp at hd) (fun j u hu => by
            unfold Lib.bytesCells at hu
            rw [Array.getElem?_append] at hu
            split at hu
            · simp at hu
              obtain ⟨b, _, rfl⟩ := hu
              rfl
            · have := Array.mem_of_getElem? hu
              simp at this
              rw [this.2]
              rfl)
        refine wpIn_of_run hnd ?_ (hn _ _ _ _ _ _ h (hW.trans hW2) hden)
        simp only [execOp, ho, ev, strV, Sem.run_bind, hrun, Result.andThen_ok, Sem.run_pure]
        rfl
      · exact h.elim
    · exact h.elim
  · exact h.elim

theorem elemK_spec {ea : Bool} {v : SV} {c : List SV → Prop} (h : elemK ea v c) : ∃ vs, c vs ∧ ∀ (w : World) (M : Nat → Prop) (β : Env) (u : Value), Den w M β v u → ∃ vc, u = mkVal ea vc ∧ vs.length = vc.length ∧ (ea = false → vc.length = 1) ∧ (∀ (q : Nat) (s : SV) (x : Value), vs[q]? = some s → vc[q]? = some x → Den w M β s x) ∧ ∀ x ∈ vc, x.oneCell' = true := by
  unfold elemK at h
  split at h
  · split at h
    · rename_i l
      refine ⟨l, h, fun w M β u hu => ?_⟩
      cases hu with
      | agg _ vs h1 h2 h3 => exact ⟨vs, rfl, h1, fun e => by (cases e), h2, h3⟩
    · exact h.elim
  · split at h
    · exact h.elim
    · rename_i hna
      have hc : cellsOf v = [v] := by
        unfold cellsOf
        split
        · exact absurd rfl (hna _)
        · rfl
      have h' : c (cellsOf v) := by
        unfold cellsK at h
        split at h
        · exact absurd rfl (hna _)
        · exact h.elim
        · exact h.elim
        · split at h
          · rw [hc]; exact h
          · exact h.elim
        · rw [hc]; exact h
      refine ⟨[v], by rw [← hc]; exact h', fun w M β u hu => ?_⟩
      obtain ⟨_, hcells⟩ := cellsK_spec (w := w) (M := M) (β := β) h
      obtain ⟨c1, c2, c3⟩ := hcells u hu
      rw [hc] at c1
      have hone : u.oneCell' = true := by
        cases hag : u with
        | agg cs =>
          subst hag
          simp only [Value.cells] at c1 c2 c3
          cases hu <;> first | (exact absurd rfl (hna _)) | skip
          all_goals first | (rename_i hr; cases hr) | skip
          all_goals (first | (unfold cellsK at h; simp only at h) | skip)
          all_goals (first | (split at h; (rename_i h1; exact h1); exact h.elim) | exact h.elim | skip)
        | _ => subst hag; exact c3 _ (by simp [Value.cells])
      refine ⟨[u], rfl, rfl, fun _ => rfl, fun q s x hs hx => ?_, fun x hx => ?_⟩
      · cases q with
        | zero => simp at hs hx; subst hs hx; exact hu
        | succ q => simp at hs
      · simp at hx; subst hx; exact hone

theorem eqCells_eq {eks : List EK} : ∀ {xs ys : List Value}, xs.length = eks.length → ys.length = eks.length → Fits eks xs → Fits eks ys → eqCells eks xs ys = true → xs = ys := by
  induction eks with
  | nil =>
    intro xs ys h1 h2 _ _ _
    rw [List.eq_nil_of_length_eq_zero h1, List.eq_nil_of_length_eq_zero h2]
  | cons k eks ih =>
    intro xs ys h1 h2 f1 f2 he
    match xs, ys, h1, h2 with
    | x :: xs, y :: ys, h1, h2 =>
      simp only [eqCells, Bool.and_eq_true] at he
      have hx := f1 0 k x rfl rfl
      have hy := f2 0 k y rfl rfl
      have hxy : x = y := by
        have he1 := he.1
        cases k with
        | int k =>
          cases x <;> simp [fits] at hx
          cases y <;> simp [fits] at hy
          subst hx hy
          simp [eqCell] at he1
          rw [he1]
        | bool =>
          cases x <;> simp [fits] at hx
          cases y <;> simp [fits] at hy
          simp [eqCell] at he1
          rw [he1]
        | str =>
          cases x <;> simp [fits] at hx
          cases y <;> simp [fits] at hy
          rename_i p q
          have : (p == q) = true := by rw [bytes_beq]; simpa [eqCell] using he1
          have hd : (p.data == q.data) = true := this
          simp only [beq_iff_eq] at hd
          rw [ByteArray.ext hd]
      rw [hxy, ih (by simpa using h1) (by simpa using h2) (fun j k x a b => f1 (j + 1) k x (by simpa using a) (by simpa using b)) (fun j k x a b => f2 (j + 1) k x (by simpa using a) (by simpa using b)) he.2]
theorem sameBits_one {k : EK} {x : Value} (h : fits k x) (n : Nat) : Instr.sameBits n x x = true := by
  cases k <;> cases x <;> simp [fits] at h <;> cases n <;> simp [Instr.sameBits, bytes_beq]
theorem sameBits_refl {eks : List EK} {ka : Bool} {xs : List Value} (hl : xs.length = eks.length) (h1 : ka = false → xs.length = 1) (hf : Fits eks xs) : Instr.sameBits 10000 (mkVal ka xs) (mkVal ka xs) = true := by
  cases ka with
  | false =>
    match xs, h1 rfl, hl, hf with
    | [x], _, hl, hf => match eks, hl with
      | [k], _ => exact sameBits_one (hf 0 k x rfl rfl) _
  | true =>
    show Instr.sameBits (9999 + 1) (.agg xs.toArray) (.agg xs.toArray) = true
    simp only [Instr.sameBits, beq_self_eq_true, Bool.true_and, List.all_eq_true]
    intro p hp
    obtain ⟨j, hj, rfl⟩ := List.mem_iff_getElem.1 hp
    simp only [List.getElem_zip]
    have hj' : j < xs.length := by simpa using hj
    exact sameBits_one (hf j (eks[j]'(by omega)) (xs[j]) (List.getElem?_eq_getElem _) (List.getElem?_eq_getElem _)) _

theorem run_setObjM {b : Nat} {es : Array MapEntry} {clock : Nat} (o : Obj) (h : w.heap[b]? = some (.map es clock)) : (setObj b o).run P w = .ok () (World.setBlock w b o) := by
  simp [setObj, Sem.run, h, World.setBlock]

theorem mev_makeMap (hTT : TTok P TT) {t : TypeId} {res : Option Operand} (ho : o.op = .makeMap t res) (h : mev TT ts ks (.makeMap t res) K) (hM : Mem X w β fp ks) (hT : ∀ x, Den w (Mx X fp) β (val ts x) (a.eval x)) (hn : MemNext X w β fp a o K next) : o.wpIn (wideF r) n P a w next Q := by
  have hnd : ∀ c, o.op ≠ .defer c := fun c hc => by rw [ho] at hc; cases hc
  simp only [mev] at h
  split at h
  · rename_i _ _ _ _ kt et _ ht
    obtain ⟨info0, d0, z0, hi0, hu0, _, _, _, _, _, _, _, _, hd0⟩ := find_TT hTT ht
    cases hd0
    split at h
    · rename_i _ _ ka _ kd eqk _ _ ea _ _ _ hkt het
      have hn0 := hM.kl ks.length (Nat.le_refl _)
      have hmk : ∀ ks', (∃ s : SV, s = .map ks.length ∧ ks' = ks ++ [.map (keks ka kd eqk) ka ea []] ∧ K s ks') → (execOp a.eval o).run P w = .ok (.value (.map (some w.heap.size))) (w.alloc (.map #[] 0)) → o.wpIn (wideF r) n P a w next Q := by
        rintro _ ⟨s, rfl, rfl, hK⟩ hrun
        have hW := hM.alloc (.map #[] 0) (locB w.heap.size) (.map (keks ka kd eqk) ka ea []) rfl (.map _ _ _ [] #[] 0 (fun x => Iff.rfl) (by show (w.heap.push _)[w.heap.size]? = _; simp) rfl (fun j p e hp => by simp at hp))
        exact wpIn_of_run hnd hrun (hn _ _ _ _ _ _ hK hW (.map _ (locB w.heap.size) (upd_same _ _ _)))
      unfold isSomeInt at h
      split at h
      · rw [addBK_eq, lenBK_eq, Nat.zero_add] at h
        refine hmk _ ⟨_, rfl, rfl, h⟩ ?_
        simp [execOp, ho, Instr.makeMap]
      · rename_i x
        rw [valK_eq] at h
        have hx := hT x
        split at h
        · rename_i k q ex
          rw [ex] at hx
          have ev := den_int hx
          rw [addBK_eq, lenBK_eq, Nat.zero_add] at h
          refine hmk _ ⟨_, rfl, rfl, h⟩ ?_
          simp [execOp, ho, Instr.makeMap, ev, run_underlying hu0, asInt, asIntOf]
        · exact h.elim
    · exact h.elim
  · exact h.elim

theorem mev_mapUpdate (hTT : TTok P TT) {t : TypeId} {m k v : Operand} (ho : o.op = .mapUpdate t m k v) (h : mev TT ts ks (.mapUpdate t m k v) K) (hM : Mem X w β fp ks) (hT : ∀ x, Den w (Mx X fp) β (val ts x) (a.eval x)) (hn : MemNext X w β fp a o K next) : o.wpIn (wideF r) n P a w next Q := by
  have hnd : ∀ c, o.op ≠ .defer c := fun c hc => by rw [ho] at hc; cases hc
  simp only [mev] at h
  split at h
  · rename_i _ _ _ _ kt et _ ht
    obtain ⟨info0, d0, z0, hi0, hu0, _, _, _, _, _, _, _, _, hd0⟩ := find_TT hTT ht
    cases hd0
    split at h
    · rename_i _ _ ka _ kd eqk _ _ ea _ _ _ hkt het
      rw [valK_eq] at h
      obtain ⟨hne, ds, h, hkey⟩ := keyK_spec (w := w) (M := Mx X fp) (β := β) h
      obtain ⟨kc, ekc, hkl, hdl, hkf, hkr⟩ := hkey _ (hT k)
      have hK := keyTy_of hTT hkt hne
      rw [valK_eq] at h
      obtain ⟨vs, h, hel⟩ := elemK_spec h
      obtain ⟨vc, evc, v1, v2, v3, v4⟩ := hel w (Mx X fp) β _ (hT v)
      split at h
      · rw [valK_eq] at h
        have hm := hT m
        split at h
        · rename_i b hx
          rw [hx] at hm
          have ev : ∃ L, a.eval m = .map (some L.b) ∧ β b = some L := by
            generalize a.eval m = av at hm
            cases hm with
            | map _ L hL => exact ⟨L, rfl, hL⟩
          obtain ⟨L, ev, hL⟩ := ev
          rw [getBK_eq] at h
          split at h
          · rename_i eks ka' ea' l hg
            have hk := getB_some hg (by simp)
            split at h
            · rename_i q1 q2 q3
              have q1 := ekEq_eq q1
              have q2 := bEq_eq q2
              have q3 := bEq_eq q3
              subst q1 q2 q3
              obtain ⟨l', hl', h⟩ := h
              rw [setBK_eq] at h
              have hkb := hM.at hk (by simp) hL
              have hil : b < ks.length := (List.getElem?_eq_some_iff.1 hk).1
              cases hkb with
              | map _ _ _ _ es clock hfp hb hl hent =>
                have hfind := findKey_run (P := P) (w := w) (M := Mx X fp) (β := β) hK hkl hdl hkf hkr l es.toList (by simpa using hl) (fun j p e hp he => hent j p e hp (by simpa using he))
                have hchk := hK.chk w false kc hkl hkf
                have hka1 : ka = false → kc.length = 1 := fun e => by
                  subst e
                  rw [hkl]
                  have hne' := hne
                  simp only [keks] at hne' ⊢
                  cases kd <;> first | rfl | exact absurd rfl hne'
                have hst : ∀ o', Step (Mx X fp) w (World.setBlock w L.b o') := fun o' => Step.setBlock w (.inr ⟨b, (hfp _).2 rfl⟩) o'
                have hent' : ∀ o' p e, EntAt w (Mx X fp) β (keks ka kd eqk) ka ea p e → EntAt (World.setBlock w L.b o') (Mx X fp) β (keks ka kd eqk) ka ea p e := fun o' p e he => he.keep (hst o').keep (fun _ _ e => e) (Ext.refl _)
                have hnew : ∀ bo, EntAt w (Mx X fp) β (keks ka kd eqk) ka ea (ds, vs) ⟨mkVal ka kc, mkVal ea vc, bo⟩ := fun bo => ⟨kc, vc, rfl, rfl, hdl, v1, hkl, hka1, v2, hkf, hkr, v3, v4⟩
                rcases idxM_spec l ds 0 with ⟨b1, b2, b3, _⟩ | ⟨j, p, b1, b2, b3, b4, b5, _⟩
                · rw [b3] at hl'
                  subst hl'
                  have hW := hM.set (.map (keks ka kd eqk) ka ea (l ++ [(ds, vs)])) (.map (es.push ⟨mkVal ka kc, mkVal ea vc, clock⟩) (clock + 1)) hil hL hfp (.map _ _ _ _ _ _ hfp (setBlock_same _ _ _ (lt_of_block hb)) (by simp [hl]) (fun j p e hp he => hent' _ _ _ (by
                    by_cases hj : j < l.length
                    · rw [List.getElem?_append_left hj] at hp
                      rw [Array.getElem?_push_lt (by omega), ← Array.getElem?_eq_getElem] at he
                      exact hent j p e hp he
                    · have hj' : j = l.length := by
                        have := (List.getElem?_eq_some_iff.1 hp).1
                        simp at this; omega
                      subst hj'
                      rw [List.getElem?_append_right (Nat.le_refl _)] at hp
                      rw [hl, Array.getElem?_push_size] at he
                      simp at hp he
                      subst hp he
                      exact hnew _)))
                  refine wpIn_of_skip hnd ?_ (hn _ _ _ _ _ _ h hW (.any _))
                  rw [b1] at hfind
                  simp only [Option.bind_none] at hfind
                  simp only [execOp, ho, ev, ekc, evc, Instr.mapUpdate, Sem.run_bind, run_underlying hu0, Result.andThen_ok, run_getObjM hb, hchk, hfind, run_setObjM _ hb, Sem.run_pure]
                · rw [b5] at hl'
                  subst hl'
                  have hlt : j < es.size := by rw [← hl]; exact (List.getElem?_eq_some_iff.1 b2).1
                  have hej := Array.getElem?_eq_getElem hlt
                  obtain ⟨kc', vc', a1, a2, a3, a4, a5, a6, a7, a8, a9, a10, a11⟩ := (hent j p es[j] b2 hej).ex
                  have hkk : kc = kc' := eqCells_eq hkl a5 hkf a8 (by rw [eqCells_keyEq hkl a5 hdl a3 hkf a8 hkr a9]; exact b3)
                  subst hkk
                  have hW := hM.set (.map (keks ka kd eqk) ka ea (l.set j (ds, vs))) (.map (es.modify j fun e => { e with key := mkVal ka kc, val := mkVal ea vc }) clock) hil hL hfp (.map _ _ _ _ _ _ hfp (setBlock_same _ _ _ (lt_of_block hb)) (by simp [hl]) (fun q p' e hp he => hent' _ _ _ (by
                    rw [List.getElem?_set] at hp
                    rw [Array.getElem?_modify] at he
                    by_cases hq : j = q
                    · subst hq
                      rw [if_pos rfl, if_pos (by omega)] at hp
                      rw [if_pos rfl, hej] at he
                      cases hp
                      simp only [Option.map_some] at he
                      cases he
                      exact hnew _
                    · rw [if_neg hq] at hp he
                      exact hent q p' e hp he)))
                  refine wpIn_of_skip hnd ?_ (hn _ _ _ _ _ _ h hW (.any _))
                  rw [b1] at hfind
                  have hej' : es.toList[0 + j]? = some es[j] := by simp
                  simp only [Option.bind_some, hej', Option.map_some] at hfind
                  have hkeep : (Instr.keyThatStays (((es[j]?).map (·.key)).getD (mkVal ka kc)) (mkVal ka kc)).run P w = .ok (mkVal ka kc) w := by
                    rw [hej]
                    simp only [Option.map_some, Option.getD_some, a1, Instr.keyThatStays, sameBits_refl hkl hka1 hkf, if_true, Sem.run_pure]
                  simp only [execOp, ho, ev, ekc, evc, Instr.mapUpdate, Sem.run_bind, run_underlying hu0, Result.andThen_ok, run_getObjM hb, hchk, hfind, hkeep, run_setObjM _ hb, Sem.run_pure, Nat.zero_add]
            · exact h.elim
          · exact h.elim
        · exact h.elim
      · exact h.elim
    · exact h.elim
  · exact h.elim

theorem mev_delete (hTT : TTok P TT) {args : Array Operand} {argTypes : Array TypeId} (ho : o.op = .call ⟨.builtin .delete, args, argTypes⟩) (h : mev TT ts ks (.call ⟨.builtin .delete, args, argTypes⟩) K) (hM : Mem X w β fp ks) (hT : ∀ x, Den w (Mx X fp) β (val ts x) (a.eval x)) (hn : MemNext X w β fp a o K next) : o.wpIn (wideF r) n P a w next Q := by
  have hnd : ∀ c, o.op ≠ .defer c := fun c hc => by rw [ho] at hc; cases hc
  obtain ⟨args⟩ := args
  obtain ⟨argTypes⟩ := argTypes
  simp only [mev] at h
  split at h
  · rename_i m k t t2
    split at h
    · rename_i _ _ _ _ kt et _ ht
      obtain ⟨info0, d0, z0, hi0, hu0, _, _, _, _, _, _, _, _, hd0⟩ := find_TT hTT ht
      cases hd0
      split at h
      · rename_i _ _ ka _ kd eqk hkt
        rw [valK_eq] at h
        obtain ⟨hne, ds, h, hkey⟩ := keyK_spec (w := w) (M := Mx X fp) (β := β) h
        obtain ⟨kc, ekc, hkl, hdl, hkf, hkr⟩ := hkey _ (hT k)
        have hK := keyTy_of hTT hkt hne
        rw [valK_eq] at h
        have hm := hT m
        split at h
        · rename_i b hx
          rw [hx] at hm
          have ev : ∃ L, a.eval m = .map (some L.b) ∧ β b = some L := by
            generalize a.eval m = av at hm
            cases hm with
            | map _ L hL => exact ⟨L, rfl, hL⟩
          obtain ⟨L, ev, hL⟩ := ev
          rw [getBK_eq] at h
          split at h
          · rename_i eks ka' ea l hg
            have hk := getB_some hg (by simp)
            split at h
            · rename_i q1 q2
              have q1 := ekEq_eq q1
              have q2 := bEq_eq q2
              subst q1 q2
              obtain ⟨l', hl', h⟩ := h
              rw [setBK_eq] at h
              have hkb := hM.at hk (by simp) hL
              have hil : b < ks.length := (List.getElem?_eq_some_iff.1 hk).1
              cases hkb with
              | map _ _ _ _ es clock hfp hb hl hent =>
                have hfind := findKey_run (P := P) (w := w) (M := Mx X fp) (β := β) hK hkl hdl hkf hkr l es.toList (by simpa using hl) (fun j p e hp he => hent j p e hp (by simpa using he))
                have hchk := hK.chk w es.isEmpty kc hkl hkf
                have hst : ∀ o', Step (Mx X fp) w (World.setBlock w L.b o') := fun o' => Step.setBlock w (.inr ⟨b, (hfp _).2 rfl⟩) o'
                have hent' : ∀ o' p e, EntAt w (Mx X fp) β (keks ka kd eqk) ka ea p e → EntAt (World.setBlock w L.b o') (Mx X fp) β (keks ka kd eqk) ka ea p e := fun o' p e he => he.keep (hst o').keep (fun _ _ e => e) (Ext.refl _)
                rcases idxM_spec l ds 0 with ⟨b1, b2, _, b3⟩ | ⟨j, p, b1, b2, b3, b4, _, b5⟩
                · rw [b3] at hl'
                  subst hl'
                  have hW := hM.set (.map (keks ka kd eqk) ka ea l) (.map es clock) hil hL hfp (.map _ _ _ _ _ _ hfp (setBlock_same _ _ _ (lt_of_block hb)) hl (fun j p e hp he => hent' _ _ _ (hent j p e hp he)))
                  refine wpIn_of_run hnd ?_ (hn _ _ _ _ _ _ h hW (.any (.tuple #[])))
                  rw [b1] at hfind
                  simp only [Option.bind_none] at hfind
                  simp [execOp, ho, resolve, invoke, builtin, ev, ekc, Builtin.delete_, run_underlying hu0, run_getObjM hb, hchk, hfind, run_setObjM _ hb]
                · rw [b5] at hl'
                  subst hl'
                  have hlt : j < es.size := by rw [← hl]; exact (List.getElem?_eq_some_iff.1 b2).1
                  have hej := Array.getElem?_eq_getElem hlt
                  have hW := hM.set (.map (keks ka kd eqk) ka ea (l.eraseIdx j)) (.map (es.eraseIdxIfInBounds j) clock) hil hL hfp (.map _ _ _ _ _ _ hfp (setBlock_same _ _ _ (lt_of_block hb)) (by
                    have : (es.eraseIdxIfInBounds j).toList = es.toList.eraseIdx j := by simp [Array.eraseIdxIfInBounds, hlt]
                    rw [← Array.length_toList, this, List.length_eraseIdx, List.length_eraseIdx, hl]
                    simp) (fun q p' e hp he => hent' _ _ _ (by
                    rw [List.getElem?_eraseIdx] at hp
                    have he' : es.toList[if q < j then q else q + 1]? = some e := by
                      have : (es.eraseIdxIfInBounds j).toList = es.toList.eraseIdx j := by simp [Array.eraseIdxIfInBounds, hlt]
                      rw [← Array.getElem?_toList, this, List.getElem?_eraseIdx] at he
                      split at he <;> rename_i hqj
                      · rw [if_pos hqj]; exact he
                      · rw [if_neg hqj]; exact he
                    split at hp <;> rename_i hqj
                    · rw [if_pos hqj] at he'; exact hent q p' e hp (by simpa using he')
                    · rw [if_neg hqj] at he'; exact hent (q + 1) p' e hp (by simpa using he'))))
                  refine wpIn_of_run hnd ?_ (hn _ _ _ _ _ _ h hW (.any (.tuple #[])))
                  rw [b1] at hfind
                  have hej' : es.toList[0 + j]? = some es[j] := by simp
                  simp only [Option.bind_some, hej', Option.map_some] at hfind
                  simp [execOp, ho, resolve, invoke, builtin, ev, ekc, Builtin.delete_, run_underlying hu0, run_getObjM hb, hchk, hfind, run_setObjM _ hb]
            · exact h.elim
          · exact h.elim
        · exact h.elim
      · exact h.elim
    · exact h.elim
  · exact h.elim

theorem mev_sound (hTT : TTok P TT) (h : mev TT ts ks o.op K) (hM : Mem X w β fp ks) (hT : ∀ x, Den w (Mx X fp) β (val ts x) (a.eval x)) (hn : MemNext X w β fp a o K next) : o.wpIn (wideF r) n P a w next Q := by
  have hnd : ∀ c, o.op ≠ .defer c := fun c hc => by rw [hc] at h; exact h
  cases ho : o.op with
  | alloc t =>
    rw [ho] at h
    simp only [mev] at h
    split at h
    · exact h.elim
    · rename_i size bytes agg zero desc eqk ht
      rw [addBK_eq, lenBK_eq, Nat.zero_add] at h
      obtain ⟨info, d, z, hi, hu, hsz, _, hz, hag, hzl, hzs, hzd, hz1, _⟩ := find_TT hTT ht
      have hW := hM.newCells t zero z.cells hzl.symm (fun j s u a b => hzd _ _ _ j s u a b) hz1
      refine wpIn_of_run hnd ?_ (hn _ _ (.pointer (some ⟨w.heap.size, 0, none⟩)) _ _ _ h hW (.ptr _ 0 (locB w.heap.size) (upd_same _ _ _)))
      simp [execOp, ho, Instr.alloc, run_zeroValue hi hz, newVar, newRow]
  | box t x =>
    rw [ho] at h
    simp only [mev] at h
    split at h
    · exact h.elim
    · rename_i size bytes agg zero desc eqk ht
      rw [valK_eq] at h
      obtain ⟨h, hcells⟩ := cellsK_spec (w := w) (M := Mx X fp) (β := β) h
      obtain ⟨c1, c2, c3⟩ := hcells _ (hT x)
      split at h
      · rw [addBK_eq, lenBK_eq, Nat.zero_add] at h
        have hW := hM.newCells t (cellsOf (val ts x)) (a.eval x).cells c1 c2 (fun j u hu => c3 u (Array.mem_of_getElem? hu))
        refine wpIn_of_run hnd ?_ (hn _ _ (.pointer (some ⟨w.heap.size, 0, none⟩)) _ _ _ h hW (.ptr _ 0 (locB w.heap.size) (upd_same _ _ _)))
        simp [execOp, ho, Instr.box, newVar, newRow]
      · exact h.elim
  | store t x y => rw [ho] at h; exact mev_store hTT ho h hM hT hn
  | buildSlice t l ps => rw [ho] at h; exact mev_buildSlice hTT ho h hM hT hn
  | makeSlice t x y => rw [ho] at h; exact mev_makeSlice hTT ho h hM hT hn
  | makeMap t x => rw [ho] at h; exact mev_makeMap hTT ho h hM hT hn
  | mapUpdate t x y z => rw [ho] at h; exact mev_mapUpdate hTT ho h hM hT hn
  | convert s d x => rw [ho] at h; exact mev_convert hTT ho h hM hT hn
  | call c =>
    obtain ⟨callee, args, argTypes⟩ := c
    rw [ho] at h
    cases callee with
    | builtin b => cases b <;> first | exact mev_append hTT ho h hM hT hn | exact mev_delete hTT ho h hM hT hn | exact h.elim
    | value g => exact h.elim
    | invoke r m => exact h.elim
  | _ => rw [ho] at h; exact h.elim

end
end Go.Eng
