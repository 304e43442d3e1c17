/-
  The engine, part 9: conversions, building of structs, parts of strings, builtins, calls of pure functions; all of `pev` is sound.
-/
import Derived.Test.YtdphkaiijlekhaaEg8
namespace Go.Eng
open Go Go.RowKit

/-- A fence that lets everything by. -/
def Wide (F : Fence) : Prop := (∀ f, F.fn f) ∧ F.depth = none

section
variable {P : Program} {TT : Nat → Option TI} {ts : List SV} {ks : List KB} {w : World} {M : Nat → Prop} {β : Env} {a : Act} {K : SV → Prop} {o : Oper}

theorem run_bytesFold (vs : List Value) (bs : List UInt8) (hl : vs.length = bs.length) (h : ∀ (j : Nat) (v : Value) (b : UInt8), vs[j]? = some v → bs[j]? = some b → ∃ x : Int, v = .int .u8 x ∧ UInt8.ofNat x.toNat = b) :
    ∀ s : ByteArray, (forIn vs s (fun (c : Value) (s : ByteArray) => match c with
      | .int .u8 n => (pure (ForInStep.yield (s.push (UInt8.ofNat n.toNat))) : Sem (ForInStep ByteArray))
      | _ => do
        stuck "bytesToString: byte expected"
        pure (ForInStep.yield s)) : Sem ByteArray).run P w = .ok (s ++ ⟨bs.toArray⟩) w := by
  induction vs generalizing bs with
  | nil =>
    intro s
    have : bs = [] := List.eq_nil_of_length_eq_zero (by simpa using hl.symm)
    subst this
    have : s ++ (⟨#[]⟩ : ByteArray) = s := by apply ByteArray.ext; simp
    simp [this]
  | cons v vs ih =>
    intro s
    cases bs with
    | nil => simp at hl
    | cons b bs =>
      obtain ⟨x, rfl, hx⟩ := h 0 v b rfl rfl
      simp only [List.forIn_cons, Sem.run_bind]
      simp only [Sem.run_pure, Result.andThen_ok]
      rw [ih bs (by simpa using hl) (fun j v b a c => h (j + 1) v b (by simpa using a) (by simpa using c)), hx]
      congr 1
      apply ByteArray.ext
      simp [ByteArray.push]

theorem run_bytesToString (ad : Addr) (n cap : Nat) (vs : List Value) (bs : List UInt8) (hl : vs.length = bs.length) (hn : vs.length = n) (hc : ∀ (j : Nat) (u : Value), vs[j]? = some u → w.cell? (ad.add j) = some u)
    (h : ∀ (j : Nat) (v : Value) (b : UInt8), vs[j]? = some v → bs[j]? = some b → ∃ x : Int, v = .int .u8 x ∧ UInt8.ofNat x.toNat = b) :
    (Conv.bytesToString (.slice (some ad) n cap)).run P w = .ok (strV bs) w := by
  have hf := run_bytesFold (P := P) (w := w) vs bs hl h ByteArray.empty
  simp only [Conv.bytesToString, Sem.run_bind, run_loadCells ad vs n hn hc, Result.andThen_ok]
  rw [← Array.forIn_toList]
  simp only [List.toList_toArray]
  have : (ByteArray.empty ++ ⟨bs.toArray⟩ : ByteArray) = ⟨bs.toArray⟩ := by apply ByteArray.ext; simp [ByteArray.empty, ByteArray.emptyWithCapacity]; rfl
  rw [this] at hf
  exact (congrArg (fun r => Result.andThen r _) hf).trans rfl

theorem rd_int {k : IntKind} {n : Int} {v : Value} (h : Rd w M (.int k n) v) : v = .int k n := by cases h; rfl

theorem areBytes_get {n : Nat} {f : Nat → List DV} (h : areBytes n f) (j : Nat) (b : UInt8) (hb : (bytesOf n f)[j]? = some b) : j < n ∧ ∃ x : Int, f j = [.int .u8 x] ∧ UInt8.ofNat x.toNat = b := by
  unfold bytesOf at hb
  rw [List.getElem?_map] at hb
  rcases Nat.lt_or_ge j n with hj | hj
  · rw [List.getElem?_range hj] at hb
    obtain ⟨x, hx⟩ := h j hj
    refine ⟨hj, x, hx, ?_⟩
    simp [hx] at hb
    exact hb
  · rw [List.getElem?_eq_none (by simpa using hj)] at hb
    cases hb

theorem bytes_at {b e : Nat} {vs : Array Value} {fz : Nat × Nat} (hb : w.heap[b]? = some (.cells vs e fz)) (off n cap : Nat) (bs : List UInt8) (hlen : bs.length = n) (h : ∀ (j : Nat) (b' : UInt8), bs[j]? = some b' → ∃ x : Int, vs[off + j]? = some (.int .u8 x) ∧ UInt8.ofNat x.toNat = b') :
    (Conv.bytesToString (.slice (some ⟨b, off, none⟩) n cap)).run P w = .ok (strV bs) w := by
  refine run_bytesToString (P := P) (w := w) ⟨b, off, none⟩ n cap ((List.range n).map fun j => vs[off + j]?.getD undef) bs (by simp [hlen]) (by simp) (fun j v hv => ?_) (fun j v b' hv hb' => ?_)
  · obtain ⟨hj, rfl⟩ := rangeMap_get hv
    obtain ⟨x, hx, _⟩ := h j _ (List.getElem?_eq_getElem (by omega))
    rw [show (⟨b, off, none⟩ : Addr).add j = ⟨b, off + j, none⟩ from by unfold Addr.add; split <;> simp_all]
    simp [World.cell?, hb, hx]
  · obtain ⟨hj, rfl⟩ := rangeMap_get hv
    obtain ⟨x, hx, hxb⟩ := h j b' hb'
    exact ⟨x, by simp [hx], hxb⟩
theorem toBytes_length (xs : List Int) : (toBytes xs).length = xs.length := by
  induction xs with
  | nil => rfl
  | cons x xs ih => simp [toBytes, ih]
theorem toBytes_get {xs : List Int} {j : Nat} {b : UInt8} (h : (toBytes xs)[j]? = some b) : ∃ x, xs[j]? = some x ∧ UInt8.ofNat x.toNat = b := by
  induction xs generalizing j with
  | nil => simp [toBytes] at h
  | cons x xs ih => cases j with
    | zero => simp [toBytes] at h; exact ⟨x, rfl, h⟩
    | succ j => simpa using ih (by simpa [toBytes] using h)

theorem pev_convert (hTT : TTok P TT) (hT : ∀ x, Den w M β (val ts x) (a.eval x)) (hB : ∀ (i : Nat) (L : Loc) (k : KB), ks[i]? = some k → k ≠ .gone → β i = some L → ∃ fp, KBat w M β L fp k) {src dst : TypeId} {x : Operand} (ho : o.op = .convert src dst x) (h : pev P TT ts ks (.convert src dst x) K) : Ran P o a w M β K := by
  unfold Ran
  simp only [execOp, ho]
  simp only [pev, valK_eq] at h
  have hv := hT x
  generalize a.eval x = av at hv ⊢
  split at h
  · exact h.elim
  · rename_i size bytes agg zero ds eqk hts
    split at h
    · rename_i size' bytes' agg' zero' k eqk' htd
      obtain ⟨info, d, z, hi, hu, _⟩ := find_TT hTT hts
      obtain ⟨info', d', z', hi', hu', _, _, _, _, _, _, _, _, hd'⟩ := find_TT hTT htd
      cases hd'
      split at h
      · rename_i k' n hx; rw [hx] at hv; cases den_int hv
        refine ⟨_, .int k (k.wrap n), h, ?_, .d (.int _ _)⟩
        simp [convert, run_underlying hu, run_underlying hu', Conv.intToInt]
      · exact h.elim
    · rename_i size' bytes' agg' zero' eqk' htd
      split at h
      · rename_i s hx; rw [hx] at hv; cases den_str hv
        obtain ⟨info, d, z, hi, hu, _⟩ := find_TT hTT hts
        obtain ⟨info', d', z', hi', hu', _, _, _, _, _, _, _, _, hd'⟩ := find_TT hTT htd
        cases hd'
        refine ⟨_, strV s, h, ?_, .d (.str _)⟩
        simp [convert, run_underlying hu, run_underlying hu', strV]
      · rename_i nil n f hx; rw [hx] at hv
        split at h
        · rename_i e
          split at h
          · rename_i size2 bytes2 agg2 zero2 eqk2 hte
            obtain ⟨hby, h⟩ := h
            obtain ⟨info, d, z, hi, hu, _, _, _, _, _, _, _, _, hd⟩ := find_TT hTT hts
            obtain ⟨info', d', z', hi', hu', _, _, _, _, _, _, _, _, hd'⟩ := find_TT hTT htd
            obtain ⟨info2, d2, z2, hi2, hu2, _, _, _, _, _, _, _, _, hd2⟩ := find_TT hTT hte
            cases hd
            cases hd'
            cases hd2
            cases den_data hv with
            | nil =>
              refine ⟨_, strV (bytesOf 0 f), h, ?_, .d (.str _)⟩
              simp [convert, run_underlying hu, run_underlying hu', run_underlying hu2, Conv.bytesToString, strV, bytesOf]
              rfl
            | sl _ _ _ ad cap u hcap hblk hlen hcell hrd =>
              refine ⟨_, strV (bytesOf n f), h, ?_, .d (.str _)⟩
              have hb := run_bytesToString (P := P) (w := w) ad n cap ((List.range n).map fun i => u i 0) (bytesOf n f) (by simp [bytesOf]) (by simp) (fun j v hv => by
                  obtain ⟨hj, rfl⟩ := rangeMap_get hv
                  obtain ⟨x, hx⟩ := hby j hj
                  have := hcell j 0 (.int .u8 x) hj (by simp [hx])
                  simpa using this) (fun j v b hv hb => by
                  obtain ⟨hj, rfl⟩ := rangeMap_get hv
                  obtain ⟨_, x, hx, hxb⟩ := areBytes_get hby j b hb
                  have := hrd j 0 (.int .u8 x) hj (by simp [hx])
                  exact ⟨x, rd_int this, hxb⟩)
              simp [convert, run_underlying hu, run_underlying hu', run_underlying hu2, hb]
          · exact h.elim
        · exact h.elim
      · rename_i i off n c hx; rw [hx] at hv; cases hv with
        | cs _ _ _ _ L hbi hnc =>
        split at h
        · rename_i e
          split at h
          · rename_i size2 bytes2 agg2 zero2 eqk2 hte
            rw [getBK_eq] at h
            split at h
            · rename_i t' l hg
              split at h
              · rename_i hble
                rw [lenL_eq] at hble
                have hble := ble_of hble
                rw [dropK_eq, takeK_eq] at h
                obtain ⟨xs, hxs, hK⟩ := intsK_spec h
                obtain ⟨info, d, z, hi, hu, _, _, _, _, _, _, _, _, hd⟩ := find_TT hTT hts
                obtain ⟨info', d', z', hi', hu', _, _, _, _, _, _, _, _, hd'⟩ := find_TT hTT htd
                obtain ⟨info2, d2, z2, hi2, hu2, _, _, _, _, _, _, _, _, hd2⟩ := find_TT hTT hte
                cases hd
                cases hd'
                cases hd2
                obtain ⟨fp', hk⟩ := blk_at hB hbi (getB_some hg (by simp)) (by simp)
                cases hk with
                | cells _ _ vs hfp hb hl hd h1 =>
                  have hxl : xs.length = n := by
                    have := congrArg List.length hxs
                    simp at this
                    omega
                  refine ⟨_, strV (toBytes xs), hK, ?_, .d (.str _)⟩
                  have hb' := bytes_at (P := P) hb off n c (toBytes xs) (by rw [toBytes_length, hxl]) (fun j b' hj => by
                    obtain ⟨x, hx, hxb⟩ := toBytes_get hj
                    have hj' : j < n := by have := (List.getElem?_eq_some_iff.1 hx).1; omega
                    refine ⟨x, ?_, hxb⟩
                    have h2 : ((l.drop off).take n)[j]? = some (.d (.int .u8 x)) := by rw [hxs]; simp [hx]
                    rw [List.getElem?_take, if_pos hj', List.getElem?_drop] at h2
                    have hvs : vs[off + j]? = some (vs[off + j]'(by omega)) := Array.getElem?_eq_getElem (by omega)
                    rw [hvs, den_int (hd _ _ _ h2 hvs)])
                  simp [convert, run_underlying hu, run_underlying hu', run_underlying hu2, hb']
              · exact h.elim
            · exact h.elim
          · exact h.elim
        · exact h.elim
      · rename_i i hx; rw [hx] at hv
        split at h
        · rename_i e
          split at h
          · rename_i size2 bytes2 agg2 zero2 eqk2 hte
            rw [getBK_eq] at h
            split at h
            · rename_i e' n z f hg
              obtain ⟨hby, h⟩ := h
              obtain ⟨info, d, z', hi, hu, _, _, _, _, _, _, _, _, hd⟩ := find_TT hTT hts
              obtain ⟨info', d', z'', hi', hu', _, _, _, _, _, _, _, _, hd'⟩ := find_TT hTT htd
              obtain ⟨info2, d2, z2, hi2, hu2, _, _, _, _, _, _, _, _, hd2⟩ := find_TT hTT hte
              cases hd
              cases hd'
              cases hd2
              refine ⟨_, strV (bytesOf n f), h, ?_, .d (.str _)⟩
              cases hv with
              | allNil _ L hbi hnil =>
                obtain ⟨fp', hk⟩ := blk_at hB hbi (getB_some hg (by simp)) (by simp)
                cases hk with
                | rowNil =>
                  simp [convert, run_underlying hu, run_underlying hu', run_underlying hu2, Conv.bytesToString, strV, bytesOf]
                  rfl
                | row _ _ _ _ _ vs fz hfp hnil' => rw [hnil] at hnil'; cases hnil'
              | all _ L hbi hnil =>
                obtain ⟨fp', hk⟩ := blk_at hB hbi (getB_some hg (by simp)) (by simp)
                cases hk with
                | rowNil _ _ _ _ _ hnil' => rw [hnil] at hnil'; cases hnil'
                | row _ _ _ _ _ vs fz hfp _ hLs hLn hzz hb hfz hvs hng hfl hr _ =>
                  have hb' := bytes_at (P := P) hb 0 n L.c (bytesOf n f) (by simp [bytesOf]) (fun j b' hj => by
                    obtain ⟨hjn, x, hx, hxb⟩ := areBytes_get hby j b' hj
                    have hlt : j < vs.size := by omega
                    refine ⟨x, ?_, hxb⟩
                    have := hr j 0 (.int .u8 x) (vs[j]'hlt) hjn (by simp [hx]) (by simp)
                    simp [hlt, rd_int this])
                  simp [convert, run_underlying hu, run_underlying hu', run_underlying hu2, hLn, hb']
            · exact h.elim
          · exact h.elim
        · exact h.elim
      · rename_i i lo n hx; rw [hx] at hv
        split at h
        · rename_i e
          split at h
          · rename_i size2 bytes2 agg2 zero2 eqk2 hte
            rw [getBK_eq] at h
            split at h
            · rename_i e' m z f hg
              obtain ⟨hnm, hby, h⟩ := h
              obtain ⟨info, d, z', hi, hu, _, _, _, _, _, _, _, _, hd⟩ := find_TT hTT hts
              obtain ⟨info', d', z'', hi', hu', _, _, _, _, _, _, _, _, hd'⟩ := find_TT hTT htd
              obtain ⟨info2, d2, z2, hi2, hu2, _, _, _, _, _, _, _, _, hd2⟩ := find_TT hTT hte
              cases hd
              cases hd'
              cases hd2
              refine ⟨_, strV (bytesOf n (fun j => f (lo + j))), h, ?_, .d (.str _)⟩
              cases hv with
              | rowNil _ L hbi hnil =>
                simp [convert, run_underlying hu, run_underlying hu', run_underlying hu2, Conv.bytesToString, strV, bytesOf]
                rfl
              | row _ _ _ off L hbi hnil hc ho' =>
                obtain ⟨fp', hk⟩ := blk_at hB hbi (getB_some hg (by simp)) (by simp)
                cases hk with
                | rowNil _ _ _ _ _ hnil' => rw [hnil] at hnil'; cases hnil'
                | row _ _ _ _ _ vs fz hfp _ hLs hLn hzz hb hfz hvs hng hfl hr _ =>
                  have hb' := bytes_at (P := P) hb off n (L.c - lo) (bytesOf n (fun j => f (lo + j))) (by simp [bytesOf]) (fun j b' hj => by
                    obtain ⟨hjn, x, hx, hxb⟩ := areBytes_get hby j b' hj
                    have hlt : lo + j < vs.size := by omega
                    have hoff : off = lo := by rw [ho' (.inl (by omega)), hLs, Nat.mul_one]
                    refine ⟨x, ?_, hxb⟩
                    have := hr (lo + j) 0 (.int .u8 x) (vs[lo + j]'hlt) (by omega) (by simp [hx]) (by simp)
                    simp [hoff, hlt, rd_int this])
                  simp [convert, run_underlying hu, run_underlying hu', run_underlying hu2, hb']
            · exact h.elim
          · exact h.elim
        · exact h.elim
      · exact h.elim
    · exact h.elim

theorem pev_extract (hT : ∀ x, Den w M β (val ts x) (a.eval x)) {x : Operand} {i : Nat} (ho : o.op = .extract x i) (h : pev P TT ts ks (.extract x i) K) : Ran P o a w M β K := by
  unfold Ran
  simp only [execOp, ho]
  simp only [pev, valK_eq] at h
  have hv := hT x
  generalize a.eval x = av at hv ⊢
  split at h
  · rename_i l hx; rw [hx] at hv
    split at h
    · rename_i hlt
      rw [lenL_eq] at hlt
      have hlt := ble_of hlt
      rw [getTK_eq] at h
      cases hv with
      | tup _ vs hl hd =>
        obtain ⟨u, hu, hd'⟩ := den_get hl hd i (by omega)
        exact ⟨_, u, h, by simp [Instr.extract, hu], hd'⟩
    · exact h.elim
  · exact h.elim

theorem vals_length (l : List SV) (xs : List Operand) : (vals l xs).length = xs.length := by
  induction xs with
  | nil => rfl
  | cons x xs ih => simp [vals, ih]
theorem vals_get (l : List SV) (xs : List Operand) (j : Nat) : (vals l xs)[j]? = (xs[j]?).map (val l) := by
  induction xs generalizing j with
  | nil => simp [vals]
  | cons x xs ih => cases j <;> simp [vals, ih]

theorem pev_makeFunc (hT : ∀ x, Den w M β (val ts x) (a.eval x)) {fn : Fn} {first caps : Array Operand} (ho : o.op = .makeFunc fn first caps) (h : pev P TT ts ks (.makeFunc fn first caps) K) : Ran P o a w M β K := by
  unfold Ran
  simp only [execOp, ho]
  simp only [pev, valsK_eq] at h
  split at h
  · rename_i f hf
    have hf0 : first = #[] := by cases first; simp_all
    subst hf0
    refine ⟨_, .func (.func f) #[] (caps.toList.map a.eval).toArray, h, by simp [Instr.makeFunc]; apply Array.ext'; simp, .fn f _ _ (by simp [vals_length]) (fun j s u hs hu => ?_)⟩
    rw [vals_get] at hs
    rw [List.getElem?_map] at hu
    cases hc : caps.toList[j]? with
    | none => rw [hc] at hs; cases hs
    | some x =>
      rw [hc] at hs hu
      cases hs
      cases hu
      exact hT x
  · exact h.elim

theorem pev_nilCheck (hT : ∀ x, Den w M β (val ts x) (a.eval x)) {x : Operand} (ho : o.op = .nilCheck x) (h : pev P TT ts ks (.nilCheck x) K) : Ran P o a w M β K := by
  unfold Ran
  simp only [execOp, ho]
  simp only [pev, valK_eq] at h
  have hv := hT x
  generalize a.eval x = av at hv ⊢
  split at h
  · rename_i hx; rw [hx] at hv; cases hv with
    | ptr _ _ b hbi => exact ⟨_, _, h, by simp, .ptr _ _ b hbi⟩
  · rename_i hx; rw [hx] at hv; cases hv with
    | dptr _ _ ad u h1 h2 h3 h4 => exact ⟨_, _, h, by simp, .dptr _ _ ad u h1 h2 h3 h4⟩
  · rename_i hx; rw [hx] at hv; cases hv with
    | rptr _ _ _ _ b hbi hj => exact ⟨_, _, h, by simp, .rptr _ _ _ _ b hbi hj⟩
  · rename_i hx; rw [hx] at hv; cases hv with
    | ap _ n _ L hL => exact ⟨_, _, h, by simp, .ap _ n _ L hL⟩
  · rename_i hx; rw [hx] at hv; obtain ⟨hne, h⟩ := h; cases hv with
    | npNil _ => exact absurd rfl hne
    | np _ n L hL => exact ⟨_, _, h, by simp, .ap _ n 0 L hL⟩
  · rename_i f caps hx; rw [hx] at hv; cases hv with
    | fn _ _ vs hl hd => exact ⟨_, _, h, by simp, .fn f caps vs hl hd⟩
  · exact h.elim

theorem run_sliceStr {t : TypeId} (hu : P.underlying t = some .string) (s : List UInt8) (lo hi : Option Value) (l h : Nat) (hr : (Instr.sliceBounds false s.length s.length lo hi none).run P w = .ok (l, h, s.length) w) :
    (Instr.sliceAt t (strV s) lo hi none).run P w = .ok (strV ((s.drop l).take (h - l))) w := by
  simp only [Instr.sliceAt, Sem.run_bind, run_underlying hu, Result.andThen_ok, Instr.slice, strV, size_str, hr]
  simp only [Option.isSome_none, Bool.false_eq_true, if_false, Sem.run_pure, Sem.run_bind, hr, Result.andThen_ok]
  rw [Lib.extract_eq]
theorem run_bound {k : IntKind} {n : Int} {y : Nat} (c : BoundsCode) (h0 : 0 ≤ n) (h1 : n ≤ y) : (Instr.sliceBound (.int k n) y c).run P w = .ok n.toNat w := by
  simp [Instr.sliceBound, asIntOf, h0, h1]

/-- What a bound of a slice expression comes to. -/
def BoundIs (a : Act) (o : Option Operand) (d n : Int) : Prop := (o = none ∧ n = d) ∨ ∃ x k, o = some x ∧ a.eval x = .int k n
theorem boundK_spec (hT : ∀ x, Den w M β (val ts x) (a.eval x)) {o : Option Operand} {d : Int} {c : Int → Prop} (h : boundK ts o d c) : ∃ n, BoundIs a o d n ∧ c n := by
  unfold boundK at h
  split at h
  · exact ⟨d, .inl ⟨rfl, rfl⟩, h⟩
  · rename_i x
    rw [valK_eq] at h
    split at h
    · rename_i k n hx
      have := hT x
      rw [hx] at this
      exact ⟨n, .inr ⟨x, k, rfl, den_int this⟩, h⟩
    · exact h.elim
theorem run_bounds (fl : Bool) {len cap : Nat} (hlc : len ≤ cap) {lo hi : Option Operand} {l h : Int} (hl : BoundIs a lo 0 l) (hh : BoundIs a hi len h) (h0 : 0 ≤ l) (h1 : l ≤ h) (h2 : h ≤ len) :
    (Instr.sliceBounds fl len cap (lo.map a.eval) (hi.map a.eval) none).run P w = .ok (l.toNat, h.toNat, cap) w := by
  rcases hl with ⟨rfl, rfl⟩ | ⟨x, k, rfl, ex⟩ <;> rcases hh with ⟨rfl, rfl⟩ | ⟨y, k', rfl, ey⟩
  · simp [Instr.sliceBounds]
  · simp only [Option.map_none, Option.map_some, ey, Instr.sliceBounds, Sem.run_bind, Sem.run_pure, Result.andThen_ok, run_bound (y := cap) _ (show 0 ≤ h from by omega) (by omega)]
    simp
  · simp only [Option.map_none, Option.map_some, ex, Instr.sliceBounds, Sem.run_bind, Sem.run_pure, Result.andThen_ok, run_bound (y := len) _ h0 (by omega)]
    simp
  · simp only [Option.map_some, ex, ey, Instr.sliceBounds, Sem.run_bind, Sem.run_pure, Result.andThen_ok, run_bound (y := cap) _ (show 0 ≤ h from by omega) (by omega), run_bound (y := h.toNat) _ h0 (by omega)]

theorem pev_slice (hTT : TTok P TT) (hT : ∀ x, Den w M β (val ts x) (a.eval x)) (hB : ∀ (i : Nat) (L : Loc) (k : KB), ks[i]? = some k → k ≠ .gone → β i = some L → ∃ fp, KBat w M β L fp k) {t : TypeId} {x : Operand} {lo hi mx : Option Operand} (ho : o.op = .slice t x lo hi mx) (h : pev P TT ts ks (.slice t x lo hi mx) K) : Ran P o a w M β K := by
  unfold Ran
  simp only [execOp, ho]
  simp only [pev, valK_eq] at h
  have hv := hT x
  generalize a.eval x = av at hv ⊢
  split at h
  · exact h.elim
  · split at h
    · rename_i size bytes agg zero eqk ht
      obtain ⟨info, d, z, hi', hu, _, _, _, _, _, _, _, _, hd⟩ := find_TT hTT ht
      cases hd
      split at h
      · rename_i s hx; rw [hx] at hv; cases den_str hv
        obtain ⟨l, hl, h⟩ := boundK_spec hT h
        obtain ⟨r, hr, h⟩ := boundK_spec hT h
        obtain ⟨⟨h0, h1, h2⟩, h⟩ := h
        have := run_sliceStr (P := P) (w := w) hu s (lo.map a.eval) (hi.map a.eval) l.toNat r.toNat (run_bounds false (Nat.le_refl _) hl hr h0 h1 h2)
        refine ⟨_, _, h, ?_, .d (.str _)⟩
        simp [this, sub]
      · exact h.elim
    · rename_i size bytes agg zero e eqk ht
      obtain ⟨info, d, z, hi', hu, _, _, _, _, _, _, _, _, hd⟩ := find_TT hTT ht
      cases hd
      split at h
      · exact h.elim
      · rename_i size' bytes' agg' zero' desc' eqk' hte
        obtain ⟨infoe, de, ze, hie, hue, hsze, _⟩ := find_TT hTT hte
        simp only at hsze
        have hrun : ∀ (ad : Option Addr) (len cap : Nat) (l r : Int), len ≤ cap → BoundIs a lo 0 l → BoundIs a hi len r → 0 ≤ l → l ≤ r → r ≤ len →
            (Instr.sliceAt t (.slice ad len cap) (lo.map a.eval) (hi.map a.eval) none).run P w = .ok (.slice (if cap = l.toNat then ad else ad.map (·.add (l.toNat * size'))) (r.toNat - l.toNat) (cap - l.toNat)) w := by
          intro ad len cap l r hlc hl hr h0 h1 h2
          simp [Instr.sliceAt, Instr.slice, run_underlying hu, run_bounds true hlc hl hr h0 h1 h2, run_sizeOf hie, hsze]
        split at h
        · rename_i nl n sz f hx; rw [hx] at hv
          split at h
          · rename_i hsz
            cases beq_of hsz
            obtain ⟨l, hl, h⟩ := boundK_spec hT h
            obtain ⟨r, hr, h⟩ := boundK_spec hT h
            obtain ⟨⟨h0, h1, h2⟩, h⟩ := h
            cases den_data hv with
            | nil =>
              have e1 : l = 0 := by omega
              have e2 : r = 0 := by omega
              subst e1 e2
              exact ⟨_, .slice none 0 0, h, by simp [hrun none 0 0 0 0 (Nat.le_refl _) hl hr h0 h1 h2], .d (.nil _ _)⟩
            | sl _ _ _ ad cap u hcap hblk hlen hcell hrd =>
              have er : (r - l).toNat = r.toNat - l.toNat := by omega
              refine ⟨_, .slice (some (if cap = l.toNat then ad else ad.add (l.toNat * size'))) (r - l).toNat (cap - l.toNat), h, ?_, ?_⟩
              · simp only [Sem.run_bind, Option.map_none, hrun (some ad) n cap l r hcap hl hr h0 h1 h2, Result.andThen_ok, Sem.run_pure, er]
                by_cases hc : cap = l.toNat
                · rw [if_pos hc, if_pos hc]
                · rw [if_neg hc, if_neg hc]; rfl
              · by_cases hc : cap = l.toNat
                · rw [if_pos hc, er, show r.toNat - l.toNat = 0 from by omega]
                  exact .d (.sl 0 _ _ ad _ u (by omega) (fun e => absurd e (by omega)) (fun i hi => absurd hi (by omega)) (fun i j d hi => absurd hi (by omega)) (fun i j d hi => absurd hi (by omega)))
                · rw [if_neg hc, er]
                  refine .d (.sl _ _ _ (ad.add (l.toNat * size')) _ (fun i j => u (l.toNat + i) j) (by omega) (fun e => ?_) (fun i hi => hlen _ (by omega)) (fun i j d hi hd => ?_) (fun i j d hi hd => hrd _ _ _ (by omega) hd))
                  · rw [block_add]; exact hblk (by omega)
                  · rw [add_add, show l.toNat * size' + (i * size' + j) = (l.toNat + i) * size' + j from by rw [Nat.add_mul]; omega]
                    exact hcell _ _ _ (by omega) hd
          · exact h.elim
        · rename_i i hx; rw [hx] at hv
          rw [getBK_eq] at h
          split at h
          · rename_i e' sz n z' f hg
            split at h
            · rename_i hsz
              cases beq_of hsz
              obtain ⟨l, hl, h⟩ := boundK_spec hT h
              obtain ⟨r, hr, h⟩ := boundK_spec hT h
              obtain ⟨⟨h0, h1, h2⟩, h⟩ := h
              cases hv with
              | allNil _ L hbi hnil =>
                obtain ⟨fp', hk⟩ := blk_at hB hbi (getB_some hg (by simp)) (by simp)
                cases hk with
                | rowNil =>
                  have e1 : l = 0 := by omega
                  have e2 : r = 0 := by omega
                  subst e1 e2
                  exact ⟨_, .slice none 0 0, h, by simp [hrun none 0 0 0 0 (Nat.le_refl _) hl hr (by omega) (by omega) (by omega)], by simpa using .rowNil i L hbi hnil⟩
                | row _ _ _ _ _ vs fz hfp hnil' => rw [hnil] at hnil'; cases hnil'
              | all _ L hbi hnil =>
                obtain ⟨fp', hk⟩ := blk_at hB hbi (getB_some hg (by simp)) (by simp)
                cases hk with
                | rowNil _ _ _ _ _ hnil' => rw [hnil] at hnil'; cases hnil'
                | row _ _ _ _ _ vs fz hfp _ hLs hLn hzz hb hfz hvs hng hfl hr' _ =>
                  have er : (r - l).toNat = r.toNat - l.toNat := by omega
                  refine ⟨_, .slice (some ⟨L.b, if L.c = l.toNat then 0 else l.toNat * size', none⟩) (r - l).toNat (L.c - l.toNat), h, ?_, .row i l.toNat _ _ L hbi hnil (by omega) (fun hlt => by rcases hlt with hlt | hlt; (rw [if_neg (by omega), hLs]); (rw [hlt]; simp))⟩
                  simp only [Sem.run_bind, Option.map_none, hrun (some ⟨L.b, 0, none⟩) L.n L.c l r (by omega) hl (hLn ▸ hr) h0 h1 (by omega), Result.andThen_ok, Sem.run_pure, er]
                  by_cases hc : L.c = l.toNat
                  · rw [if_pos hc, if_pos hc]
                  · rw [if_neg hc, if_neg hc]; simp [add_lit0]
            · exact h.elim
          · exact h.elim
        · rename_i i lo' n hx; rw [hx] at hv
          rw [getBK_eq] at h
          split at h
          · rename_i e' sz m z' f hg
            split at h
            · rename_i hsz
              cases beq_of hsz
              obtain ⟨l, hl, h⟩ := boundK_spec hT h
              obtain ⟨r, hr, h⟩ := boundK_spec hT h
              obtain ⟨⟨h0, h1, h2⟩, h⟩ := h
              cases hv with
              | rowNil _ L hbi hnil =>
                have e1 : l = 0 := by omega
                have e2 : r = 0 := by omega
                subst e1 e2
                exact ⟨_, .slice none 0 0, h, by simp [hrun none 0 0 0 0 (Nat.le_refl _) hl hr (by omega) (by omega) (by omega)], by simpa using .rowNil i L hbi hnil⟩
              | row _ _ _ off L hbi hnil hc ho' =>
                obtain ⟨fp', hk⟩ := blk_at hB hbi (getB_some hg (by simp)) (by simp)
                cases hk with
                | rowNil _ _ _ _ _ hnil' => rw [hnil] at hnil'; cases hnil'
                | row _ _ _ _ _ vs fz hfp _ hLs hLn hzz hb hfz hvs hng hfl hr' _ =>
                  have er : (r - l).toNat = r.toNat - l.toNat := by omega
                  refine ⟨_, .slice (some ⟨L.b, if L.c - lo' = l.toNat then off else off + l.toNat * size', none⟩) (r - l).toNat (L.c - (lo' + l.toNat)), h, ?_, .row i (lo' + l.toNat) _ _ L hbi hnil (by omega) (fun hlt => by rcases hlt with hlt | hlt; (rw [if_neg (by omega), ho' (.inl (by omega)), hLs, Nat.add_mul]); (rw [ho' (.inr (by omega)), hlt, show l.toNat = 0 by omega, show lo' = 0 by omega]; simp))⟩
                  simp only [Sem.run_bind, Option.map_none, hrun (some ⟨L.b, off, none⟩) n (L.c - lo') l r (by omega) hl hr h0 h1 (by omega), Result.andThen_ok, Sem.run_pure, er, Nat.sub_sub]
                  by_cases hc : L.c - lo' = l.toNat
                  · rw [if_pos hc, if_pos hc]
                  · rw [if_neg hc, if_neg hc]; simp [add_lit0]
            · exact h.elim
          · exact h.elim
        · rename_i i off n c hx; rw [hx] at hv
          obtain ⟨l, hl, h⟩ := boundK_spec hT h
          obtain ⟨r, hr, h⟩ := boundK_spec hT h
          obtain ⟨⟨h0, h1, h2, h3, h4⟩, h⟩ := h
          cases hv with
          | cs _ _ _ _ L hbi hnc =>
            have er : (r - l).toNat = r.toNat - l.toNat := by omega
            refine ⟨_, .slice (some ⟨L.b, off + l.toNat * size', none⟩) (r - l).toNat (c - l.toNat), h, ?_, .cs i _ _ _ L hbi (by omega)⟩
            simp only [Sem.run_bind, Option.map_none, hrun (some ⟨L.b, off, none⟩) n c l r h3 hl hr h0 h1 h2, Result.andThen_ok, Sem.run_pure, er]
            by_cases hc : c = l.toNat
            · have : l.toNat = 0 := by rcases h4 with h4 | h4 <;> omega
              rw [if_pos hc]; simp [this]
            · rw [if_neg hc]; simp [add_lit0]
        · exact h.elim
    · rename_i size bytes agg zero n e eqk ht
      obtain ⟨info, d, z, hi', hu, _, _, _, _, _, _, _, _, hd⟩ := find_TT hTT ht
      cases hd
      split at h
      · exact h.elim
      · rename_i size' bytes' agg' zero' desc' eqk' hte
        obtain ⟨infoe, de, ze, hie, hue, hsze, _⟩ := find_TT hTT hte
        simp only at hsze
        split at h
        · rename_i i off hx; rw [hx] at hv
          obtain ⟨l, hl, h⟩ := boundK_spec hT h
          obtain ⟨r, hr, h⟩ := boundK_spec hT h
          obtain ⟨⟨h0, h1, h2, h4⟩, h⟩ := h
          cases hv with
          | ptr _ _ L hbi =>
            have er : (r - l).toNat = r.toNat - l.toNat := by omega
            refine ⟨_, .slice (some ⟨L.b, off + l.toNat * size', none⟩) (r - l).toNat (n - l.toNat), h, ?_, .cs i _ _ _ L hbi (by omega)⟩
            have : (Instr.sliceAt t (.pointer (some ⟨L.b, off, none⟩)) (lo.map a.eval) (hi.map a.eval) none).run P w = .ok (.slice (some (if n = l.toNat then ⟨L.b, off, none⟩ else (⟨L.b, off, none⟩ : Addr).add (l.toNat * size'))) (r.toNat - l.toNat) (n - l.toNat)) w := by
              simp [Instr.sliceAt, Instr.sureAddr, run_underlying hu, run_bounds false (Nat.le_refl n) hl hr h0 h1 h2, run_sizeOf hie, hsze]
            simp only [Sem.run_bind, Option.map_none, this, Result.andThen_ok, Sem.run_pure, er]
            by_cases hc : n = l.toNat
            · have : l.toNat = 0 := by rcases h4 with h4 | h4 <;> omega
              rw [if_pos hc]; simp [this]
            · rw [if_neg hc]; simp [add_lit0]
        · exact h.elim
    · exact h.elim

end
end Go.Eng
