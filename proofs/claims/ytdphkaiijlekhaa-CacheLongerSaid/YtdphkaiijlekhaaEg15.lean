/-
  The engine, part 15: operations that change what is known are carried out as `mev` says.
-/
import Derived.Great.BuildSlice
import Derived.Test.YtdphkaiijlekhaaEg14
namespace Go.Eng
open Go Go.RowKit

section
variable {P : Program} {TT : Nat → Option TI} {X : Nat → Prop} {w : World} {β : Env} {fp : Nat → Nat → Prop} {ts : List SV} {ks : List KB} {a : Act} {K : SV → List KB → Prop} {o : Oper} {r : Option Nat} {n : Nat} {next : Act → World → Prop} {Q : Exit → Act → World → Prop}

/-- Onto a slice literal, which has no room. -/
theorem append_cs (h : Mem X w β fp ks) {st xt ty e : TypeId} {info : TypeInfo} {z0 : Value} {sz : Nat} (hst : P.underlying st = some (.slice e)) (hi : P.info? e = some info) (hz0 : info.zero = some z0) (hsz : info.size = sz) (hzs : z0.cells.size = sz) (hz1 : ∀ (j : Nat) (u : Value), z0.cells[j]? = some u → u.oneCell' = true)
    {i n : Nat} {l : List SV} (hki : ks[i]? = some (.cells e l)) {L : Loc} (hL : β i = some L) (hpos : 0 < sz) (hll : l.length = n * sz) {ds : List DV} (hdl : ds.length = l.length)
    (hds : ∀ vs : Array Value, w.heap[L.b]? = some (.cells vs e (0, 0)) → ∀ (j : Nat) (d : DV) (u : Value), ds[j]? = some d → vs[j]? = some u → Rd w (Mx X fp) d u)
    {x : Value} {k : Nat} {g : Nat → List DV} {us : List Value} (hs : SrcOk P w (Mx X fp) sz xt x k g us) (hby : (n + k) * info.bytes ≤ 70368744177664) (h63 : n + k ≤ 9223372036854775807) :
    ∃ v w' β' fp', (Builtin.append_ #[st, xt] ty #[.slice (some ⟨L.b, 0, none⟩) n n, x]).run P w = .ok v w' ∧ Went X w β fp w' β' fp' (ks.set i .gone ++ [.row e sz (n + k) .no (catF n (chunk ds sz) g)]) ∧ Den w' (Mx X fp') β' (.all ks.length) v := by
  have hil : i < ks.length := (List.getElem?_eq_some_iff.1 hki).1
  have hb := h.at hki (by simp) hL
  cases hb with
  | cells _ _ vs hfp hb hl hd h1 =>
    have hvs : vs.size = n * sz := by rw [← hl, hll]
    have hch : ∀ j, j < n → (chunk ds sz j).length = sz := fun j hj => by
      unfold chunk
      have : (j + 1) * sz ≤ n * sz := Nat.mul_le_mul_right _ hj
      rw [Nat.add_mul, Nat.one_mul] at this
      simp [hdl, hll]
      omega
    have hcr : ∀ (t q : Nat) (d : DV) (u : Value), t < n → (chunk ds sz t)[q]? = some d → vs[t * sz + q]? = some u → Rd w (Mx X fp) d u := fun t q d u ht hdd hu => by
      have hq : q < sz := by have := (List.getElem?_eq_some_iff.1 hdd).1; rw [hch _ ht] at this; exact this
      unfold chunk at hdd
      rw [List.getElem?_take, if_pos hq, List.getElem?_drop] at hdd
      exact hds vs hb _ d u hdd hu
    by_cases hk : k = 0
    · subst hk
      have hus : us = [] := List.eq_nil_of_length_eq_zero (by rw [hs.src.newsLen]; simp)
      subst hus
      have hrun := run_append_nothing w st xt ty e info hst hi (some ⟨L.b, 0, none⟩) n n (Nat.le_refl _) x (hsz ▸ hs.src)
      have hself := setBlock_self hb
      have hM : ∀ b, b < w.heap.size → Mx X (updP (updP fp i (fun _ => False)) ks.length (· = L.b)) b → Mx X fp b := fun b _ hm => hm.imp id (fun ⟨j, hj⟩ => by
        by_cases h1 : j = ks.length
        · subst h1; rw [updP_same] at hj; exact ⟨i, (hfp b).2 hj⟩
        · rw [updP_other _ _ h1] at hj
          by_cases e : j = i
          · subst e; rw [updP_same] at hj; exact hj.elim
          · rw [updP_other _ _ e] at hj; exact ⟨j, hj⟩)
      have hW := h.again (L' := ⟨L.b, n, n, sz, false⟩) (.row e sz (n + 0) .no (catF n (chunk ds sz) g)) (.cells vs e (0, 0)) hil hL hfp rfl
        (.row e sz (n + 0) .no _ vs (0, 0) (fun x => Iff.rfl) rfl rfl rfl (fun e => by cases e) (setBlock_same _ _ _ (lt_of_block hb)) (by simp) hvs (Nat.le_refl _) (fun t ht => by rw [show catF n (chunk ds sz) g t = chunk ds sz t from if_pos ht]; exact hch t ht) (fun t q d u ht hdd hu => by
          rw [show catF n (chunk ds sz) g t = chunk ds sz t from if_pos ht] at hdd
          rw [hself]
          exact (hcr t q d u ht hdd hu).mono (Step.refl _ _) hM) h1)
      rw [hself] at hW
      exact ⟨_, _, _, _, hrun, hW, .all ks.length ⟨L.b, n, n, sz, false⟩ (upd_same _ _ _) rfl⟩
    · have hW := h.gone [i]
      have hks : goneL [i] ks = ks.set i .gone := by simp [goneL, setB_eq]
      rw [hks] at hW
      have hlen : (ks.set i KB.gone).length = ks.length := by simp
      obtain ⟨v, w', β', fp', r1, r2, r3⟩ := append_grow (P := P) (st := st) (xt := xt) (ty := ty) hW.mem hst hi hz0 hsz hzs hz1 (some ⟨L.b, 0, none⟩) n n (chunk ds sz) vs.toList (run_firstCells_some w.drew sz n ⟨L.b, 0, none⟩ n n _ (by simp [hvs]) (fun j u hu => by
          rw [add_lit0]
          show w.cell? _ = _
          simpa [World.cell?, hb] using hu)) (by simp [hvs]) (fun u hu => by
          obtain ⟨j, hj, rfl⟩ := List.mem_iff_getElem.1 hu
          exact h1 j _ (by simp)) hch (fun t q d u ht hdd hu => rd_less (hcr t q d u ht hdd (by simpa using hu)) (h.goneM [i])) (hs.less (h.goneM [i])) (by omega) hby h63 .no
      rw [hlen] at r3
      exact ⟨v, w', β', fp', r1, hW.trans r2, r3⟩

theorem memN_mem {t : Nat} {l : List Nat} (h : t ∈ l) : memN t l = true := by
  induction l with
  | nil => cases h
  | cons a l ih =>
    simp only [memN]
    split
    · rfl
    · rename_i hb
      rcases List.mem_cons.1 h with e | h
      · subst e; rw [show Nat.beq t t = true from Nat.beq_refl t] at hb; cases hb
      · exact ih h
theorem notMem {t : Nat} {l : List Nat} (h : memN t l = false) : t ∉ l := fun e => by rw [memN_mem e] at h; cases h

theorem goneL_other (fr : List Nat) (ks : List KB) (i : Nat) (h : i ∉ fr) : (goneL fr ks)[i]? = ks[i]? := by
  induction fr generalizing ks with
  | nil => rfl
  | cons j fr ih =>
    simp only [goneL]
    rw [ih _ (fun e => h (by simp [e])), setB_eq, List.getElem?_set, if_neg (fun e => h (by simp [e]))]
theorem fpGone_other (fr : List Nat) (fp : Nat → Nat → Prop) (i : Nat) (h : i ∉ fr) : fpGone fr fp i = fp i := by funext b; simp [fpGone, h]

theorem isSeq_spec (hTT : TTok P TT) {t : TypeId} (h : isSeq TT t = true) : (∃ e', P.underlying t = some (.slice e')) ∨ P.underlying t = some .string := by
  unfold isSeq at h
  split at h
  · rename_i ht
    obtain ⟨info, d, z, hi, hu, _, _, _, _, _, _, _, _, hd⟩ := find_TT hTT ht
    cases hd
    exact .inl ⟨_, hu⟩
  · rename_i ht
    obtain ⟨info, d, z, hi, hu, _, _, _, _, _, _, _, _, hd⟩ := find_TT hTT ht
    cases hd
    exact .inr hu
  · cases h

theorem repK_eq (z : List SV) (n : Nat) (c : List SV → Prop) : repK z n c = c ((List.replicate n z).flatten) := by
  induction n generalizing c with
  | zero => rfl
  | succ n ih => simp only [repK, ih, appK_eq, List.replicate_succ, List.flatten_cons]
theorem rep_get {α : Type} (z : List α) (n m : Nat) (s : α) (h : ((List.replicate n z).flatten)[m]? = some s) : z[m % z.length]? = some s ∧ m < n * z.length := by
  induction n generalizing m with
  | zero => simp at h
  | succ n ih =>
    rw [List.replicate_succ, List.flatten_cons] at h
    rcases Nat.lt_or_ge m z.length with hm | hm
    · rw [List.getElem?_append_left hm] at h
      rw [Nat.mod_eq_of_lt hm]
      exact ⟨h, by rw [Nat.add_mul]; omega⟩
    · rw [List.getElem?_append_right hm] at h
      obtain ⟨a, b⟩ := ih (m - z.length) h
      rw [← Nat.mod_eq_sub_mod hm] at a
      exact ⟨a, by rw [Nat.add_mul]; omega⟩

theorem fillS_spec {M : Nat → Prop} (hT : ∀ x, Den w M β (val ts x) (a.eval x)) {size : Nat} :
    ∀ (parts : List (Nat × Operand)) (cs : List SV) (c : List SV → Prop) (vs : List Value), fillS ts size cs parts c → cs.length = vs.length →
      (∀ (j : Nat) (s : SV) (u : Value), cs[j]? = some s → vs[j]? = some u → Den w M β s u) → (∀ u ∈ vs, u.oneCell' = true) →
      ∃ (cs' : List SV) (vs' : List Value), c cs' ∧ Instr.fill (fun i => some (i * size, size)) vs.toArray (parts.map fun p => (p.1, a.eval p.2)) = some vs'.toArray ∧ cs'.length = vs'.length ∧
        (∀ (j : Nat) (s : SV) (u : Value), cs'[j]? = some s → vs'[j]? = some u → Den w M β s u) ∧ (∀ u ∈ vs', u.oneCell' = true) := by
  intro parts
  induction parts with
  | nil => intro cs c vs h hl hd h1; exact ⟨cs, vs, by simpa [fillS] using h, rfl, hl, hd, h1⟩
  | cons p parts ih =>
    obtain ⟨i, x⟩ := p
    intro cs c vs h hl hd h1
    simp only [fillS] at h
    rw [valK_eq] at h
    obtain ⟨h, hcells⟩ := cellsK_spec (w := w) (M := M) (β := β) h
    obtain ⟨c1, c2, c3⟩ := hcells _ (hT x)
    split at h
    · rename_i hb1 hb2
      rw [lenL_eq] at hb1 hb2
      have hb1 := beq_of hb1
      have hb2 := ble_of hb2
      rw [putK_eq] at h
      have c3' : ∀ u ∈ (a.eval x).cells.toList, u.oneCell' = true := fun u hu => c3 u (by simpa using hu)
      obtain ⟨d1, d2⟩ := den_put (w := w) (M := M) (β := β) (off := i * size) (us := (a.eval x).cells.toList) hl (by simpa using c1) (by omega) hd (fun j s u hs hu => c2 j s u hs (by simpa using hu))
      obtain ⟨cs', vs', hc, hfill, r1, r2, r3⟩ := ih _ c (blockSet vs.toArray (i * size) (a.eval x).cells.toList).toList h (by simpa using d1) (fun j s u hs hu => d2 j s u hs (by simpa using hu)) (fun u hu => by
        obtain ⟨j, hj, rfl⟩ := List.mem_iff_getElem.1 hu
        exact blockSet_one (off := i * size) (us := (a.eval x).cells.toList) (by simp; omega) h1 c3' j _ (by simp))
      refine ⟨cs', vs', hc, ?_, r1, r2, r3⟩
      simp only [List.map_cons, Instr.fill]
      have hs : (a.eval x).cells.size = size := by omega
      rw [if_neg (by simp [hs]; omega)]
      have hfold := fold_blockSet (a.eval x).cells.toList vs.toArray (i * size) 0
      rw [Nat.add_zero] at hfold
      have hz : (a.eval x).cells.zipIdx.foldl (fun cs (x : Value × Nat) => cs.setIfInBounds (i * size + x.2) x.1) vs.toArray = blockSet vs.toArray (i * size) (a.eval x).cells.toList := by
        rw [← hfold, ← Array.foldl_toList]
        simp
      rw [hz]
      simpa using hfill
    · exact h.elim

/-- What an operation on known blocks owes. -/
def MemNext (X : Nat → Prop) (w : World) (β : Env) (fp : Nat → Nat → Prop) (a : Act) (o : Oper) (K : SV → List KB → Prop) (next : Act → World → Prop) : Prop :=
  ∀ r ks' v w' β' fp', K r ks' → Went X w β fp w' β' fp' ks' → Den w' (Mx X fp') β' r v → next (a.put o.dst v) w'

theorem run_storeVar {t : TypeId} {i : TypeInfo} (hi : P.info? t = some i) (b off : Nat) (v : Value) (t' : TypeId) (fz : Nat × Nat) (cs : Array Value) (hb : w.heap[b]? = some (.cells cs t' fz)) (hfz : ∀ o, o < cs.size → ¬ (fz.1 ≤ o ∧ o < fz.2))
    (hsz : v.cells.size = i.size) (hin : off + i.size ≤ cs.size) (h1 : ∀ u ∈ v.cells, u.oneCell' = true) (hpos : 0 < i.size) :
    (storeVar t ⟨b, off, none⟩ v).run P w = .ok () (World.setBlock w b (.cells (blockSet cs off v.cells.toList) t' fz)) := by
  have hne : v.cells.toList ≠ [] := fun e => by
    have := congrArg List.length e
    simp at this
    rw [this] at hsz
    simp at hsz
    omega
  have := run_storeCells (P := P) b t' fz v.cells.toList w cs off 0 hb (by simp; omega) hfz (fun u hu => h1 u (by simpa using hu))
  rw [if_neg hne, Nat.add_zero] at this
  simp [storeVar, run_sizeOf hi, hsz, this]

theorem putIK_spec {k : IntKind} {i m : Int} {l : List SV} : ∀ {j : Int} {c : List SV → Prop}, putIK k i m l j c → ∃ (xs : List Int) (l' : List SV), l = xs.map (fun n => .d (.int k n)) ∧ c l' ∧ l'.length = l.length ∧
    ∀ (q : Nat) (x : Int), xs[q]? = some x → l'[q]? = some (.d (.int k (if i = j + q then m else x))) := by
  induction l with
  | nil => intro j c h; exact ⟨[], [], rfl, h, rfl, by simp⟩
  | cons s l ih =>
    intro j c h
    cases s with
    | d x =>
      cases x with
      | int k' x =>
        simp only [putIK] at h
        split at h
        · rename_i hk
          cases kEq_eq hk
          obtain ⟨xs, l', rfl, hc, hlen, hg⟩ := ih h
          refine ⟨x :: xs, _, rfl, hc, by simp [hlen], fun q y hq => ?_⟩
          cases q with
          | zero => simp at hq; subst hq; simp
          | succ q =>
            simp at hq
            have := hg q y hq
            simp only [List.getElem?_cons_succ]
            rw [this]
            congr 3
            rw [show j + 1 + (q : Int) = j + ((q + 1 : Nat) : Int) from by omega]
        · exact h.elim
      | _ => exact h.elim
    | _ => exact h.elim

/-- A known block of cells is written anew. -/
theorem Mem.store (h : Mem X w β fp ks) {i : Nat} {L : Loc} {t : TypeId} {l l' : List SV} {vs vs' : Array Value} (hk : ks[i]? = some (.cells t l)) (hL : β i = some L) (hfp : ∀ x, fp i x ↔ x = L.b) (hblk : w.heap[L.b]? = some (.cells vs t (0, 0)))
    (hl : l'.length = vs'.size) (hd : ∀ (j : Nat) (s : SV) (u : Value), l'[j]? = some s → vs'[j]? = some u → Den w (Mx X fp) β s u) (h1 : ∀ (j : Nat) (u : Value), vs'[j]? = some u → u.oneCell' = true) :
    Went X w β fp (World.setBlock w L.b (.cells vs' t (0, 0))) β fp (ks.set i (.cells t l')) :=
  h.set (.cells t l') _ (List.getElem?_eq_some_iff.1 hk).1 hL hfp (.cells t l' vs' hfp (setBlock_same _ _ _ (lt_of_block hblk)) hl
    (fun j s u a b => (hd j s u a b).mono (Step.setBlock w (.inr ⟨i, (hfp _).2 rfl⟩) _) (fun _ _ e => e) (Ext.refl _)) h1)

theorem putD_length (l : List DV) (off : Nat) (vs : List DV) : (putD l off vs).length = l.length := by
  induction vs generalizing l off with
  | nil => cases l <;> rfl
  | cons v vs ih => simp [putD, ih]
theorem putD_get (l : List DV) (off : Nat) (vs : List DV) (j : Nat) (hin : off + vs.length ≤ l.length) : (putD l off vs)[j]? = if off ≤ j ∧ j < off + vs.length then vs[j - off]? else l[j]? := by
  induction vs generalizing l off with
  | nil => simp [putD]; intro _ _; omega
  | cons v vs ih =>
    simp only [List.length_cons] at hin
    simp only [putD, List.length_cons]
    rw [ih (l.set off v) (off + 1) (by simp; omega)]
    by_cases h1 : off + 1 ≤ j ∧ j < off + 1 + vs.length
    · rw [if_pos h1, if_pos (by omega), show j - off = (j - (off + 1)) + 1 from by omega]
      simp
    · rw [if_neg h1, List.getElem?_set]
      by_cases h2 : off = j
      · subst h2
        rw [if_pos rfl, if_pos (by omega), if_pos (by omega)]
        simp
      · rw [if_neg h2, if_neg (by omega)]

/-- A cell of a family written. -/
theorem putcK_spec {c : Col} {n : Nat} {v : SV} {K : Col → Prop} (h : putcK c n v K) : ∃ c', K c' ∧ (∀ m, m ≠ n → c'.at m = c.at m) ∧ ∀ (w : World) (M : Nat → Prop) (β : Env) (u : Value), Den w M β v u → Den w M β (c'.at n) u := by
  unfold putcK at h
  split at h
  · split at h
    · split at h
      · rename_i k f k' x hk
        cases kEq_eq hk
        exact ⟨_, h, fun m hm => by simp [Col.at, upd_other _ _ hm], fun w M β u hu => by simpa [Col.at, upd_same] using hu⟩
      · exact h.elim
    · exact h.elim
  · split at h
    · rename_i f x
      obtain ⟨b, h, hb⟩ := boolK_spec h
      exact ⟨_, h, fun m hm => by simp [Col.at, upd_other _ _ hm], fun w M β u hu => by
        rw [hb w M u (den_data hu)]
        simp only [Col.at, upd_same]
        exact .d (.bool b)⟩
    · exact h.elim
  · split at h
    · exact ⟨_, h, fun m hm => by simp [Col.at, upd_other _ _ hm], fun w M β u hu => by simpa [Col.at, upd_same] using hu⟩
    · exact h.elim
  · rename_i sz nil q g
    split at h
    · rename_i b q' sz' h'
      split at h
      · rename_i hsz
        cases beq_of hsz
        exact ⟨_, h, fun m hm => by simp [Col.at, upd_other _ _ hm], fun w M β u hu => by simpa [Col.at, upd_same] using hu⟩
      · split at h
        · exact ⟨_, h, fun m hm => by simp [Col.at, upd_other _ _ hm], fun w M β u hu => by
            simp only [Col.at, upd_same]
            exact .d (den_data hu).width⟩
        · exact h.elim
    · exact h.elim
  · split at h
    · split at h
      · rename_i i f j x hj
        cases beq_of hj
        exact ⟨_, h, fun m hm => by simp [Col.at, upd_other _ _ hm], fun w M β u hu => by simpa [Col.at, upd_same] using hu⟩
      · exact h.elim
    · split at h
      · rename_i i f j x off hj
        cases beq_of hj
        exact ⟨_, h, fun m hm => by simp [Col.at, upd_other _ _ hm], fun w M β u hu => by
          simp only [Col.at, upd_same]
          cases hu with
          | ap _ n _ L hL => exact .np _ n L hL⟩
      · exact h.elim
    · exact ⟨_, h, fun m hm => by simp [Col.at, upd_other _ _ hm], fun w M β u hu => by
        simp only [Col.at, upd_same]
        cases hu
        exact .npNil _⟩
    · exact h.elim
  · exact ⟨_, h, fun m hm => rfl, fun w M β u hu => .any _⟩

theorem lenC_eq (l : List Col) : lenC l = l.length := by
  induction l with
  | nil => rfl
  | cons a l ih => simp [lenC, ih]

/-- Cells of a family written. -/
theorem putCK_spec : ∀ {cols : List Col} {off n : Nat} {vs : List SV} {K : List Col → Prop}, putCK cols off n vs K → ∃ cols', K cols' ∧ cols'.length = cols.length ∧ (∀ (j : Nat) (c : Col), cols[j]? = some c → ∃ c', cols'[j]? = some c' ∧ (∀ m, m ≠ n → c'.at m = c.at m) ∧
    ((off ≤ j ∧ j < off + vs.length ∧ ∃ v, vs[j - off]? = some v ∧ ∀ (w : World) (M : Nat → Prop) (β : Env) (u : Value), Den w M β v u → Den w M β (c'.at n) u) ∨ (¬ (off ≤ j ∧ j < off + vs.length) ∧ c' = c))) := by
  intro cols
  induction cols with
  | nil =>
    intro off n vs K h
    cases vs with
    | nil => exact ⟨[], by simpa [putCK] using h, rfl, fun j c hc => by simp at hc⟩
    | cons => simp [putCK] at h
  | cons c l ih =>
    intro off n vs K h
    cases vs with
    | nil => exact ⟨c :: l, by simpa [putCK] using h, rfl, fun j c' hc => ⟨c', hc, fun _ _ => rfl, .inr ⟨by rw [List.length_nil]; omega, rfl⟩⟩⟩
    | cons v vs =>
      cases off with
      | zero =>
        simp only [putCK] at h
        obtain ⟨c', h, g1, g2⟩ := putcK_spec h
        obtain ⟨l', h, g3, g4⟩ := ih h
        refine ⟨c' :: l', h, by simp [g3], fun j cj hc => ?_⟩
        cases j with
        | zero => simp at hc; subst hc; exact ⟨c', rfl, g1, .inl ⟨Nat.le_refl _, by simp, v, rfl, g2⟩⟩
        | succ j =>
          obtain ⟨c2, e1, e2, e3⟩ := g4 j cj (by simpa using hc)
          refine ⟨c2, by simpa using e1, e2, ?_⟩
          rcases e3 with ⟨f1, f2, f3⟩ | ⟨f1, f2⟩
          · exact .inl ⟨Nat.zero_le _, by simp; omega, by simpa using f3⟩
          · exact .inr ⟨by simp; simp at f1; omega, f2⟩
      | succ off =>
        simp only [putCK] at h
        obtain ⟨l', h, g3, g4⟩ := ih h
        refine ⟨c :: l', h, by simp [g3], fun j cj hc => ?_⟩
        cases j with
        | zero => simp at hc; subst hc; exact ⟨c, rfl, fun _ _ => rfl, .inr ⟨by omega, rfl⟩⟩
        | succ j =>
          obtain ⟨c2, e1, e2, e3⟩ := g4 j cj (by simpa using hc)
          refine ⟨c2, by simpa using e1, e2, ?_⟩
          rcases e3 with ⟨f1, f2, f3⟩ | ⟨f1, f2⟩
          · exact .inl ⟨by omega, by omega, by rw [show j + 1 - (off + 1) = j - off from by omega]; exact f3⟩
          · exact .inr ⟨by omega, f2⟩

end
end Go.Eng
