/-
  The engine, part 14: new blocks, and append.
-/
import Derived.Test.YtdphkaiijlekhaaEg13
namespace Go.Eng
open Go Go.RowKit

section
variable {P : Program} {X : Nat → Prop} {w : World} {β : Env} {fp : Nat → Nat → Prop} {ks : List KB}

theorem setBlock_self {w : World} {b : Nat} {o : Obj} (h : w.heap[b]? = some o) : World.setBlock w b o = w := by
  have hlt := lt_of_block h
  unfold World.setBlock
  have : w.heap.setIfInBounds b o = w.heap := by
    apply Array.ext_getElem?
    intro i
    rw [Array.getElem?_setIfInBounds]
    split
    · rename_i e; subst e; rw [h]
    · rfl
  rw [this]
theorem setCells_eq {w : World} {b : Nat} {cs : Array Value} {t : TypeId} {fz : Nat × Nat} (h : w.heap[b]? = some (.cells cs t fz)) (off : Nat) (us : List Value) : w.setCells b off us = World.setBlock w b (.cells (blockSet cs off us) t fz) := by
  induction us generalizing w cs off with
  | nil => simp only [World.setCells, blockSet]; exact (setBlock_self h).symm
  | cons u us ih =>
    simp only [World.setCells, blockSet]
    rw [setCell_eq_setBlock h, ih (setBlock_same _ _ _ (lt_of_block h)), setBlock_setBlock]

theorem alloc_M (h : Mem X w β fp ks) (n : Nat) : ∀ b, b < w.heap.size → Mx X (updP fp n (· = w.heap.size)) b → Mx X fp b := fun b hb hm => hm.imp id (fun ⟨i, hi⟩ => by
  by_cases e : i = n
  · subst e; rw [updP_same] at hi; omega
  · rw [updP_other _ _ e] at hi; exact ⟨i, hi⟩)

def locB (b : Nat) : Loc := ⟨b, 0, 0, 0, false⟩

/-- A new block of cells. -/
theorem Mem.newCells (h : Mem X w β fp ks) (t : TypeId) (l : List SV) (vs : Array Value) (hl : l.length = vs.size) (hd : ∀ (j : Nat) (s : SV) (u : Value), l[j]? = some s → vs[j]? = some u → Den w (Mx X fp) β s u) (h1 : ∀ (j : Nat) (u : Value), vs[j]? = some u → u.oneCell' = true) :
    Went X w β fp (w.alloc (.cells vs t)) (upd β ks.length (some (locB w.heap.size))) (updP fp ks.length (· = w.heap.size)) (ks ++ [.cells t l]) := by
  have hn := h.kl ks.length (Nat.le_refl _)
  refine h.alloc _ (locB w.heap.size) _ rfl (.cells t l vs (fun x => Iff.rfl) (by show (w.heap.push _)[w.heap.size]? = _; simp) hl (fun j s u a b => (hd j s u a b).mono (Step.alloc _ w _) (alloc_M h _) (ext_upd _ hn)) h1)

/-- A new row. -/
theorem Mem.newRow (h : Mem X w β fp ks) (e : TypeId) (sz n c : Nat) (z : Z) (f : Nat → List DV) (vs : Array Value) (fz : Nat × Nat) (hfz : ∀ o, o < vs.size → ¬ (fz.1 ≤ o ∧ o < fz.2)) (hz : z = .iff → 0 < n) (hsz : vs.size = c * sz) (hn : n ≤ c) (hfl : ∀ k, k < n → (f k).length = sz)
    (hr : ∀ (k j : Nat) (d : DV) (u : Value), k < n → (f k)[j]? = some d → vs[k * sz + j]? = some u → Rd w (Mx X fp) d u) (h1 : ∀ (j : Nat) (u : Value), vs[j]? = some u → u.oneCell' = true) :
    Went X w β fp (w.alloc (.cells vs e fz)) (upd β ks.length (some ⟨w.heap.size, n, c, sz, false⟩)) (updP fp ks.length (· = w.heap.size)) (ks ++ [.row e sz n z f]) ∧
      Den (w.alloc (.cells vs e fz)) (Mx X (updP fp ks.length (· = w.heap.size))) (upd β ks.length (some ⟨w.heap.size, n, c, sz, false⟩)) (.all ks.length) (.slice (some ⟨w.heap.size, 0, none⟩) n c) := by
  refine ⟨h.alloc _ ⟨w.heap.size, n, c, sz, false⟩ _ rfl (.row e sz n z f vs fz (fun x => Iff.rfl) rfl rfl rfl hz (by show (w.heap.push _)[w.heap.size]? = _; simp) hfz hsz hn hfl (fun k j d u a b c => (hr k j d u a b c).mono (Step.alloc _ w _) (alloc_M h _)) h1), ?_⟩
  exact .all ks.length ⟨w.heap.size, n, c, sz, false⟩ (upd_same _ _ _) rfl

theorem catF_len {n k sz : Nat} {f g : Nat → List DV} (hf : ∀ j, j < n → (f j).length = sz) (hg : ∀ j, j < k → (g j).length = sz) : ∀ j, j < n + k → (catF n f g j).length = sz := fun j hj => by
  unfold catF
  split
  · exact hf j (by assumption)
  · exact hg _ (by omega)

theorem grown_ge (w : World) (need old : Nat) (e : TypeId) : need ≤ grownCap w need old e := by
  unfold grownCap
  simp only [Question.cut]
  omega

theorem zeroCells_one {z : Array Value} (hz : ∀ (j : Nat) (u : Value), z[j]? = some u → u.oneCell' = true) (n : Nat) : ∀ (j : Nat) (u : Value), (Builtin.zeroCells z n)[j]? = some u → u.oneCell' = true := fun j u hu => by
  unfold Builtin.zeroCells at hu
  rw [Array.getElem?_map] at hu
  cases hr : (Array.range (n * z.size))[j]? with
  | none => rw [hr] at hu; cases hu
  | some m =>
    rw [hr] at hu
    simp only [Option.map_some] at hu
    cases hu
    have hj : j < n * z.size := by
      have := (Array.getElem?_eq_some_iff.1 hr).1
      simpa using this
    have hp : 0 < z.size := by
      rcases Nat.eq_zero_or_pos z.size with e | e
      · rw [e] at hj; omega
      · exact e
    have hm := Nat.mod_lt m hp
    rw [getElem!_pos z (m % z.size) hm]
    exact hz _ _ (Array.getElem?_eq_getElem hm)

section
variable {st xt ty e : TypeId} {info : TypeInfo} {z0 : Value} {sz : Nat}

/-- Onto a new row. -/
theorem append_grow (h : Mem X w β fp ks) (hst : P.underlying st = some (.slice e)) (hi : P.info? e = some info) (hz0 : info.zero = some z0) (hsz : info.size = sz) (hzs : z0.cells.size = sz) (hz1 : ∀ (j : Nat) (u : Value), z0.cells[j]? = some u → u.oneCell' = true)
    (base : Option Addr) (n cap : Nat) (f : Nat → List DV) (olds : List Value) (hold : (Builtin.firstCells sz n (.slice base n cap)).run P w.drew = .ok olds.toArray w.drew) (hol : olds.length = n * sz) (ho1 : ∀ u ∈ olds, u.oneCell' = true)
    (hfl : ∀ k, k < n → (f k).length = sz) (hr : ∀ (k j : Nat) (d : DV) (u : Value), k < n → (f k)[j]? = some d → olds[k * sz + j]? = some u → Rd w (Mx X fp) d u)
    {x : Value} {k : Nat} {g : Nat → List DV} {us : List Value} (hs : SrcOk P w (Mx X fp) sz xt x k g us) (hgr : cap < n + k) (hby : (n + k) * info.bytes ≤ 70368744177664) (h63 : n + k ≤ 9223372036854775807) (z : Z) :
    ∃ v w' β' fp', (Builtin.append_ #[st, xt] ty #[.slice base n cap, x]).run P w = .ok v w' ∧ Went X w β fp w' β' fp' (ks ++ [.row e sz (n + k) z (catF n f g)]) ∧ Den w' (Mx X fp') β' (.all ks.length) v := by
  subst hsz
  have hfit : Builtin.nextslicecap (n + k) cap * info.bytes ≤ 281474976710656 := by
    have h1 := nextslicecap_le hgr
    have h2 := Nat.mul_le_mul_right info.bytes h1
    rw [Nat.mul_assoc] at h2
    omega
  have hrun := run_append_grow_src w st xt ty e info z0 hst hi hz0 base n cap olds hold x k us hs.src hgr (by omega) hfit
  have hge := grown_ge w (n + k) cap e
  generalize grownCap w (n + k) cap e = c at hrun hge
  have hW := h.drew
  have hus := hs.src.newsLen
  have hget : ∀ m u, ((olds ++ us).toArray ++ Builtin.zeroCells z0.cells (c - (n + k)))[m]? = some u → m < (n + k) * info.size → (if m < n * info.size then olds[m]? else us[m - n * info.size]?) = some u := fun m u hu hm => by
    rw [Nat.add_mul] at hm
    rw [Array.getElem?_append_left (by simp; omega)] at hu
    simp only [List.getElem?_toArray] at hu
    split
    · rename_i hlt; rw [List.getElem?_append_left (by omega)] at hu; exact hu
    · rename_i hlt; rw [List.getElem?_append_right (by omega), hol] at hu; exact hu
  have hlt : ∀ t q, t < n + k → q < info.size → t * info.size + q < (n + k) * info.size := fun t q ht hq => by
    calc t * info.size + q < t * info.size + info.size := by omega
      _ = (t + 1) * info.size := by rw [Nat.add_mul, Nat.one_mul]
      _ ≤ (n + k) * info.size := Nat.mul_le_mul_right _ ht
  have hcl := catF_len hfl hs.wid
  obtain ⟨hW2, hden⟩ := hW.mem.newRow e info.size (n + k) c z (catF n f g) ((olds ++ us).toArray ++ Builtin.zeroCells z0.cells (c - (n + k))) (0, 0) (by simp) (fun _ => by omega) (by
      rw [Array.size_append, size_zeroCells, hzs]; simp [hol, hus]
      rw [← Nat.add_mul, ← Nat.add_mul]; congr 1; omega) hge hcl (fun t q d u ht hd hu => by
      have hq : q < info.size := by have := (List.getElem?_eq_some_iff.1 hd).1; rw [hcl _ ht] at this; exact this
      have h2 := hget _ u hu (hlt t q ht hq)
      have hst : Step (Mx X fp) w w.drew := Step.drew _ w
      unfold catF at hd
      split at hd
      · rename_i htn
        rw [if_pos (by
          calc t * info.size + q < t * info.size + info.size := by omega
            _ = (t + 1) * info.size := by rw [Nat.add_mul, Nat.one_mul]
            _ ≤ n * info.size := Nat.mul_le_mul_right _ htn)] at h2
        exact (hr t q d u htn hd h2).mono hst (fun _ _ e => e)
      · rename_i htn
        have hle : n * info.size ≤ t * info.size := Nat.mul_le_mul_right _ (by omega)
        rw [if_neg (by omega), show t * info.size + q - n * info.size = (t - n) * info.size + q from by rw [Nat.sub_mul]; omega] at h2
        exact (hs.rd (t - n) q d u (by omega) hd h2).mono hst (fun _ _ e => e)) (fun j u hu => by
      rcases Nat.lt_or_ge j ((olds ++ us).toArray.size) with hj | hj
      · rw [Array.getElem?_append_left hj] at hu
        simp only [List.getElem?_toArray] at hu
        rcases List.mem_append.1 (List.mem_of_getElem? hu) with hm | hm
        · exact ho1 u hm
        · exact hs.src.one u hm
      · rw [Array.getElem?_append_right hj] at hu
        exact zeroCells_one hz1 _ _ u hu)
  exact ⟨_, _, _, _, hrun, hW.trans hW2, hden⟩

/-- Onto nil. -/
theorem append_nil (h : Mem X w β fp ks) (hst : P.underlying st = some (.slice e)) (hi : P.info? e = some info) (hz0 : info.zero = some z0) (hsz : info.size = sz) (hzs : z0.cells.size = sz) (hz1 : ∀ (j : Nat) (u : Value), z0.cells[j]? = some u → u.oneCell' = true) (hpos : 0 < sz)
    {x : Value} {k : Nat} {g : Nat → List DV} {us : List Value} (hs : SrcOk P w (Mx X fp) sz xt x k g us) (hby : k * info.bytes ≤ 70368744177664) (h63 : k ≤ 9223372036854775807) (z : Z) (hz : z ≠ .no) (f : Nat → List DV) :
    ∃ v w' β' fp', (Builtin.append_ #[st, xt] ty #[.slice none 0 0, x]).run P w = .ok v w' ∧ Went X w β fp w' β' fp' (ks ++ [.row e sz (0 + k) z (catF 0 f g)]) ∧ Den w' (Mx X fp') β' (.all ks.length) v := by
  by_cases hk : k = 0
  · subst hk
    have hus : us = [] := List.eq_nil_of_length_eq_zero (by rw [hs.src.newsLen]; simp)
    subst hus
    have hrun := run_append_nothing w st xt ty e info hst hi none 0 0 (Nat.le_refl _) x (hsz ▸ hs.src)
    have hW := h.nilRow e sz z hz (catF 0 f g)
    exact ⟨_, _, _, _, hrun, hW, .allNil ks.length _ (upd_same _ _ _) rfl⟩
  · exact append_grow h hst hi hz0 hsz hzs hz1 none 0 0 f [] (run_firstCells_none w.drew sz 0 0 0) (by simp) (by simp) (fun k hk => absurd hk (by omega)) (fun k j d u hk => absurd hk (by omega)) hs (by omega) (by simpa using hby) (by omega) z

/-- Onto the first n elements of a row. -/
theorem append_row (h : Mem X w β fp ks) (hst : P.underlying st = some (.slice e)) (hi : P.info? e = some info) (hz0 : info.zero = some z0) (hsz : info.size = sz) (hzs : z0.cells.size = sz) (hz1 : ∀ (j : Nat) (u : Value), z0.cells[j]? = some u → u.oneCell' = true)
    {i m n : Nat} {z : Z} {f : Nat → List DV} (hki : ks[i]? = some (.row e sz m z f)) {L : Loc} (hL : β i = some L) (hnil : L.nil = false) (hn : n ≤ m)
    {x : Value} {k : Nat} {g : Nat → List DV} {us : List Value} (hs : SrcOk P w (Mx X fp) sz xt x k g us) (hby : (n + k) * info.bytes ≤ 70368744177664) (h63 : n + k ≤ 9223372036854775807) (z' : Z) (hz' : z' = .iff → 0 < n + k) :
    ∃ v w' β' fp', (Builtin.append_ #[st, xt] ty #[.slice (some ⟨L.b, 0, none⟩) n L.c, x]).run P w = .ok v w' ∧ Went X w β fp w' β' fp' (ks.set i .gone ++ [.row e sz (n + k) z' (catF n f g)]) ∧ Den w' (Mx X fp') β' (.all ks.length) v := by
  have hil : i < ks.length := (List.getElem?_eq_some_iff.1 hki).1
  have hb := h.at hki (by simp) hL
  cases hb with
  | rowNil _ _ _ _ _ hnil' => rw [hnil] at hnil'; cases hnil'
  | row _ _ _ _ _ vs fz hfp _ hLs hLn hzz hb hfz hvs hng hfl hr h1 =>
    have hus := hs.src.newsLen
    by_cases hroom : n + k ≤ L.c
    · have hin : n * sz + us.length ≤ vs.size := by rw [hus, hvs, ← Nat.add_mul]; exact Nat.mul_le_mul_right _ hroom
      have hrun := run_append_room_src (P := P) w st xt ty e info hst hi L.b 0 n L.c x k us (hsz ▸ hs.src) hroom (fun j hj => by
        rw [hsz, Nat.zero_add]
        have : n * sz + j < vs.size := by omega
        simp [World.cell?, hb, this]) (fun j hj => by
        rw [hsz, Nat.zero_add]
        have := hfz (n * sz + j) (by omega)
        obtain ⟨lo, hi⟩ := fz
        simp [World.frozen?, hb]
        intro hlo
        simp at this
        exact this hlo)
      rw [hsz, Nat.zero_add, setCells_eq hb] at hrun
      have hM : ∀ b, b < w.heap.size → Mx X (updP (updP fp i (fun _ => False)) ks.length (· = L.b)) b → Mx X fp b := fun b _ hm => hm.imp id (fun ⟨j, hj⟩ => by
        by_cases h1 : j = ks.length
        · subst h1; rw [updP_same] at hj; exact ⟨i, (hfp b).2 hj⟩
        · rw [updP_other _ _ h1] at hj
          by_cases e : j = i
          · subst e; rw [updP_same] at hj; exact hj.elim
          · rw [updP_other _ _ e] at hj; exact ⟨j, hj⟩)
      have hst' : Step (Mx X fp) w (World.setBlock w L.b (.cells (blockSet vs (n * sz) us) e fz)) := Step.setBlock w (.inr ⟨i, (hfp _).2 rfl⟩) _
      have hfl' : ∀ t, t < n → (f t).length = sz := fun t ht => hfl t (by omega)
      have hcl := catF_len hfl' hs.wid
      have hW := h.again (L' := ⟨L.b, n + k, L.c, sz, false⟩) (.row e sz (n + k) z' (catF n f g)) (.cells (blockSet vs (n * sz) us) e fz) hil hL hfp rfl
        (.row e sz (n + k) z' (catF n f g) (blockSet vs (n * sz) us) fz (fun x => Iff.rfl) rfl rfl rfl hz' (setBlock_same _ _ _ (lt_of_block hb)) (by rw [blockSet_size]; exact hfz) (by rw [blockSet_size]; exact hvs) hroom hcl (fun t q d u ht hd hu => by
          have hq : q < sz := by have := (List.getElem?_eq_some_iff.1 hd).1; rw [hcl _ ht] at this; exact this
          rw [blockSet_get _ _ _ _ hin] at hu
          unfold catF at hd
          split at hd
          · rename_i htn
            have hlt : t * sz + q < n * sz := by
              calc t * sz + q < t * sz + sz := by omega
                _ = (t + 1) * sz := by rw [Nat.add_mul, Nat.one_mul]
                _ ≤ n * sz := Nat.mul_le_mul_right _ htn
            rw [if_neg (by omega)] at hu
            exact (hr t q d u (by omega) hd hu).mono hst' hM
          · rename_i htn
            have hle : n * sz ≤ t * sz := Nat.mul_le_mul_right _ (by omega)
            have hlt : t * sz + q < (n + k) * sz := by
              calc t * sz + q < t * sz + sz := by omega
                _ = (t + 1) * sz := by rw [Nat.add_mul, Nat.one_mul]
                _ ≤ (n + k) * sz := Nat.mul_le_mul_right _ ht
            rw [if_pos (by rw [hus, ← Nat.add_mul]; omega), show t * sz + q - n * sz = (t - n) * sz + q from by rw [Nat.sub_mul]; omega] at hu
            exact (hs.rd (t - n) q d u (by omega) hd hu).mono hst' hM) (fun j u hu => by
          rw [blockSet_get _ _ _ _ hin] at hu
          split at hu
          · exact hs.src.one u (List.mem_of_getElem? hu)
          · exact h1 j u hu))
      exact ⟨_, _, _, _, hrun, hW, .all ks.length ⟨L.b, n + k, L.c, sz, false⟩ (upd_same _ _ _) rfl⟩
    · have hW := h.gone [i]
      have hks : goneL [i] ks = ks.set i .gone := by simp [goneL, setB_eq]
      rw [hks] at hW
      have hle : n * sz ≤ vs.size := by rw [hvs]; exact Nat.mul_le_mul_right _ (by omega)
      have hlen : (ks.set i KB.gone).length = ks.length := by simp
      obtain ⟨v, w', β', fp', r1, r2, r3⟩ := append_grow (P := P) (st := st) (xt := xt) (ty := ty) hW.mem hst hi hz0 hsz hzs hz1 (some ⟨L.b, 0, none⟩) n L.c f (vs.toList.take (n * sz)) (run_firstCells_some w.drew sz n ⟨L.b, 0, none⟩ n L.c _ (by simp; omega) (fun j u hu => by
          rw [List.getElem?_take] at hu
          split at hu
          · rw [add_lit0]
            show w.cell? _ = _
            simpa [World.cell?, hb] using hu
          · cases hu)) (by simp; omega) (fun u hu => by
          obtain ⟨j, hj, rfl⟩ := List.mem_iff_getElem.1 (List.mem_of_mem_take hu)
          exact h1 j _ (by simp)) (fun t ht => hfl t (by omega)) (fun t q d u ht hd hu => by
          rw [List.getElem?_take] at hu
          split at hu
          · exact rd_less (hr t q d u (by omega) hd (by simpa using hu)) (h.goneM [i])
          · cases hu) (hs.less (h.goneM [i])) (by omega) hby h63 z'
      rw [hlen] at r3
      exact ⟨v, w', β', fp', r1, hW.trans r2, r3⟩

end
end
end Go.Eng
