/-
  The engine, part 5: operations that change nothing that is known are carried out as `pev` says.
-/
import Derived.Test.YtdphkaiijlekhaaEg4
namespace Go.Eng
open Go Go.RowKit

/-- The operation yields a value that the symbolic one stands for, in the same world. -/
def Ran (P : Program) (o : Oper) (a : Act) (w : World) (M : Nat → Prop) (β : Env) (K : SV → Prop) : Prop :=
  ∃ r v, K r ∧ (execOp a.eval o).run P w = .ok (.value v) w ∧ Den w M β r v

section
variable {P : Program} {TT : Nat → Option TI} {ts : List SV} {ks : List KB} {w : World} {M : Nat → Prop} {β : Env} {a : Act} {K : SV → Prop} {o : Oper}

theorem getB_some {i : Nat} {k : KB} (h : getB ks i = k) (hne : k ≠ .gone) : ks[i]? = some k := by
  rw [getB_eq] at h
  cases hg : ks[i]? with
  | none => rw [hg] at h; exact absurd h.symm hne
  | some x => rw [hg] at h; simpa using h

theorem den_get {l : List SV} {vs : List Value} (hl : l.length = vs.length) (h : ∀ (j : Nat) (s : SV) (u : Value), l[j]? = some s → vs[j]? = some u → Den w M β s u) (j : Nat) (hj : j < l.length) :
    ∃ u, vs[j]? = some u ∧ Den w M β (getT l j) u := by
  have hv : vs[j]? = some (vs[j]'(by omega)) := List.getElem?_eq_getElem (by omega)
  have hs : l[j]? = some (l[j]'hj) := List.getElem?_eq_getElem hj
  refine ⟨_, hv, ?_⟩
  rw [getT_eq, hs]
  exact h j _ _ hs hv

/-- Cells in a row, as a value of a type. -/
theorem load_cells {t : TypeId} {ti : TI} (hTT : TTok P TT) (ht : TT t = some ti) (ad : Addr) (l : List SV) (off : Nat) (vs : List Value) (hl : l.length = vs.length)
    (hd : ∀ (j : Nat) (s : SV) (u : Value), l[j]? = some s → vs[j]? = some u → Den w M β s u) (h1 : ∀ u ∈ vs, u.oneCell' = true) (hc : ∀ (j : Nat) (u : Value), vs[j]? = some u → w.cell? (ad.add j) = some u)
    (hp : packK ti.agg ti.size l off K) : ∃ r v, K r ∧ (loadVar t (ad.add off)).run P w = .ok v w ∧ Den w M β r v := by
  obtain ⟨info, d, z, hi, hu, hsz, _, _, hag, _⟩ := find_TT hTT ht
  obtain ⟨hin, ⟨hagg, hk⟩ | ⟨hagg, hone, hk⟩⟩ := packK_spec hp
  · refine ⟨_, _, hk, run_loadVar_agg hu hi (by rw [hag]; exact hagg) (ad.add off) ((vs.drop off).take ti.size) (by simp; omega) (fun j u hju => ?_), ?_⟩
    · rw [add_add]
      rw [List.getElem?_take] at hju
      split at hju
      · rw [List.getElem?_drop] at hju
        exact hc _ _ hju
      · cases hju
    · refine .agg _ _ (by simp; omega) (fun j s u hs hu' => ?_) (fun u hu' => h1 u (List.mem_of_mem_drop (List.mem_of_mem_take hu')))
      rw [List.getElem?_take] at hs hu'
      split at hs
      · rename_i hj
        rw [if_pos hj] at hu'
        rw [List.getElem?_drop] at hs hu'
        exact hd _ _ _ hs hu'
      · cases hs
  · obtain ⟨u, hu', hd'⟩ := den_get hl hd off (by omega)
    exact ⟨_, _, hk, run_loadVar_one hu (by rw [hag]; exact hagg) _ u (hc off u hu'), hd'⟩

theorem part_cells {t : TypeId} {ti : TI} (hTT : TTok P TT) (ht : TT t = some ti) (l : List SV) (off : Nat) (vs : List Value) (hl : l.length = vs.length)
    (hd : ∀ (j : Nat) (s : SV) (u : Value), l[j]? = some s → vs[j]? = some u → Den w M β s u) (h1 : ∀ u ∈ vs, u.oneCell' = true)
    (hp : packK ti.agg ti.size l off K) : ∃ r v, K r ∧ (part t vs.toArray off).run P w = .ok v w ∧ Den w M β r v := by
  obtain ⟨info, d, z, hi, hu, hsz, _, _, hag, _⟩ := find_TT hTT ht
  obtain ⟨hin, ⟨hagg, hk⟩ | ⟨hagg, hone, hk⟩⟩ := packK_spec hp
  · refine ⟨_, .agg ((vs.drop off).take ti.size).toArray, hk, ?_, ?_⟩
    · simp only [part, Sem.run_bind, run_isAgg hu, hag, hagg, Result.andThen_ok, if_true, run_sizeOf hi, Sem.run_pure]
      congr 2
      apply Array.ext'
      simp [hsz]
    · refine .agg _ _ (by simp; omega) (fun j s u hs hu' => ?_) (fun u hu' => h1 u (List.mem_of_mem_drop (List.mem_of_mem_take hu')))
      rw [List.getElem?_take] at hs hu'
      split at hs
      · rename_i hj
        rw [if_pos hj] at hu'
        rw [List.getElem?_drop] at hs hu'
        exact hd _ _ _ hs hu'
      · cases hs
  · obtain ⟨u, hu', hd'⟩ := den_get hl hd off (by omega)
    refine ⟨_, u, hk, ?_, hd'⟩
    simp [part, run_isAgg hu, hag, hagg, hu']

theorem intsK_spec {k : IntKind} {l : List SV} {c : List Int → Prop} (h : intsK k l c) : ∃ xs : List Int, l = xs.map (fun n => .d (.int k n)) ∧ c xs := by
  induction l generalizing c with
  | nil => exact ⟨[], rfl, h⟩
  | cons s l ih =>
    cases s with
    | d x =>
      cases x with
      | int k' n =>
        simp only [intsK] at h
        split at h
        · rename_i hk
          cases kEq_eq hk
          obtain ⟨xs, rfl, hc⟩ := ih h
          exact ⟨n :: xs, rfl, hc⟩
        · exact h.elim
      | _ => exact h.elim
    | _ => exact h.elim

theorem rangeMap_get {n j : Nat} {u : Nat → Value} {v : Value} (h : ((List.range n).map u)[j]? = some v) : j < n ∧ u j = v := by
  rw [List.getElem?_map] at h
  rcases Nat.lt_or_ge j n with hj | hj
  · rw [List.getElem?_range hj] at h
    exact ⟨hj, Option.some.inj h⟩
  · rw [List.getElem?_eq_none (by simpa using hj)] at h
    cases h

theorem pickI_get (xs : List Int) (i : Int) (h0 : 0 ≤ i) (h1 : i < xs.length) : xs[i.toNat]? = some (pickI xs i) := by
  induction xs generalizing i with
  | nil => simp at h1; omega
  | cons x xs ih =>
    unfold pickI
    split
    · subst_vars; rfl
    · simp at h1
      have := ih (i - 1) (by omega) (by omega)
      rw [show i.toNat = (i - 1).toNat + 1 from by omega]
      simpa using this

theorem blk_at (hB : ∀ (i : Nat) (L : Loc) (k : KB), ks[i]? = some k → k ≠ .gone → β i = some L → ∃ fp, KBat w M β L fp k) {i : Nat} {L : Loc} {k : KB} (hL : β i = some L) (hk : ks[i]? = some k) (hne : k ≠ .gone) : ∃ fp, KBat w M β L fp k := by
  exact hB i L k hk hne hL

theorem den_int {k : IntKind} {n : Int} {v : Value} (h : Den w M β (.d (.int k n)) v) : v = .int k n := by
  cases h with
  | d h => cases h; rfl

theorem atK_eq (c : Col) (n : Nat) (K : SV → Prop) : atK c n K = K (c.at n) := by cases c <;> rfl
theorem colsK_eq (l : List Col) (n : Nat) (K : List SV → Prop) : colsK l n K = K (l.map (·.at n)) := by
  induction l generalizing K with
  | nil => rfl
  | cons c l ih => simp [colsK, atK_eq, ih]

theorem pev_load (hTT : TTok P TT) (hT : ∀ x, Den w M β (val ts x) (a.eval x)) (hB : ∀ (i : Nat) (L : Loc) (k : KB), ks[i]? = some k → k ≠ .gone → β i = some L → ∃ fp, KBat w M β L fp k) {t : TypeId} {x : Operand} (ho : o.op = .load t x)
    (h : pev P TT ts ks (.load t x) K) : Ran P o a w M β K := by
  unfold Ran
  simp only [execOp, ho]
  simp only [pev, valK_eq] at h
  split at h
  · exact h.elim
  · rename_i size bytes agg zero desc eqk ht
    have hv := hT x
    generalize a.eval x = av at hv ⊢
    split at h
    · rename_i i off hx
      rw [hx] at hv
      cases hv with
      | ptr _ _ b hbi =>
      rw [getBK_eq] at h
      split at h
      · rename_i t' l hg
        obtain ⟨fp', hk⟩ := blk_at hB hbi (getB_some hg (by simp)) (by simp)
        cases hk with
        | cells _ _ vs hfp hb hl hd h1 =>
          obtain ⟨r, v, hK, hr, hd'⟩ := load_cells (K := K) (w := w) (M := M) (β := β) hTT ht ⟨b.b, 0, none⟩ l off vs.toList (by simpa using hl) (fun j s u hs hu => hd j s u hs (by simpa using hu)) (fun u hu => by
              obtain ⟨j, hj, rfl⟩ := List.mem_iff_getElem.1 hu
              exact h1 j _ (by simp)) (fun j u hu => by
              rw [show (⟨b.b, 0, none⟩ : Addr).add j = ⟨b.b, j, none⟩ from by unfold Addr.add; split <;> simp_all]
              simpa [World.cell?, hb] using hu) h
          rw [show (⟨b.b, 0, none⟩ : Addr).add off = ⟨b.b, off, none⟩ from by unfold Addr.add; split <;> simp_all] at hr
          refine ⟨r, v, hK, ?_, hd'⟩
          simp [Instr.loadAt, Instr.sureAddr, hr]
      · exact h.elim
    · rename_i i off len ix hx
      rw [hx] at hv
      cases hv with
      | aptr _ _ _ _ b h0 h1 hbi =>
      split at h
      · rename_i k
        rw [getBK_eq] at h
        split at h
        · rename_i t' l hg
          split at h
          · rename_i hble
            rw [dropK_eq, takeK_eq] at h
            obtain ⟨xs, hxs, hK⟩ := intsK_spec h
            obtain ⟨fp', hk⟩ := blk_at hB hbi (getB_some hg (by simp)) (by simp)
            obtain ⟨info, d, z, hi, hu, hsz, _, _, hag, _, _, _, _, hdesc⟩ := find_TT hTT ht
            cases hk with
            | cells _ _ vs hfp hb hl hd h1' =>
              rw [lenL_eq] at hble
              have hble := ble_of hble
              have hlen : xs.length = len := by
                have := congrArg List.length hxs
                simp at this
                omega
              have hget := pickI_get xs ix h0 (by omega)
              have hs : l[off + ix.toNat]? = some (.d (.int k (pickI xs ix))) := by
                have h2 : ((l.drop off).take len)[ix.toNat]? = some (.d (.int k (pickI xs ix))) := by rw [hxs]; simp [hget]
                rw [List.getElem?_take, if_pos (by omega), List.getElem?_drop] at h2
                exact h2
              have hvs : vs[off + ix.toNat]? = some (vs[off + ix.toNat]'(by omega)) := Array.getElem?_eq_getElem (by omega)
              have hden := hd _ _ _ hs hvs
              have hval := den_int hden
              refine ⟨_, _, hK, ?_, .d (.int k _)⟩
              have hcell : w.cell? ⟨b.b, off + ix.toNat, none⟩ = some (.int k (pickI xs ix)) := by
                simp [World.cell?, hb, hvs, hval]
              have hdd : d = .int k := hdesc
              have := run_loadVar_one (P := P) (w := w) hu (by rw [hdd]; rfl) _ _ hcell
              simp [Instr.loadAt, Instr.sureAddr, this]
          · exact h.elim
        · exact h.elim
      · exact h.elim
    · rename_i c off hx
      rw [hx] at hv
      cases hv with
      | dptr _ _ ad u hlt hnm hc hr =>
      rw [mapDK_eq] at h
      obtain ⟨r, v, hK, hr', hd'⟩ := load_cells (K := K) (w := w) (M := M) (β := β) hTT ht ad (c.map .d) off ((List.range c.length).map u) (by simp) (fun j s v hs hv => by
          simp at hs
          obtain ⟨x, hx, rfl⟩ := hs
          obtain ⟨_, rfl⟩ := rangeMap_get hv
          exact .d (hr j x hx)) (fun v hv => by
          simp at hv
          obtain ⟨j, hj, rfl⟩ := hv
          exact oneCell_rd (hr j _ (List.getElem?_eq_getElem hj))) (fun j v hv => by
          obtain ⟨hj, rfl⟩ := rangeMap_get hv
          exact hc _ _ (List.getElem?_eq_getElem hj)) h
      refine ⟨r, v, hK, ?_, hd'⟩
      simp [Instr.loadAt, Instr.sureAddr, hr']
    · rename_i i j off sz hx
      rw [hx] at hv
      cases hv with
      | rptr _ _ _ _ b hbi hjL =>
      rw [getBK_eq] at h
      split at h
      · rename_i e sz' n z f hg
        split at h
        · rename_i hsz'
          have hsz' := beq_of hsz'
          subst hsz'
          rw [mapDK_eq] at h
          obtain ⟨fp', hk⟩ := blk_at hB hbi (getB_some hg (by simp)) (by simp)
          cases hk with
          | rowNil _ _ _ _ _ _ _ hLn => rw [hLn] at hjL; omega
          | row _ _ _ _ _ vs fz hfp hnil hLs hLn hzz hb hfz hvs hng hfl hr _ =>
            have hjn' : j < n := hLn ▸ hjL
            have hin : ∀ m, m < sz → j * sz + m < vs.size := fun m hm => by
              rw [hvs]
              calc j * sz + m < j * sz + sz := by omega
                _ = (j + 1) * sz := by rw [Nat.add_mul, Nat.one_mul]
                _ ≤ b.c * sz := Nat.mul_le_mul_right _ (by omega)
            have hjn : j < n := hLn ▸ hjL
            have hlen := hfl j hjn
            obtain ⟨r, v, hK, hr', hd'⟩ := load_cells (K := K) (w := w) (M := M) (β := β) hTT ht ⟨b.b, j * sz, none⟩ ((f j).map .d) off ((List.range sz).map fun m => vs[j * sz + m]?.getD undef) (by simp [hlen]) (fun m s v hs hv => by
                simp at hs
                obtain ⟨x, hx, rfl⟩ := hs
                obtain ⟨hm, rfl⟩ := rangeMap_get hv
                rw [Array.getElem?_eq_getElem (hin _ hm)]
                exact .d (hr j m x _ hjn hx (Array.getElem?_eq_getElem (hin _ hm)))) (fun v hv => by
                simp at hv
                obtain ⟨m, hm, rfl⟩ := hv
                rw [Array.getElem?_eq_getElem (hin _ hm)]
                exact oneCell_rd (hr j m _ _ hjn (List.getElem?_eq_getElem (by omega)) (Array.getElem?_eq_getElem (hin _ hm)))) (fun m v hv => by
                obtain ⟨hm, rfl⟩ := rangeMap_get hv
                rw [Array.getElem?_eq_getElem (hin _ hm)]
                rw [show (⟨b.b, j * sz, none⟩ : Addr).add m = ⟨b.b, j * sz + m, none⟩ from by unfold Addr.add; split <;> simp_all]
                simp [World.cell?, hb, Array.getElem?_eq_getElem (hin _ hm)]) h
            rw [show (⟨b.b, j * sz, none⟩ : Addr).add off = ⟨b.b, j * sz + off, none⟩ from by unfold Addr.add; split <;> simp_all] at hr'
            refine ⟨r, v, hK, ?_, hd'⟩
            simp [Instr.loadAt, Instr.sureAddr, hr']
        · exact h.elim
      · exact h.elim
    · rename_i i n off hx
      rw [hx] at hv
      cases hv with
      | ap _ n _ L hL =>
      rw [getBK_eq] at h
      split at h
      · rename_i t' dom cols hg
        obtain ⟨hdom, h⟩ := h
        rw [colsK_eq] at h
        obtain ⟨fp', hk⟩ := blk_at hB hL (getB_some hg (by simp)) (by simp)
        cases hk with
        | arena _ _ _ hfp h0 hall =>
          obtain ⟨vs, hb, hl, hd, h1⟩ := hall n hdom
          obtain ⟨r, v, hK, hr, hd'⟩ := load_cells (K := K) (w := w) (M := M) (β := β) hTT ht ⟨n, 0, none⟩ (cols.map (·.at (n + 1))) off vs.toList (by simpa using hl.symm) (fun j s u hs hu => by
              rw [List.getElem?_map, Option.map_eq_some_iff] at hs
              obtain ⟨c, hc, rfl⟩ := hs
              exact hd j c u hc (by simpa using hu)) (fun u hu => by
              obtain ⟨j, hj, rfl⟩ := List.mem_iff_getElem.1 hu
              exact h1 j _ (by simp)) (fun j u hu => by
              rw [show (⟨n, 0, none⟩ : Addr).add j = ⟨n, j, none⟩ from by unfold Addr.add; split <;> simp_all]
              simpa [World.cell?, hb] using hu) h
          rw [show (⟨n, 0, none⟩ : Addr).add off = ⟨n, off, none⟩ from by unfold Addr.add; split <;> simp_all] at hr
          refine ⟨r, v, hK, ?_, hd'⟩
          simp [Instr.loadAt, Instr.sureAddr, hr]
      · exact h.elim
    · exact h.elim

end
end Go.Eng
