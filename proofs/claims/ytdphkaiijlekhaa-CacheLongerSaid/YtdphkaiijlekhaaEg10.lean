/-
  The engine, part 10: structs that are built, builtins, calls of pure functions; `pev` is sound.
-/
import Derived.Test.YtdphkaiijlekhaaEg9
namespace Go.Eng
open Go Go.RowKit

section
variable {P : Program} {TT : Nat → Option TI} {ts : List SV} {ks : List KB} {w : World} {M : Nat → Prop} {β : Env} {a : Act} {K : SV → Prop} {o : Oper}

theorem putCells_length (l : List SV) (off : Nat) (vs : List SV) : (putCells l off vs).length = l.length := by
  induction vs generalizing l off with
  | nil => cases l <;> rfl
  | cons v vs ih => simp [putCells, ih, setT_eq]
theorem putCells_get (l : List SV) (off : Nat) (vs : List SV) (j : Nat) (hin : off + vs.length ≤ l.length) :
    (putCells l off vs)[j]? = if off ≤ j ∧ j < off + vs.length then vs[j - off]? else l[j]? := by
  induction vs generalizing l off with
  | nil =>
    have : putCells l off [] = l := by cases l <;> rfl
    rw [this]
    simp; intro _ _; omega
  | cons v vs ih =>
    simp only [List.length_cons] at hin
    simp only [putCells, List.length_cons, setT_eq]
    rw [ih (l.set off v) (off + 1) (by simp; omega)]
    by_cases h1 : off + 1 ≤ j ∧ j < off + 1 + vs.length
    · rw [if_pos h1, if_pos (by omega)]
      rw [show j - off = (j - (off + 1)) + 1 from by omega]
      simp
    · rw [if_neg h1, List.getElem?_set]
      by_cases h2 : off = j
      · subst h2
        rw [if_pos rfl, if_pos (by omega), if_pos (by omega)]
        simp
      · rw [if_neg h2, if_neg (by omega)]

/-- Cells put in place of others still stand for what is put in place of the others. -/
theorem den_put {l vs : List SV} {cs us : List Value} {off : Nat} (hl : l.length = cs.length) (hv : vs.length = us.length) (hin : off + vs.length ≤ l.length)
    (hd : ∀ (j : Nat) (s : SV) (u : Value), l[j]? = some s → cs[j]? = some u → Den w M β s u) (hd' : ∀ (j : Nat) (s : SV) (u : Value), vs[j]? = some s → us[j]? = some u → Den w M β s u) :
    (putCells l off vs).length = (blockSet cs.toArray off us).size ∧ ∀ (j : Nat) (s : SV) (u : Value), (putCells l off vs)[j]? = some s → (blockSet cs.toArray off us)[j]? = some u → Den w M β s u := by
  refine ⟨by rw [putCells_length, blockSet_size]; simpa using hl, fun j s u hs hu => ?_⟩
  rw [putCells_get _ _ _ _ hin] at hs
  rw [blockSet_get _ _ _ _ (by simp; omega)] at hu
  split at hs
  · rename_i h1
    rw [if_pos (by omega)] at hu
    exact hd' _ _ _ hs hu
  · rename_i h1
    rw [if_neg (by omega)] at hu
    exact hd _ _ _ hs (by simpa using hu)

theorem blockSet_one {cs : List Value} {us : List Value} {off : Nat} (hin : off + us.length ≤ cs.length) (h1 : ∀ u ∈ cs, u.oneCell' = true) (h2 : ∀ u ∈ us, u.oneCell' = true) (j : Nat) (u : Value) (hu : (blockSet cs.toArray off us)[j]? = some u) : u.oneCell' = true := by
  rw [blockSet_get _ _ _ _ (by simpa using hin)] at hu
  split at hu
  · exact h2 _ (List.mem_of_getElem? hu)
  · exact h1 _ (List.mem_of_getElem? (by simpa using hu))

theorem cellsK_spec {s : SV} {k : List SV → Prop} (h : cellsK s k) : k (cellsOf s) ∧ ∀ v, Den w M β s v → (cellsOf s).length = v.cells.size ∧ (∀ (j : Nat) (s' : SV) (u : Value), (cellsOf s)[j]? = some s' → v.cells[j]? = some u → Den w M β s' u) ∧ ∀ u ∈ v.cells, u.oneCell' = true := by
  have one : ∀ v : Value, v.oneCell' = true → v.cells = #[v] := fun v hv => by cases v <;> first | rfl | simp [Value.oneCell'] at hv
  have key : ∀ v, Den w M β s v → cellsOf s = [s] → v.oneCell' = true → (cellsOf s).length = v.cells.size ∧ (∀ (j : Nat) (s' : SV) (u : Value), (cellsOf s)[j]? = some s' → v.cells[j]? = some u → Den w M β s' u) ∧ ∀ u ∈ v.cells, u.oneCell' = true := by
    intro v hd hc hv
    rw [hc, one v hv]
    refine ⟨rfl, fun j s' u hs hu => ?_, by simpa using hv⟩
    cases j with
    | zero => simp at hs hu; subst_vars; exact hd
    | succ j => simp at hs
  unfold cellsK at h
  split at h
  · refine ⟨h, fun v hd => ?_⟩
    cases hd with
    | agg l vs hl hd h1 => exact ⟨by simpa [cellsOf, Value.cells] using hl, fun j s' u hs hu => hd j s' u hs (by simpa [Value.cells] using hu), by simpa [Value.cells] using h1⟩
  · exact h.elim
  · exact h.elim
  · split at h
    · rename_i x hx
      refine ⟨h, fun v hd => key v hd rfl ?_⟩
      cases hd
      exact hx
    · exact h.elim
  · rename_i h1 h2 h3 h4
    refine ⟨?_, fun v hd => key v hd ?_ ?_⟩
    · cases s <;> first | exact h | exact absurd rfl (h1 _)
    · cases s <;> first | rfl | exact absurd rfl (h1 _)
    · cases hd <;> first | rfl | exact oneCell_rd ‹_› | exact absurd rfl (h1 _) | exact absurd rfl (h2 _) | exact absurd rfl (h4 _) | exact absurd rfl h3

theorem fold_blockSet (us : List Value) : ∀ (cs : Array Value) (off k : Nat), (us.zipIdx k).foldl (fun cs (p : Value × Nat) => cs.setIfInBounds (off + p.2) p.1) cs = blockSet cs (off + k) us := by
  induction us with
  | nil => intro cs off k; rfl
  | cons u us ih =>
    intro cs off k
    simp only [List.zipIdx_cons, List.foldl_cons, blockSet]
    rw [ih]
    rfl

theorem fillK_spec (hTT : TTok P TT) (hT : ∀ x, Den w M β (val ts x) (a.eval x)) {fs : List (Nat × TypeId)} {place : Nat → Option (Nat × Nat)}
    (hp : ∀ (i off : Nat) (ft : TypeId), fs[i]? = some (off, ft) → ∃ fi, P.info? ft = some fi ∧ place i = some (off, fi.size)) :
    ∀ (parts : List (Nat × Operand)) (cs : List SV) (c : List SV → Prop) (vs : List Value), fillK TT ts fs cs parts c → cs.length = vs.length →
      (∀ (j : Nat) (s : SV) (u : Value), cs[j]? = some s → vs[j]? = some u → Den w M β s u) → (∀ u ∈ vs, u.oneCell' = true) →
      ∃ (cs' : List SV) (vs' : List Value), c cs' ∧ Instr.fill place vs.toArray (parts.map fun p => (p.1, a.eval p.2)) = some vs'.toArray ∧ cs'.length = vs'.length ∧
        (∀ (j : Nat) (s : SV) (u : Value), cs'[j]? = some s → vs'[j]? = some u → Den w M β s u) ∧ (∀ u ∈ vs', u.oneCell' = true) := by
  intro parts
  induction parts with
  | nil => intro cs c vs h hl hd h1; exact ⟨cs, vs, by simpa [fillK] using h, rfl, hl, hd, h1⟩
  | cons p parts ih =>
    obtain ⟨i, x⟩ := p
    intro cs c vs h hl hd h1
    simp only [fillK] at h
    split at h
    · exact h.elim
    · rename_i off ft hf
      rw [getF_eq] at hf
      obtain ⟨fi, hfi, hpl⟩ := hp i off ft hf
      split at h
      · exact h.elim
      · rename_i ti hti
        obtain ⟨info, d, z, hi, hu, hsz, _⟩ := find_TT hTT hti
        rw [hi] at hfi
        obtain rfl : info = fi := Option.some.inj hfi
        rw [valK_eq] at h
        obtain ⟨h, hcells⟩ := cellsK_spec (w := w) (M := M) (β := β) h
        obtain ⟨c1, c2, c3⟩ := hcells _ (hT x)
        split at h
        · rename_i hb1 hb2
          rw [lenL_eq] at hb1 hb2
          have hb1 := beq_of hb1
          have hb2 := ble_of hb2
          rw [putK_eq] at h
          have c3' : ∀ u ∈ (a.eval x).cells.toList, u.oneCell' = true := fun u hu => c3 u (by simpa using hu)
          obtain ⟨d1, d2⟩ := den_put (w := w) (M := M) (β := β) (off := off) (us := (a.eval x).cells.toList) hl (by simpa using c1) (by omega) hd (fun j s u hs hu => c2 j s u hs (by simpa using hu))
          obtain ⟨cs', vs', hc, hfill, r1, r2, r3⟩ := ih _ c (blockSet vs.toArray off (a.eval x).cells.toList).toList h (by simpa using d1) (fun j s u hs hu => d2 j s u hs (by simpa using hu)) (fun u hu => by
            obtain ⟨j, hj, rfl⟩ := List.mem_iff_getElem.1 hu
            exact blockSet_one (off := off) (us := (a.eval x).cells.toList) (by simp; omega) h1 c3' j _ (by simp))
          refine ⟨cs', vs', hc, ?_, r1, r2, r3⟩
          simp only [List.map_cons, Instr.fill, hpl]
          have hs : (a.eval x).cells.size = info.size := by omega
          rw [if_neg (by simp [hs]; omega)]
          have hfold := fold_blockSet (a.eval x).cells.toList vs.toArray off 0
          rw [Nat.add_zero] at hfold
          have hz : (a.eval x).cells.zipIdx.foldl (fun cs (x : Value × Nat) => cs.setIfInBounds (off + x.2) x.1) vs.toArray = blockSet vs.toArray off (a.eval x).cells.toList := by
            rw [← hfold, ← Array.foldl_toList]
            simp
          rw [hz]
          simpa using hfill
        · exact h.elim

theorem places_some {fields : List Field} (h : ∀ f ∈ fields, ∃ i, P.info? f.type = some i) : ∃ pl : List (Nat × Nat), fields.mapM (fun f => (P.info? f.type).map fun i => (f.offset, i.size)) = some pl ∧ ∀ (j : Nat) (f : Field) (i : TypeInfo), fields[j]? = some f → P.info? f.type = some i → pl[j]? = some (f.offset, i.size) := by
  induction fields with
  | nil => exact ⟨[], rfl, by simp⟩
  | cons f fields ih =>
    obtain ⟨i, hi⟩ := h f (by simp)
    obtain ⟨pl, hpl, hg⟩ := ih (fun g hg => h g (by simp [hg]))
    refine ⟨(f.offset, i.size) :: pl, by simp [List.mapM_cons, hi, hpl], fun j g i' hj hi' => ?_⟩
    cases j with
    | zero => simp at hj; subst hj; rw [hi] at hi'; cases hi'; rfl
    | succ j => simpa using hg j g i' (by simpa using hj) hi'

theorem arrFs_get (n off size : Nat) (e : TypeId) (i o : Nat) (ft : TypeId) (h : (arrFs n off size e)[i]? = some (o, ft)) : o = off + i * size ∧ ft = e := by
  induction n generalizing off i with
  | zero => simp [arrFs] at h
  | succ n ih => cases i with
    | zero => simp [arrFs] at h; exact ⟨by simp [h.1], h.2.symm⟩
    | succ i =>
      obtain ⟨a, b⟩ := ih (off + size) i (by simpa [arrFs] using h)
      exact ⟨by rw [a, Nat.add_mul, Nat.one_mul]; omega, b⟩

theorem pev_build (hTT : TTok P TT) (hT : ∀ x, Den w M β (val ts x) (a.eval x)) {t : TypeId} {parts : Array (Nat × Operand)} (ho : o.op = .build t parts) (h : pev P TT ts ks (.build t parts) K) : Ran P o a w M β K := by
  unfold Ran
  simp only [execOp, ho]
  simp only [pev] at h
  split at h
  · rename_i size bytes zero fs eqk ht
    obtain ⟨info, d, z, hi, hu, hsz, _, hz, hag, hzl, hzs, hzd, hz1, fields, rfl, hfsz, hfs⟩ := find_TT hTT ht
    obtain ⟨pl, hpl, hplg⟩ := places_some (P := P) (fields := fields.toList) (fun f hf => by
      obtain ⟨j, hj, rfl⟩ := List.mem_iff_getElem.1 hf
      have hj' : j < fs.length := by rw [← hfsz]; simpa using hj
      obtain ⟨f, fi, hf, ho, hty, hfi, _⟩ := hfs j _ _ (List.getElem?_eq_getElem hj')
      have : fields.toList[j] = f := by
        have h2 : fields[j]? = some (fields.toList[j]) := by simp at hj; simp [hj]
        rw [hf] at h2
        exact (Option.some.inj h2).symm
      rw [this, hty]
      exact ⟨fi, hfi⟩)
    obtain ⟨cs', vs', hK, hfill, r1, r2, r3⟩ := fillK_spec (w := w) (M := M) (β := β) (a := a) hTT hT (place := fun i => pl.toArray[i]?) (fun i off ft hf => by
        obtain ⟨f, fi, hf', hof, hty, hfi, _⟩ := hfs i off ft hf
        refine ⟨fi, hfi, ?_⟩
        have := hplg i f fi (by simpa using hf') (by rw [hty]; exact hfi)
        simpa [hof] using this) parts.toList zero _ z.cells.toList h (by simpa using hzl.symm) (fun j s u hs hu => hzd w M β j s u hs (by simpa using hu)) (fun u hu => by
        obtain ⟨j, hj, rfl⟩ := List.mem_iff_getElem.1 hu
        exact hz1 j _ (by simp))
    refine ⟨_, .agg vs'.toArray, hK, ?_, .agg _ _ r1 r2 r3⟩
    have hb : P.built t (parts.map fun (i, x) => (i, a.eval x)).toList = some vs'.toArray := by
      simp only [Program.built, hi, hu, hz, hpl]
      rw [← hfill]
      simp
    simp [run_build w t _ _ hb]
  · rename_i size bytes zero n e eqk ht
    split at h
    · rename_i size' bytes' agg' zero' desc' eqk' hte
      obtain ⟨info, d, z, hi, hu, hsz, _, hz, hag, hzl, hzs, hzd, hz1, hd⟩ := find_TT hTT ht
      cases hd
      obtain ⟨infoe, de, ze, hie, hue, hsze, _⟩ := find_TT hTT hte
      simp only at hsze
      obtain ⟨cs', vs', hK, hfill, r1, r2, r3⟩ := fillK_spec (w := w) (M := M) (β := β) (a := a) hTT hT (place := fun i => some (i * size', size')) (fun i off ft hf => by
          obtain ⟨h1, h2⟩ := arrFs_get n 0 size' e i off ft hf
          subst h2
          exact ⟨infoe, hie, by rw [h1, hsze]; simp⟩) parts.toList zero _ z.cells.toList h (by simpa using hzl.symm) (fun j s u hs hu => hzd w M β j s u hs (by simpa using hu)) (fun u hu => by
          obtain ⟨j, hj, rfl⟩ := List.mem_iff_getElem.1 hu
          exact hz1 j _ (by simp))
      refine ⟨_, .agg vs'.toArray, hK, ?_, .agg _ _ r1 r2 r3⟩
      have hb : P.built t (parts.map fun (i, x) => (i, a.eval x)).toList = some vs'.toArray := by
        simp only [Program.built, hi, hu, hz, hie, hsze]
        rw [← hfill]
        simp
      simp [run_build w t _ _ hb]
    · exact h.elim
  · exact h.elim

theorem run_getObjM {b : Nat} {es : Array MapEntry} {clock : Nat} (h : w.heap[b]? = some (.map es clock)) : (getObj b).run P w = .ok (.map es clock) w := by simp [getObj, Sem.run, h]

theorem pev_builtin (hTT : TTok P TT) (hT : ∀ x, Den w M β (val ts x) (a.eval x)) (hB : ∀ (i : Nat) (L : Loc) (k : KB), ks[i]? = some k → k ≠ .gone → β i = some L → ∃ fp, KBat w M β L fp k) {b : Builtin} {args : Array Operand} {argTypes : Array TypeId} (ho : o.op = .call ⟨.builtin b, args, argTypes⟩) (h : pev P TT ts ks (.call ⟨.builtin b, args, argTypes⟩) K) : Ran P o a w M β K := by
  unfold Ran
  simp only [execOp, ho]
  simp only [pev, valK_eq] at h
  obtain ⟨args⟩ := args
  obtain ⟨argTypes⟩ := argTypes
  simp only at h
  split at h
  · rename_i x
    split at h
    · rename_i t
      split at h
      · exact h.elim
      · rename_i size bytes agg zero desc eqk ht
        have hv := hT x
        split at h
        · obtain ⟨info, d, z, hi, hu, _, _, _, _, _, _, _, _, hd⟩ := find_TT hTT ht
          cases hd
          exact ⟨_, _, h, by simp [resolve, invoke, builtin, Builtin.len_, run_underlying hu, goInt], .d (.int _ _)⟩
        · obtain ⟨info, d, z, hi, hu, _, _, _, _, _, _, _, _, hd⟩ := find_TT hTT ht
          cases hd
          split at h
          · rename_i s hx; rw [hx] at hv; have ev := den_str hv
            exact ⟨_, _, h, by simp [resolve, invoke, builtin, Builtin.len_, run_underlying hu, goInt, ev, strV, size_str], .d (.int _ _)⟩
          · exact h.elim
        · obtain ⟨info, d, z, hi, hu, _, _, _, _, _, _, _, _, hd⟩ := find_TT hTT ht
          cases hd
          split at h
          · rename_i nil n sz f hx; rw [hx] at hv
            have ev : ∃ ad cap, a.eval x = .slice ad n cap := by
              generalize a.eval x = av at hv
              cases den_data hv
              · exact ⟨_, _, rfl⟩
              · exact ⟨_, _, rfl⟩
            obtain ⟨ad, cap, ev⟩ := ev
            exact ⟨_, _, h, by simp [resolve, invoke, builtin, Builtin.len_, run_underlying hu, goInt, ev], .d (.int _ _)⟩
          · rename_i i hx; rw [hx] at hv
            rw [getBK_eq] at h
            split at h
            · rename_i e' sz n z' f hg
              have ev : ∃ ad cap, a.eval x = .slice ad n cap := by
                generalize a.eval x = av at hv
                cases hv with
                | allNil _ L hbi hnil =>
                  obtain ⟨fp', hk⟩ := blk_at hB hbi (getB_some hg (by simp)) (by simp)
                  cases hk with
                  | rowNil => exact ⟨_, _, rfl⟩
                  | row _ _ _ _ _ vs fz hfp hnil' => rw [hnil] at hnil'; cases hnil'
                | all _ L hbi hnil =>
                  obtain ⟨fp', hk⟩ := blk_at hB hbi (getB_some hg (by simp)) (by simp)
                  cases hk with
                  | rowNil _ _ _ _ _ hnil' => rw [hnil] at hnil'; cases hnil'
                  | row _ _ _ _ _ vs fz hfp _ hLs hLn => rw [hLn]; exact ⟨_, _, rfl⟩
              obtain ⟨ad, cap, ev⟩ := ev
              exact ⟨_, _, h, by simp [resolve, invoke, builtin, Builtin.len_, run_underlying hu, goInt, ev], .d (.int _ _)⟩
            · exact h.elim
          · rename_i i lo n hx; rw [hx] at hv
            have ev : ∃ ad cap, a.eval x = .slice ad n cap := by
              generalize a.eval x = av at hv
              cases hv <;> exact ⟨_, _, rfl⟩
            obtain ⟨ad, cap, ev⟩ := ev
            exact ⟨_, _, h, by simp [resolve, invoke, builtin, Builtin.len_, run_underlying hu, goInt, ev], .d (.int _ _)⟩
          · rename_i i off n c hx; rw [hx] at hv
            have ev : ∃ ad cap, a.eval x = .slice ad n cap := by
              generalize a.eval x = av at hv
              cases hv; exact ⟨_, _, rfl⟩
            obtain ⟨ad, cap, ev⟩ := ev
            exact ⟨_, _, h, by simp [resolve, invoke, builtin, Builtin.len_, run_underlying hu, goInt, ev], .d (.int _ _)⟩
          · exact h.elim
        · obtain ⟨info, d, z, hi, hu, _, _, _, _, _, _, _, _, hd⟩ := find_TT hTT ht
          cases hd
          split at h
          · rename_i i hx; rw [hx] at hv
            rw [getBK_eq] at h
            split at h
            · rename_i eks ka ea l hg
              have ev : ∃ L, a.eval x = .map (some L.b) ∧ β i = some L := by
                generalize a.eval x = av at hv
                cases hv with
                | map _ L hL => exact ⟨L, rfl, hL⟩
              obtain ⟨L, ev, hL⟩ := ev
              obtain ⟨fp', hk⟩ := blk_at hB hL (getB_some hg (by simp)) (by simp)
              cases hk with
              | map _ _ _ _ es clock hfp hb hl _ =>
                refine ⟨_, _, h, ?_, .d (.int _ _)⟩
                have hob : (getObj L.b).run P w = .ok (.map es clock) w := run_getObjM hb
                simp [resolve, invoke, builtin, Builtin.len_, run_underlying hu, goInt, hl, ev, hob]
            · exact h.elim
          · rename_i hx; rw [hx] at hv
            have ev : a.eval x = .map none := by
              generalize a.eval x = av at hv
              cases hv; rfl
            exact ⟨_, _, h, by simp [resolve, invoke, builtin, Builtin.len_, run_underlying hu, goInt, ev], .d (.int _ _)⟩
          · exact h.elim
        · exact h.elim
    · exact h.elim
  · rename_i x y
    have hv := hT x
    have hw := hT y
    split at h
    · rename_i k p k' q hx hy
      rw [hx] at hv; rw [hy] at hw
      have e1 := den_int hv
      have e2 := den_int hw
      split at h
      · exact ⟨_, _, h, by simp [resolve, invoke, builtin, Builtin.min_, Builtin.min2, e1, e2], .d (.int _ _)⟩
      · exact h.elim
    · exact h.elim
  · rename_i x y
    have hv := hT x
    have hw := hT y
    split at h
    · rename_i k p k' q hx hy
      rw [hx] at hv; rw [hy] at hw
      have e1 := den_int hv
      have e2 := den_int hw
      split at h
      · exact ⟨_, _, h, by simp [resolve, invoke, builtin, Builtin.max_, Builtin.max2, e1, e2], .d (.int _ _)⟩
      · exact h.elim
    · exact h.elim
  · exact h.elim

end
end Go.Eng
