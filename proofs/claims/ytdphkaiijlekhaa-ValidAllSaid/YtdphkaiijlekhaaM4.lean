/-
  The engine, part 27: what a row's reading says, as data. The engine, part 28: a law's row out of its contract. The engine, part D: a contract over few known blocks, used where many are known; a run that begins with a family without blocks. The engine, part E: contracts at arguments, and with results, that read alike, inside of aggregates too. The engine, part F: a contract over known blocks where these lie one behind another among others. The engine, part G: at a contract's end, an empty nil slice in a cell taken as a row. The engine, part H: a thing of several blocks as one known block: its first block is its root; nobody else points into the others. The engine, part L: a function that makes a closure over one box of its own: as data.
-/
import Derived.ChangeArms
import Derived.OpenShut
import Derived.ReadAgain
import Derived.DataElems
import Derived.ProofKit
import Derived.ChangeSame
import Derived.Test.YtdphkaiijlekhaaM3
set_option linter.unusedVariables false
set_option linter.unusedSimpArgs false
namespace Go.Eng
open Go Go.RowKit

/-- Data of a type: the integers within their kind, the lengths within a machine's. -/
inductive DT (P : Program) : TypeId → List DV → Prop where
  | int (t : TypeId) (k : IntKind) (n : Int) : P.underlying t = some (.int k) → (Lit.int k n).wf = true → DT P t [.int k n]
  | bool (t : TypeId) (b : Bool) : P.underlying t = some .bool → DT P t [.bool b]
  | str (t : TypeId) (s : List UInt8) : P.underlying t = some .string → s.length ≤ maxLen → DT P t [.str s]
  | nil (t e : TypeId) : P.underlying t = some (.slice e) → DT P t [.sl true 0 (P.cellsOf e) (fun _ => [])]
  | sl (t e : TypeId) (n : Nat) (f : Nat → List DV) : P.underlying t = some (.slice e) → n ≤ maxLen → (∀ i, i < n → DT P e (f i)) → DT P t [.sl false n (P.cellsOf e) f]
  | struct (t : TypeId) (fs : Array Field) (ds : List DV) : P.underlying t = some (.struct fs) → ds.length = P.cellsOf t → (∀ f ∈ fs.toList, DT P f.type ((ds.drop f.offset).take (P.cellsOf f.type))) → DT P t ds
  | array (t e : TypeId) (n : Nat) (ds : List DV) : P.underlying t = some (.array n e) → ds.length = P.cellsOf t → (∀ i, i < n → DT P e ((ds.drop (i * P.cellsOf e)).take (P.cellsOf e))) → DT P t ds

/-- A type of numbers, bools, texts, slices, structs and arrays. -/
def simple (P : Program) : Nat → TypeId → Bool
  | 0, _ => false
  | n + 1, t => match P.underlying t with
    | some (.int _) => true
    | some .bool => true
    | some .string => true
    | some (.slice e) => simple P n e
    | some (.struct fs) => fs.toList.all (fun f => simple P n f.type)
    | some (.array _ e) => simple P n e
    | _ => false

section
variable {H : Type} {enc : TypeId × Value → H} {P : Program} {w : World} {T : TypeId → Prop}

theorem add_block (a : Addr) (n : Nat) : (a.add n).block = a.block := by unfold Addr.add; split <;> rfl
theorem sum_const (c : Nat) : ∀ j, ((List.range j).map (fun _ => c)).sum = j * c
  | 0 => by simp
  | j + 1 => by rw [List.range_succ, List.map_append, List.sum_append, sum_const c j, Nat.add_mul]; simp

/-- Pieces that lie one behind another. -/
theorem glue {M : Nat → Prop} : ∀ (ps : List (Nat × Nat × TypeId)) (off : Nat) (cs : List Value), (∀ (j : Nat) (p : Nat × Nat × TypeId), ps[j]? = some p → p.1 = off + ((ps.take j).map (·.2.1)).sum) →
    (∀ p ∈ ps, ∃ ds, DT P p.2.2 ds ∧ ds.length = p.2.1 ∧ ∀ (q : Nat) (d : DV) (v : Value), ds[q]? = some d → cs[p.1 + q]? = some v → Rd w M d v) →
    ∃ ds : List DV, ds.length = (ps.map (·.2.1)).sum ∧ (∀ p ∈ ps, off ≤ p.1 ∧ DT P p.2.2 ((ds.drop (p.1 - off)).take p.2.1)) ∧ ∀ (q : Nat) (d : DV) (v : Value), ds[q]? = some d → cs[off + q]? = some v → Rd w M d v
  | [], off, cs, _, _ => ⟨[], rfl, fun _ h => (by cases h), fun q d v h => (by simp at h)⟩
  | (o, n, t) :: ps, off, cs, ho, h => by
    have h0 : o = off := by simpa using ho 0 _ rfl
    subst h0
    obtain ⟨d1, t1, l1, r1⟩ := h _ (List.mem_cons_self ..)
    simp only at t1 l1 r1
    obtain ⟨d2, l2, t2, r2⟩ := glue ps (o + n) cs (fun j p hp => by
      have := ho (j + 1) p (by simpa using hp)
      simp only [List.take_succ_cons, List.map_cons, List.sum_cons] at this
      omega) (fun p hp => h p (List.mem_cons_of_mem _ hp))
    refine ⟨d1 ++ d2, by simp [l1, l2], fun p hp => ?_, fun q d v hd hv => ?_⟩
    · rcases List.mem_cons.1 hp with rfl | hp
      · refine ⟨Nat.le_refl _, ?_⟩
        simp only [Nat.sub_self, List.drop_zero]
        rw [List.take_append_of_le_length (by omega), List.take_of_length_le (by omega)]
        exact t1
      · obtain ⟨hle, ht⟩ := t2 p hp
        refine ⟨by omega, ?_⟩
        rw [List.drop_append, List.drop_of_length_le (by omega), List.nil_append, l1, show p.1 - o - n = p.1 - (o + n) from by omega]
        exact ht
    · rcases Nat.lt_or_ge q n with hq | hq
      · rw [List.getElem?_append_left (by omega)] at hd
        exact r1 q d v hd hv
      · rw [List.getElem?_append_right (by omega), l1] at hd
        exact r2 (q - n) d v hd (by rw [show o + n + (q - n) = o + q from by omega]; exact hv)

theorem trod_dt (K : Kids P T) (hz : ∀ t e, T t → P.underlying t = some (.slice e) → 0 < P.cellsOf e) {sp : Nat → Bool} {hd : Bool} : ∀ (m n : Nat) (t : TypeId) (cs : List Value) (x : DataW H × List MemPlace), simple P m t = true → T t →
    DataW.trod enc P w 0 sp hd n t cs = some x → ∃ ds, DT P t ds ∧ ds.length = cs.length ∧ ∀ (q : Nat) (d : DV) (v : Value), ds[q]? = some d → cs[q]? = some v → Rd w (fun _ => False) d v := by
  intro m
  induction m with
  | zero => intro n t cs x hs; cases hs
  | succ m ih =>
    intro n t cs x hs hT h
    unfold simple at hs
    split at hs
    · rename_i k hu
      obtain ⟨i, rfl, _, hw⟩ := DataW.trod_int hu h
      exact ⟨[.int k i], .int t k i hu hw, rfl, fun q d v hd hv => by
        cases q with
        | zero => simp at hd hv; subst hd hv; exact .int k i
        | succ q => simp at hd⟩
    · rename_i hu
      obtain ⟨b, rfl, _⟩ := DataW.trod_bool hu h
      exact ⟨[.bool b], .bool t b hu, rfl, fun q d v hd hv => by
        cases q with
        | zero => simp at hd hv; subst hd hv; exact .bool b
        | succ q => simp at hd⟩
    · rename_i hu
      obtain ⟨s, rfl, _, hl⟩ := DataW.trod_string hu h
      exact ⟨[.str s.data.toList], .str t _ hu (by rw [Array.length_toList]; exact hl), rfl, fun q d v hd hv => by
        cases q with
        | zero =>
          simp at hd hv
          subst hd hv
          have := Rd.str (w := w) (M := fun _ => False) s.data.toList
          simpa [strV] using this
        | succ q => simp at hd⟩
    · rename_i e hu
      rcases DataW.trod_slice hu h with ⟨rfl, _⟩ | ⟨a, len, cap, elems, rest, n', rfl, rfl, _, _, hlc, hcm, hel, hat, _, _⟩
      · exact ⟨_, .nil t e hu, rfl, fun q d v hd hv => by
          cases q with
          | zero => simp at hd hv; subst hd hv; exact .nil _ _
          | succ q => simp at hd⟩
      · have hpos := hz t e hT hu
        have each : ∀ i, i < len → ∃ ds : List DV, DT P e ds ∧ ds.length = P.cellsOf e ∧ (∀ (q : Nat) (d : DV), ds[q]? = some d → ∃ v, w.cell? (a.add (i * P.cellsOf e + q)) = some v ∧ Rd w (fun _ => False) d v) ∧ a.block < w.heap.size := fun i hi => by
          have h1 := hat i hi
          rw [List.getElem?_eq_getElem (by omega)] at h1
          obtain ⟨cs', hc, hx⟩ := Option.bind_eq_some_iff.1 h1
          obtain ⟨ds, h2, h3, h4⟩ := ih n' e cs' _ hs (K.slice hT hu) hx
          obtain ⟨_, h5, h6⟩ := World.cells?_some hc
          refine ⟨ds, h2, by omega, fun q d hd => ?_, by have := World.cells?_block hc hpos; rwa [add_block] at this⟩
          have hq : q < cs'.length := by have := (List.getElem?_eq_some_iff.1 hd).1; omega
          refine ⟨cs'[q], ?_, h4 q d _ hd (List.getElem?_eq_getElem hq)⟩
          have := h6 q (by omega)
          rw [List.getElem?_eq_getElem hq] at this
          rw [← this, Addr.add_add]
        let f : Nat → List DV := fun i => if hi : i < len then (each i hi).choose else []
        have hf : ∀ i (hi : i < len), f i = (each i hi).choose := fun i hi => by simp [f, hi]
        refine ⟨[.sl false len (P.cellsOf e) f], .sl t e len f hu (Nat.le_trans hlc hcm) (fun i hi => by rw [hf i hi]; exact (each i hi).choose_spec.1), rfl, fun q d v hd hv => ?_⟩
        cases q with
        | succ q => simp at hd
        | zero =>
          simp at hd hv
          subst hd hv
          refine .sl len (P.cellsOf e) f a cap (fun i q => (w.cell? (a.add (i * P.cellsOf e + q))).getD undef) hlc (fun hp => ⟨(each 0 hp).choose_spec.2.2.2, fun h => h⟩) (fun i hi => by rw [hf i hi]; exact (each i hi).choose_spec.2.1) (fun i q d hi hd => ?_) (fun i q d hi hd => ?_)
          · rw [hf i hi] at hd
            obtain ⟨v, hv, _⟩ := (each i hi).choose_spec.2.2.1 q d hd
            simp [hv]
          · rw [hf i hi] at hd
            obtain ⟨v, hv, hr⟩ := (each i hi).choose_spec.2.2.1 q d hd
            simpa [hv] using hr
    · rename_i fs hu
      obtain ⟨xs, n', rfl, _, hl, hxl, hat⟩ := DataW.trod_struct hu h
      obtain ⟨k1, k2, k3⟩ := K.struct hT hu
      obtain ⟨ds, l, ht, hr⟩ := glue (P := P) (w := w) (M := fun _ => False) (fs.toList.map fun f => (f.offset, P.cellsOf f.type, f.type)) 0 cs (fun j p hp => by
        rw [List.getElem?_map] at hp
        obtain ⟨f, hf, rfl⟩ := Option.map_eq_some_iff.1 hp
        have := k3 j f hf
        rw [← List.map_take, List.map_map]
        simpa [Function.comp_def] using this) (fun p hp => by
        obtain ⟨f, hf, rfl⟩ := List.mem_map.1 hp
        obtain ⟨i, hi, hfi⟩ := List.mem_iff_getElem.1 hf
        have h1 := hat i f (by simpa using (List.getElem?_eq_some_iff.2 ⟨hi, hfi⟩))
        rw [List.getElem?_eq_getElem (by simp at hi; omega)] at h1
        obtain ⟨ds, a1, a2, a3⟩ := ih n' f.type _ _ (List.all_eq_true.1 hs f hf) (k1 f hf) h1
        have hsum : f.offset + P.cellsOf f.type ≤ cs.length := by
          have e1 := k3 i f (List.getElem?_eq_some_iff.2 ⟨hi, hfi⟩)
          rw [hl, k2]
          have : fs.toList = fs.toList.take i ++ (f :: fs.toList.drop (i + 1)) := by
            rw [← hfi, ← List.drop_eq_getElem_cons hi, List.take_append_drop]
          conv => rhs; rw [this]
          simp only [List.map_append, List.map_cons, List.sum_append, List.sum_cons]
          omega
        refine ⟨ds, a1, ?_, fun q d v hd hv => ?_⟩
        · rw [a2]; simp; omega
        · have hq : q < P.cellsOf f.type := by
            have := (List.getElem?_eq_some_iff.1 hd).1
            rw [a2] at this
            simp at this
            omega
          refine a3 q d v hd ?_
          rw [List.getElem?_take, if_pos hq, List.getElem?_drop]
          exact hv)
      rw [List.map_map] at l
      have l' : ds.length = P.cellsOf t := by rw [l, k2]; rfl
      exact ⟨ds, .struct t fs ds hu l' (fun f hf => by simpa using (ht _ (List.mem_map.2 ⟨f, hf, rfl⟩)).2), by omega, fun q d v hd hv => hr q d v hd (by simpa using hv)⟩
    · rename_i k e hu
      obtain ⟨xs, n', rfl, _, hl, hxl, hat⟩ := DataW.trod_array hu h
      obtain ⟨k1, k2⟩ := K.array hT hu
      obtain ⟨ds, l, ht, hr⟩ := glue (P := P) (w := w) (M := fun _ => False) ((List.range k).map fun i => (i * P.cellsOf e, P.cellsOf e, e)) 0 cs (fun j p hp => by
        rw [List.getElem?_map] at hp
        obtain ⟨i, hi, rfl⟩ := Option.map_eq_some_iff.1 hp
        obtain ⟨hj, rfl⟩ := List.getElem?_eq_some_iff.1 hi
        simp at hj
        rw [← List.map_take, List.map_map, List.take_range, Nat.min_eq_left (by omega)]
        simp only [Function.comp_def, sum_const, List.getElem_range, Nat.zero_add]) (fun p hp => by
        obtain ⟨i, hi, rfl⟩ := List.mem_map.1 hp
        have hi := List.mem_range.1 hi
        have h1 := hat i hi
        rw [List.getElem?_eq_getElem (by omega)] at h1
        obtain ⟨ds, a1, a2, a3⟩ := ih n' e _ _ hs k1 h1
        have hsum : i * P.cellsOf e + P.cellsOf e ≤ cs.length := by
          rw [hl, k2]
          calc i * P.cellsOf e + P.cellsOf e = (i + 1) * P.cellsOf e := by rw [Nat.add_mul, Nat.one_mul]
            _ ≤ k * P.cellsOf e := Nat.mul_le_mul_right _ hi
        refine ⟨ds, a1, ?_, fun q d v hd hv => ?_⟩
        · rw [a2]; simp; omega
        · have hq : q < P.cellsOf e := by
            have := (List.getElem?_eq_some_iff.1 hd).1
            rw [a2] at this
            simp at this
            omega
          refine a3 q d v hd ?_
          rw [List.getElem?_take, if_pos hq, List.getElem?_drop]
          exact hv)
      rw [List.map_map] at l
      have l' : ds.length = P.cellsOf t := by rw [l, k2]; simp only [Function.comp_def, sum_const]
      exact ⟨ds, .array t e k ds hu l' (fun i hi => by simpa using (ht _ (List.mem_map.2 ⟨i, List.mem_range.2 hi, rfl⟩)).2), by omega, fun q d v hd hv => hr q d v hd (by simpa using hv)⟩
    · cases hs
end
end Go.Eng
namespace Go.Eng
open Go Go.RowKit Go.ChangeShapes Go.WideShapes

def oneSV : List DV → SV
  | [d] => .d d
  | _ => .any
/-- An argument, by its data. -/
def argSV (P : Program) (t : TypeId) (ds : List DV) : SV :=
  match P.underlying t with
  | some (.struct _) => .agg (ds.map SV.d)
  | some (.array _ _) => .agg (ds.map SV.d)
  | _ => oneSV ds
def argsSV (P : Program) : List TypeId → List (List DV) → List SV
  | t :: ts, d :: ds => argSV P t d :: argsSV P ts ds
  | _, _ => []
def DTs (P : Program) : List TypeId → List (List DV) → Prop
  | [], [] => True
  | t :: ts, d :: ds => DT P t d ∧ DTs P ts ds
  | _, _ => False

section
variable {H : Type} {enc : TypeId × Value → H} {P : Program} {w : World} {T : TypeId → Prop}

theorem den_of_trod (K : Kids P T) (hz : ∀ t e, T t → P.underlying t = some (.slice e) → 0 < P.cellsOf e) {sp : Nat → Bool} {hd : Bool} {m : Nat} {t : TypeId} {v : Value} {d : DataW H} {ps : List MemPlace} {r : Reach} {b0 : Nat}
    (hs : simple P m t = true) (hT : T t) (hval : Value.okWide P w r b0 t v) (h : DataW.Trod enc P w 0 sp hd t v d ps) : ∃ ds, DT P t ds ∧ Den w (fun _ => False) noE (argSV P t ds) v := by
  obtain ⟨n, hn⟩ := h
  obtain ⟨ds, h1, h2, h3⟩ := trod_dt K hz m n t _ _ hs hT hn
  refine ⟨ds, h1, ?_⟩
  have agg : ∀ cs : Array Value, v = .agg cs → Den w (fun _ => False) noE (.agg (ds.map SV.d)) v := fun cs hv => by
    subst hv
    have := Den.agg (w := w) (M := fun _ => False) (β := noE) (ds.map SV.d) cs.toList (by simpa [Value.cells] using h2) (fun j s u hs hu => by
      rw [List.getElem?_map] at hs
      obtain ⟨x, hx, rfl⟩ := Option.map_eq_some_iff.1 hs
      exact .d (h3 j x u hx hu)) (fun u hu => by
      obtain ⟨j, hj, rfl⟩ := List.mem_iff_getElem.1 hu
      have hl : j < ds.length := by rw [h2]; exact hj
      exact oneCell_rd (h3 j ds[j] _ (List.getElem?_eq_getElem hl) (List.getElem?_eq_getElem hj)))
    simpa using this
  have one : v.cells.toList = [v] → Den w (fun _ => False) noE (oneSV ds) v := fun hc => by
    unfold oneSV
    split
    · exact .d (h3 0 _ v rfl (by rw [hc]; rfl))
    · exact .any _
  unfold argSV
  unfold Value.okWide at hval
  split at hval
  · rename_i hu
    obtain ⟨cs, hv, _⟩ := hval
    simp only [hu]
    exact agg cs hv
  · rename_i hu
    obtain ⟨cs, hv, _⟩ := hval
    simp only [hu]
    exact agg cs hv
  · rename_i hn1 hn2
    have hc : v.cells.toList = [v] := by
      cases hu : P.underlying t with
      | none => cases m <;> simp [simple, hu] at hs
      | some td =>
        simp only [Cell.okWide, hu] at hval
        cases td <;> first
          | (cases m <;> simp [simple, hu] at hs; done)
          | exact absurd hu (hn1 _)
          | exact absurd hu (hn2 _ _)
          | (cases v <;> first | rfl | (simp [Cell.ok] at hval))
    split
    · rename_i hu; exact absurd hu (hn1 _)
    · rename_i hu; exact absurd hu (hn2 _ _)
    · exact one hc

theorem dens_of_trod (K : Kids P T) (hz : ∀ t e, T t → P.underlying t = some (.slice e) → 0 < P.cellsOf e) {sp : Nat → Bool} {hd : Bool} {m : Nat} {r : Reach} {b0 : Nat} : ∀ (ts : List TypeId) (vs : List Value) (ds : List (DataW H)) (ps : List MemPlace),
    (∀ t ∈ ts, simple P m t = true ∧ T t) → (∀ (j : Nat) (t : TypeId) (v : Value), ts[j]? = some t → vs[j]? = some v → Value.okWide P w r b0 t v) → DataW.TrodAll enc P w 0 sp hd ts vs ds ps →
    ∃ dss, DTs P ts dss ∧ (argsSV P ts dss).length = vs.length ∧ ∀ (j : Nat) (s : SV) (u : Value), (argsSV P ts dss)[j]? = some s → vs[j]? = some u → Den w (fun _ => False) noE s u
  | [], [], [], _, _, _, _ => ⟨[], True.intro, rfl, fun j s u hs => by simp [argsSV] at hs⟩
  | t :: ts, v :: vs, d :: ds, _, hs, hv, ⟨p, q, h1, h2, _⟩ => by
    obtain ⟨x, a1, a2⟩ := den_of_trod K hz (hs t (List.mem_cons_self ..)).1 (hs t (List.mem_cons_self ..)).2 (hv 0 t v rfl rfl) h1
    obtain ⟨xs, b1, b2, b3⟩ := dens_of_trod K hz ts vs ds q (fun t ht => hs t (List.mem_cons_of_mem _ ht)) (fun j t v ht hv' => hv (j + 1) t v (by simpa using ht) (by simpa using hv')) h2
    refine ⟨x :: xs, ⟨a1, b1⟩, by simp [argsSV, b2], fun j s u hs hu => ?_⟩
    cases j with
    | zero => simp [argsSV] at hs hu; subst hs hu; exact a2
    | succ j => exact b3 j s u (by simpa [argsSV] using hs) (by simpa using hu)

theorem trodAll_carry {w' : World} {sp : Nat → Bool} {hd : Bool} {base : Nat} : ∀ (ts : List TypeId) (vs : List Value) (ds : List (DataW H)) (ps : List MemPlace), DataW.TrodAll enc P w base sp hd ts vs ds ps → (∀ p ∈ ps, w.sameAt w' p) → DataW.TrodAll enc P w' base sp hd ts vs ds ps
  | [], [], [], _, h, _ => h
  | _ :: ts, _ :: vs, _ :: ds, _, ⟨p, q, ⟨n, h1⟩, h2, e⟩, hs => ⟨p, q, ⟨n, DataW.trod_carry n _ _ _ h1 (fun x hx => hs x (by rw [e]; exact List.mem_append_left _ hx))⟩, trodAll_carry ts vs ds q h2 (fun x hx => hs x (by rw [e]; exact List.mem_append_right _ hx)), e⟩

theorem keptBut_of_step {W W' : World} (h : Step (fun _ => False) W W') (may : MemPlace → Prop) : W.keptBut W' may := by
  refine ⟨h.os, h.output, fun i hi => ?_⟩
  rw [h.block i hi (fun h => h)]
  split
  · rename_i h1 h2; rw [h1] at h2; cases h2; exact ⟨rfl, rfl, rfl, fun _ _ => rfl⟩
  · rename_i h1 h2; rw [h1] at h2; cases h2; exact .inr ⟨rfl, rfl⟩
  · rfl

theorem post_of_step (K : Kids P T) (hz : ∀ t e, T t → P.underlying t = some (.slice e) → 0 < P.cellsOf e) {f : Func} {s : ChangeSpec} {apart fresh handsOn again : Bool} {W W' : World} {args : Array Value} {ds gs : List (DataW H)} {before : List MemPlace} {tb : TypeId}
    (hT : ∀ t ∈ f.params.toList, T t) (hvars : s.vars = []) (hW : DataW.Whole enc P f.params.toList s.vars apart W args.toList ds gs before) (hst : Step (fun _ => False) W W') (hrt : f.resultTypes = #[tb]) (hb : P.underlying tb = some .bool)
    (hfn : (s.fn H ds).results = [.lit (.bool true)] ∧ (s.fn H ds).args = ds ∧ (s.fn H ds).vars = []) : s.post enc P f apart fresh handsOn again W args (.bool true) W' := by
  have hlt := hW.lt
  have hW' := hW
  obtain ⟨p, q, hA, hV, rfl, hfz, hnd⟩ := hW
  rw [hvars] at hV
  obtain ⟨rfl, rfl⟩ := trodVars_none hV
  simp only [List.append_nil] at hlt hfz hnd
  have hsame : ∀ x ∈ p, W.sameAt W' x := fun x hx => by
    have := hst.block x.block (hlt x hx) (fun h => h)
    cases x with
    | cell b off => simp only [World.sameAt, World.cell?]; simp only [MemPlace.block] at this; rw [this]
    | map b => exact this
  have hre : ∀ sp : Nat → Bool, (∀ x ∈ p, sp x.block = true) → DataW.TrodAll enc P W' 0 sp true f.params.toList args.toList ds p := fun sp hsp =>
    DataW.TrodAll.respare K hz hT (trodAll_carry _ _ _ _ hA hsame) hsp
  have hres : ∀ (b : Nat) (sp : Nat → Bool) (hd : Bool), DataW.TrodAll enc P W' b sp hd f.resultTypes.toList ((Value.bool true).resultList f.resultTypes.size) [.lit (.bool true)] [] := fun b sp hd => by
    rw [hrt]
    exact trodAll_mk1 (shut_bool hb true)
  refine ⟨ds, [], p ++ [], [], p, [], hW', ?_, ?_, ?_, keptBut_of_step hst _, fun _ => ⟨ok_one hrt rfl (okWide_bool_mk hb true), [.lit (.bool true)] ++ ds, [], [] ++ p ++ [], ⟨[] ++ p, [], trodAll_append (hre _ (fun _ _ => rfl)) (hres _ _ _), ?_, rfl, ?_, ?_⟩, ?_⟩⟩
  · rw [List.append_nil, hfn.1]; exact hres _ _ _
  · rw [List.append_nil, hfn.2.1]; exact hre _ (fun x hx => by simpa using hlt x hx)
  · rw [List.append_nil, hfn.2.2, hvars]; rfl
  · rw [hvars]; rfl
  · intro b off hx
    have hx : MemPlace.cell b off ∈ p := by simpa using hx
    have := hst.block b (hlt _ hx) (fun h => h)
    have h2 := hfz b off hx
    unfold World.frozen? at h2 ⊢
    simp only at h2 ⊢
    rw [this]
    exact h2
  · intro ha
    simpa using hnd ha
  · intro x hx _
    simpa using hx

/-- A law's call, out of its contract over all data of its parameters' types. -/
theorem law_calls (K : Kids P T) (hz : ∀ t e, T t → P.underlying t = some (.slice e) → 0 < P.cellsOf e) {g : FuncId} {f : Func} {s : ChangeSpec} {apart fresh handsOn again : Bool} {W : World} {args : Array Value} {ds gs : List (DataW H)} {before : List MemPlace} {tb : TypeId} {m : Nat} {r : Reach} {b0 : Nat}
    (hs : ∀ t ∈ f.params.toList, simple P m t = true ∧ T t) (h : ∀ dss, DTs P f.params.toList dss → FnOk P g (argsSV P f.params.toList dss) (.d (.bool true)))
    (hval : ∀ (j : Nat) t v, f.params[j]? = some t → args[j]? = some v → Value.okWide P W r b0 t v)
    (hvars : s.vars = []) (hW : DataW.Whole enc P f.params.toList s.vars apart W args.toList ds gs before) (hrt : f.resultTypes = #[tb]) (hb : P.underlying tb = some .bool)
    (hfn : (s.fn H ds).results = [.lit (.bool true)] ∧ (s.fn H ds).args = ds ∧ (s.fn H ds).vars = []) :
    Calls P g args W fun e W' => ∃ v, e = .returned v ∧ s.post enc P f apart fresh handsOn again W args v W' := by
  have hW' := hW
  obtain ⟨p, q, hA, _⟩ := hW
  obtain ⟨dss, h1, h2, h3⟩ := dens_of_trod K hz _ _ _ _ hs (fun j t v ht hv => hval j t v (by simpa using ht) (by simpa using hv)) hA
  have := (h dss h1).2 (fun _ => False) W args.toList (fun _ h => h.elim) h2 h3
  rw [Array.toArray_toList] at this
  refine this.mono fun e W' ⟨v, he, hst, hd⟩ => ⟨v, he, ?_⟩
  cases den_data hd
  exact post_of_step K hz (fun t ht => (hs t ht).2) hvars hW' hst hrt hb hfn
end

section
variable {P : Program} {t : TypeId} {ds : List DV}
theorem DT.int_inv {k : IntKind} (h : DT P t ds) (hu : P.underlying t = some (.int k)) : ∃ n, ds = [.int k n] ∧ (Lit.int k n).wf = true := by
  cases h <;> simp_all
theorem DT.bool_inv (h : DT P t ds) (hu : P.underlying t = some .bool) : ∃ b, ds = [.bool b] := by
  cases h <;> simp_all
theorem DT.str_inv (h : DT P t ds) (hu : P.underlying t = some .string) : ∃ s, ds = [.str s] ∧ s.length ≤ maxLen := by
  cases h <;> simp_all
theorem DT.sl_inv {e : TypeId} (h : DT P t ds) (hu : P.underlying t = some (.slice e)) : ∃ nil n f, ds = [.sl nil n (P.cellsOf e) f] ∧ n ≤ maxLen ∧ ∀ i, i < n → DT P e (f i) := by
  cases h with
  | nil _ e' h1 => rw [hu] at h1; cases h1; exact ⟨true, 0, _, rfl, Nat.zero_le _, fun i hi => absurd hi (by omega)⟩
  | sl _ e' n f h1 h2 h3 => rw [hu] at h1; cases h1; exact ⟨false, n, f, rfl, h2, h3⟩
  | _ => simp_all
theorem DT.struct_inv {fs : Array Field} (h : DT P t ds) (hu : P.underlying t = some (.struct fs)) : ds.length = P.cellsOf t ∧ ∀ f ∈ fs.toList, DT P f.type ((ds.drop f.offset).take (P.cellsOf f.type)) := by
  cases h with
  | struct _ fs' _ h1 h2 h3 => rw [hu] at h1; cases h1; exact ⟨h2, h3⟩
  | _ => simp_all
theorem DT.array_inv {e : TypeId} {n : Nat} (h : DT P t ds) (hu : P.underlying t = some (.array n e)) : ds.length = P.cellsOf t ∧ ∀ i, i < n → DT P e ((ds.drop (i * P.cellsOf e)).take (P.cellsOf e)) := by
  cases h with
  | array _ e' n' _ h1 h2 h3 => rw [hu] at h1; cases h1; exact ⟨h2, h3⟩
  | _ => simp_all
theorem trodAll_len {H : Type} {enc : TypeId × Value → H} {w : World} {base : Nat} {sp : Nat → Bool} {hd : Bool} : ∀ {ts : List TypeId} {vs : List Value} {ds : List (DataW H)} {ps : List MemPlace}, DataW.TrodAll enc P w base sp hd ts vs ds ps → ds.length = ts.length
  | [], [], [], _, _ => rfl
  | _ :: _, _ :: _, _ :: _, _, ⟨_, _, _, h, _⟩ => congrArg (· + 1) (trodAll_len h)
theorem DSL.refl : ∀ l : List DV, DSL l l
  | [] => True.intro
  | a :: l => ⟨.refl a, DSL.refl l⟩
end
end Go.Eng
namespace Go.Eng
open Go Go.RowKit

mutual
/-- Other numbers for the known blocks. -/
def mapV (σ : Nat → Nat) : SV → SV
  | .ptr i off => .ptr (σ i) off
  | .aptr i off len ix => .aptr (σ i) off len ix
  | .all i => .all (σ i)
  | .row i lo n => .row (σ i) lo n
  | .cs i off n c => .cs (σ i) off n c
  | .rptr i j off sz => .rptr (σ i) j off sz
  | .map i => .map (σ i)
  | .ap i n off => .ap (σ i) n off
  | .np i n => .np (σ i) n
  | .yl i => .yl (σ i)
  | .agg l => .agg (mapL σ l)
  | .tup l => .tup (mapL σ l)
  | .fn f l => .fn f (mapL σ l)
  | .d x => .d x
  | .dptr c off => .dptr c off
  | .v x => .v x
  | .any => .any
def mapL (σ : Nat → Nat) : List SV → List SV
  | [] => []
  | a :: l => mapV σ a :: mapL σ l
end
def mapM (σ : Nat → Nat) : List (List DV × List SV) → List (List DV × List SV)
  | [] => []
  | (k, v) :: l => (k, mapL σ v) :: mapM σ l
def mapC (σ : Nat → Nat) : Col → Col
  | .np i f => .np (σ i) f
  | c => c
def mapCs (σ : Nat → Nat) : List Col → List Col
  | [] => []
  | c :: l => mapC σ c :: mapCs σ l
def mapK (σ : Nat → Nat) : KB → KB
  | .cells t l => .cells t (mapL σ l)
  | .map eks ka ea l => .map eks ka ea (mapM σ l)
  | .arena t dom cols => .arena t dom (mapCs σ cols)
  | .loop l ps a b st => .loop (mapL σ l) ps a b st
  | .row e sz n z f => .row e sz n z f
  | .obj φ => .obj φ
  | .gone => .gone
def mapB (σ : Nat → Nat) : List KB → List KB
  | [] => []
  | b :: l => mapK σ b :: mapB σ l

theorem mapL_get (σ : Nat → Nat) (l : List SV) (j : Nat) : (mapL σ l)[j]? = (l[j]?).map (mapV σ) := by
  induction l generalizing j with
  | nil => simp [mapL]
  | cons a l ih => cases j <;> simp [mapL, ih]
theorem mapL_length (σ : Nat → Nat) (l : List SV) : (mapL σ l).length = l.length := by
  induction l with
  | nil => rfl
  | cons a l ih => simp [mapL, ih]
theorem mapM_get (σ : Nat → Nat) (l : List (List DV × List SV)) (j : Nat) : (mapM σ l)[j]? = (l[j]?).map (fun p => (p.1, mapL σ p.2)) := by
  induction l generalizing j with
  | nil => simp [mapM]
  | cons a l ih => obtain ⟨k, v⟩ := a; cases j <;> simp [mapM, ih]
theorem mapM_length (σ : Nat → Nat) (l : List (List DV × List SV)) : (mapM σ l).length = l.length := by
  induction l with
  | nil => rfl
  | cons a l ih => obtain ⟨k, v⟩ := a; simp [mapM, ih]
theorem mapCs_get (σ : Nat → Nat) (l : List Col) (j : Nat) : (mapCs σ l)[j]? = (l[j]?).map (mapC σ) := by
  induction l generalizing j with
  | nil => simp [mapCs]
  | cons a l ih => cases j <;> simp [mapCs, ih]
theorem mapCs_length (σ : Nat → Nat) (l : List Col) : (mapCs σ l).length = l.length := by
  induction l with
  | nil => rfl
  | cons a l ih => simp [mapCs, ih]
theorem mapB_get (σ : Nat → Nat) (l : List KB) (j : Nat) : (mapB σ l)[j]? = (l[j]?).map (mapK σ) := by
  induction l generalizing j with
  | nil => simp [mapB]
  | cons a l ih => cases j <;> simp [mapB, ih]
theorem mapB_length (σ : Nat → Nat) (l : List KB) : (mapB σ l).length = l.length := by
  induction l with
  | nil => rfl
  | cons a l ih => simp [mapB, ih]
theorem mapC_at (σ : Nat → Nat) (c : Col) (n : Nat) : (mapC σ c).at n = mapV σ (c.at n) := by cases c <;> rfl

section
variable {w : World} {M : Nat → Prop} {β β' : Env} {σ : Nat → Nat}

theorem Den.mapS (hσ : ∀ k L, β k = some L → β' (σ k) = some L) {s : SV} {v : Value} (h : Den w M β s v) : Den w M β' (mapV σ s) v := by
  induction h with
  | d h => exact .d h
  | ptr i off L h => exact .ptr _ off L (hσ _ _ h)
  | aptr i off len ix L h1 h2 h3 => exact .aptr _ off len ix L h1 h2 (hσ _ _ h3)
  | dptr cells off ad u h1 h2 h3 h4 => exact .dptr cells off ad u h1 h2 h3 h4
  | allNil i L h1 h2 => exact .allNil _ L (hσ _ _ h1) h2
  | all i L h1 h2 => exact .all _ L (hσ _ _ h1) h2
  | rowNil i L h1 h2 => exact .rowNil _ L (hσ _ _ h1) h2
  | row i lo n off L h1 h2 h3 h4 => exact .row _ lo n off L (hσ _ _ h1) h2 h3 h4
  | cs i off n c L h h1 => exact .cs _ off n c L (hσ _ _ h) h1
  | rptr i j off sz L h h1 => exact .rptr _ j off sz L (hσ _ _ h) h1
  | agg l vs h1 _ h3 ih =>
    refine .agg _ vs (by rw [mapL_length]; exact h1) (fun j s u a b => ?_) h3
    rw [mapL_get] at a
    cases hl : l[j]? with
    | none => rw [hl] at a; cases a
    | some s0 => rw [hl] at a; cases a; exact ih j s0 u hl b
  | tup l vs h1 _ ih =>
    refine .tup _ vs (by rw [mapL_length]; exact h1) (fun j s u a b => ?_)
    rw [mapL_get] at a
    cases hl : l[j]? with
    | none => rw [hl] at a; cases a
    | some s0 => rw [hl] at a; cases a; exact ih j s0 u hl b
  | fn f l vs h1 _ ih =>
    refine .fn f _ vs (by rw [mapL_length]; exact h1) (fun j s u a b => ?_)
    rw [mapL_get] at a
    cases hl : l[j]? with
    | none => rw [hl] at a; cases a
    | some s0 => rw [hl] at a; cases a; exact ih j s0 u hl b
  | map i L h => exact .map _ L (hσ _ _ h)
  | ap i n off L h => exact .ap _ n off L (hσ _ _ h)
  | npNil i => exact .npNil _
  | np i n L h => exact .np _ n L (hσ _ _ h)
  | yl i L h => exact .yl _ L (hσ _ _ h)
  | v x => exact .v x
  | any x => exact .any x

theorem Den.unmap (hσ : ∀ k L, β (σ k) = some L → β' k = some L) {s' : SV} {v : Value} (h : Den w M β s' v) : ∀ s, s' = mapV σ s → Den w M β' s v := by
  have lists : ∀ {l' l : List SV}, l' = mapL σ l → ∀ (j : Nat) (s : SV), l[j]? = some s → l'[j]? = some (mapV σ s) := fun {l' l} e j s hs => by rw [e, mapL_get, hs]; rfl
  induction h with
  | d h => intro s he; cases s <;> simp [mapV] at he; subst he; exact .d h
  | ptr i off L h => intro s he; cases s <;> simp [mapV] at he; obtain ⟨rfl, rfl⟩ := he; exact .ptr _ _ L (hσ _ _ h)
  | aptr i off len ix L h1 h2 h3 => intro s he; cases s <;> simp [mapV] at he; obtain ⟨rfl, rfl, rfl, rfl⟩ := he; exact .aptr _ _ _ _ L h1 h2 (hσ _ _ h3)
  | dptr cells off ad u h1 h2 h3 h4 => intro s he; cases s <;> simp [mapV] at he; obtain ⟨rfl, rfl⟩ := he; exact .dptr _ _ ad u h1 h2 h3 h4
  | allNil i L h1 h2 => intro s he; cases s <;> simp [mapV] at he; subst he; exact .allNil _ L (hσ _ _ h1) h2
  | all i L h1 h2 => intro s he; cases s <;> simp [mapV] at he; subst he; exact .all _ L (hσ _ _ h1) h2
  | rowNil i L h1 h2 => intro s he; cases s <;> simp [mapV] at he; obtain ⟨rfl, rfl, rfl⟩ := he; exact .rowNil _ L (hσ _ _ h1) h2
  | row i lo n off L h1 h2 h3 h4 => intro s he; cases s <;> simp [mapV] at he; obtain ⟨rfl, rfl, rfl⟩ := he; exact .row _ _ _ off L (hσ _ _ h1) h2 h3 h4
  | cs i off n c L h h1 => intro s he; cases s <;> simp [mapV] at he; obtain ⟨rfl, rfl, rfl, rfl⟩ := he; exact .cs _ _ _ _ L (hσ _ _ h) h1
  | rptr i j off sz L h h1 => intro s he; cases s <;> simp [mapV] at he; obtain ⟨rfl, rfl, rfl, rfl⟩ := he; exact .rptr _ _ _ _ L (hσ _ _ h) h1
  | agg l vs h1 _ h3 ih =>
    intro s he; cases s <;> simp [mapV] at he
    refine .agg _ vs (by rw [← h1, he, mapL_length]) (fun j s u a b => ih j _ u (lists he j s a) b s rfl) h3
  | tup l vs h1 _ ih =>
    intro s he; cases s <;> simp [mapV] at he
    exact .tup _ vs (by rw [← h1, he, mapL_length]) (fun j s u a b => ih j _ u (lists he j s a) b s rfl)
  | fn f l vs h1 _ ih =>
    intro s he; cases s <;> simp [mapV] at he
    obtain ⟨rfl, he⟩ := he
    exact .fn _ _ vs (by rw [← h1, he, mapL_length]) (fun j s u a b => ih j _ u (lists he j s a) b s rfl)
  | map i L h => intro s he; cases s <;> simp [mapV] at he; subst he; exact .map _ L (hσ _ _ h)
  | ap i n off L h => intro s he; cases s <;> simp [mapV] at he; obtain ⟨rfl, rfl, rfl⟩ := he; exact .ap _ _ _ L (hσ _ _ h)
  | npNil i => intro s he; cases s <;> simp [mapV] at he; obtain ⟨rfl, rfl⟩ := he; exact .npNil _
  | np i n L h => intro s he; cases s <;> simp [mapV] at he; obtain ⟨rfl, rfl⟩ := he; exact .np _ _ L (hσ _ _ h)
  | yl i L h => intro s he; cases s <;> simp [mapV] at he; subst he; exact .yl _ L (hσ _ _ h)
  | v x => intro s he; cases s <;> simp [mapV] at he; subst he; exact .v x
  | any x => intro s he; cases s <;> simp [mapV] at he; exact .any x

theorem KBat.map' (hσ : ∀ k L, β k = some L → β' (σ k) = some L) {L : Loc} {f : Nat → Prop} {k : KB} (h : KBat w M β L f k) : KBat w M β' L f (mapK σ k) := by
  cases h with
  | cells t l vs h0 h1 h3 h4 h5 =>
    refine .cells t _ vs h0 h1 (by rw [mapL_length]; exact h3) (fun j s u a b => ?_) h5
    rw [mapL_get] at a
    cases hl : l[j]? with
    | none => rw [hl] at a; cases a
    | some s0 => rw [hl] at a; cases a; exact (h4 j s0 u hl b).mapS hσ
  | rowNil e sz z f h0 h1 h2 h3 h4 => exact .rowNil e sz z f h0 h1 h2 h3 h4
  | row e sz n z f vs fz h0 h1 h2 hn h3 h4 h5 h6 h7 h8 h9 h10 => exact .row e sz n z f vs fz h0 h1 h2 hn h3 h4 h5 h6 h7 h8 h9 h10
  | map eks ka ea l es clock h0 h1 h2 h3 =>
    refine .map eks ka ea _ es clock h0 h1 (by rw [mapM_length]; exact h2) (fun j p e hp he => ?_)
    rw [mapM_get] at hp
    cases hl : l[j]? with
    | none => rw [hl] at hp; cases hp
    | some p0 =>
      rw [hl] at hp
      cases hp
      obtain ⟨kc, vc, a1, a2, a3, a4, a5, a6, a7, a8, a9, a10, a11⟩ := (h3 j p0 e hl he).ex
      refine ⟨kc, vc, a1, a2, a3, by simp [mapL_length, a4], a5, a6, a7, a8, a9, fun q s u hs hu => ?_, a11⟩
      simp only [mapL_get] at hs
      cases hq : p0.2[q]? with
      | none => rw [hq] at hs; cases hs
      | some s0 => rw [hq] at hs; cases hs; exact (a10 q s0 u hq hu).mapS hσ
  | arena t dom cols h0 h1 h2 =>
    refine .arena t dom _ h0 h1 (fun x hx => ?_)
    obtain ⟨vs, a1, a2, a3, a4⟩ := h2 x hx
    refine ⟨vs, a1, by rw [mapCs_length]; exact a2, fun j c u hc hu => ?_, a4⟩
    rw [mapCs_get] at hc
    cases hl : cols[j]? with
    | none => rw [hl] at hc; cases hc
    | some c0 => rw [hl] at hc; cases hc; rw [mapC_at]; exact (a3 j c0 u hl hu).mapS hσ
  | obj φ h1 h2 => exact .obj φ h1 h2
  | loop l ps asg body st r h0 h1 h2 h3 h4 h5 h6 h7 =>
    refine .loop _ ps asg body st r h0 h1 (by rw [mapL_length]; exact h2) (fun j s u a b => ?_) h4 h5 h6 h7
    rw [mapL_get] at a
    cases hl : l[j]? with
    | none => rw [hl] at a; cases a
    | some s0 => rw [hl] at a; cases a; exact (h3 j s0 u hl b).mapS hσ

theorem KBat.unmap (hσ : ∀ k L, β (σ k) = some L → β' k = some L) {L : Loc} {f : Nat → Prop} {k' : KB} (h : KBat w M β L f k') (k : KB) (he : k' = mapK σ k) : KBat w M β' L f k := by
  cases h with
  | cells t l vs h0 h1 h3 h4 h5 =>
    cases k <;> simp [mapK] at he
    obtain ⟨rfl, he⟩ := he
    exact .cells _ _ vs h0 h1 (by rw [← h3, he, mapL_length]) (fun j s u a b => (h4 j (mapV σ s) u (by rw [he, mapL_get, a]; rfl) b).unmap hσ s rfl) h5
  | rowNil e sz z f h0 h1 h2 h3 h4 =>
    cases k <;> simp [mapK] at he
    obtain ⟨rfl, rfl, rfl, rfl, rfl⟩ := he
    exact .rowNil _ _ _ _ h0 h1 h2 h3 h4
  | row e sz n z f vs fz h0 h1 h2 hn h3 h4 h5 h6 h7 h8 h9 h10 =>
    cases k <;> simp [mapK] at he
    obtain ⟨rfl, rfl, rfl, rfl, rfl⟩ := he
    exact .row _ _ _ _ _ vs fz h0 h1 h2 hn h3 h4 h5 h6 h7 h8 h9 h10
  | map eks ka ea l es clock h0 h1 h2 h3 =>
    cases k <;> simp [mapK] at he
    obtain ⟨rfl, rfl, rfl, he⟩ := he
    refine .map _ _ _ _ es clock h0 h1 (by rw [← h2, he, mapM_length]) (fun j p e hp hee => ?_)
    obtain ⟨kc, vc, a1, a2, a3, a4, a5, a6, a7, a8, a9, a10, a11⟩ := (h3 j (p.1, mapL σ p.2) e (by rw [he, mapM_get, hp]; rfl) hee).ex
    exact ⟨kc, vc, a1, a2, a3, by simpa [mapL_length] using a4, a5, a6, a7, a8, a9, fun q s u hs hu => (a10 q (mapV σ s) u (by simp only [mapL_get, hs]; rfl) hu).unmap hσ s rfl, a11⟩
  | arena t dom cols h0 h1 h2 =>
    cases k <;> simp [mapK] at he
    obtain ⟨rfl, rfl, he⟩ := he
    refine .arena _ _ _ h0 h1 (fun x hx => ?_)
    obtain ⟨vs, a1, a2, a3, a4⟩ := h2 x hx
    exact ⟨vs, a1, by rw [a2, he, mapCs_length], fun j c u hc hu => (a3 j (mapC σ c) u (by rw [he, mapCs_get, hc]; rfl) hu).unmap hσ _ (mapC_at σ c _), a4⟩
  | obj φ h1 h2 =>
    cases k <;> simp [mapK] at he
    subst he
    exact .obj _ h1 h2
  | loop l ps asg body st r h0 h1 h2 h3 h4 h5 h6 h7 =>
    cases k <;> simp [mapK] at he
    obtain ⟨he, rfl, rfl, rfl, rfl⟩ := he
    exact .loop _ _ _ _ _ r h0 h1 (by rw [← h2, he, mapL_length]) (fun j s u a b => (h3 j (mapV σ s) u (by rw [he, mapL_get, a]; rfl) b).unmap hσ s rfl) h4 h5 h6 h7
end

/-- Where the known blocks of a contract lie among those of the caller: is, the numbers there; new ones behind all. -/
def sig (is : List Nat) (N : Nat) : Nat → Nat := fun k => match is[k]? with
  | some i => i
  | none => N + (k - is.length)
def inv (is : List Nat) (N : Nat) (j : Nat) : Option Nat :=
  match posN j is 0 with
  | some k => some k
  | none => if N ≤ j then some (is.length + (j - N)) else none
/-- The caller's blocks with those of the contract put anew. -/
def setBs : List KB → List Nat → List KB → List KB
  | ks, [], _ => ks
  | ks, i :: is, [] => setBs (setB ks i .gone) is []
  | ks, i :: is, b :: l => setBs (setB ks i b) is l
def dropB : List KB → Nat → List KB
  | l, 0 => l
  | [], _ + 1 => []
  | _ :: l, n + 1 => dropB l n
def appB : List KB → List KB → List KB
  | [], m => m
  | a :: l, m => a :: appB l m
def putBs (ks : List KB) (is : List Nat) (l : List KB) : List KB := appB (setBs ks is l) (dropB l is.length)
/-- The caller's blocks that the contract speaks of. -/
def getBs (ks : List KB) : List Nat → List KB
  | [] => []
  | i :: is => getB ks i :: getBs ks is

theorem dropB_eq (l : List KB) (n : Nat) : dropB l n = l.drop n := by
  induction l generalizing n with
  | nil => cases n <;> rfl
  | cons a l ih => cases n with
    | zero => rfl
    | succ n => simp [dropB, ih]
theorem appB_eq (l m : List KB) : appB l m = l ++ m := by
  induction l with
  | nil => rfl
  | cons a l ih => simp [appB, ih]
theorem setBs_length (ks : List KB) (is : List Nat) (l : List KB) : (setBs ks is l).length = ks.length := by
  induction is generalizing ks l with
  | nil => cases l <;> rfl
  | cons i is ih => cases l <;> simp [setBs, ih, setB_eq]
theorem posN_none {j : Nat} {is : List Nat} {p : Nat} (h : posN j is p = none) : j ∉ is := by
  induction is generalizing p with
  | nil => simp
  | cons a is ih =>
    simp only [posN] at h
    split at h
    · cases h
    · rename_i hb
      have hne : j ≠ a := fun e => by subst e; rw [show Nat.beq j j = true from Nat.beq_refl j] at hb; cases hb
      simp [hne, ih h]
theorem posN_some {j : Nat} {is : List Nat} {p k : Nat} (h : posN j is p = some k) : ∃ q, k = p + q ∧ is[q]? = some j := by
  induction is generalizing p with
  | nil => cases h
  | cons a is ih =>
    simp only [posN] at h
    split at h
    · rename_i hb
      cases h
      exact ⟨0, rfl, by simp [beq_of hb]⟩
    · obtain ⟨q, e, hq⟩ := ih h
      exact ⟨q + 1, by omega, by simpa using hq⟩
theorem setBs_get {is : List Nat} : ∀ (ks l : List KB) (j : Nat), is.Nodup → (∀ i ∈ is, i < ks.length) → (setBs ks is l)[j]? = match posN j is 0 with
    | some k => some (getB l k)
    | none => ks[j]? := by
  have gen : ∀ (is : List Nat) (ks l : List KB) (j p : Nat), is.Nodup → (∀ i ∈ is, i < ks.length) → (setBs ks is l)[j]? = match posN j is p with
    | some k => some (getB l (k - p))
    | none => ks[j]? := by
    intro is
    induction is with
    | nil => intro ks l j p _ _; cases l <;> rfl
    | cons i is ih =>
      intro ks l j p hnd hlt
      have hnd' := List.nodup_cons.1 hnd
      have step : ∀ (b : KB) (l' : List KB), (∀ k, getB l' k = getB l (k + 1)) → b = getB l 0 → (setBs (setB ks i b) is l')[j]? = match posN j (i :: is) p with
          | some k => some (getB l (k - p))
          | none => ks[j]? := fun b l' hl' hb => by
        rw [ih (setB ks i b) l' j (p + 1) hnd'.2 (fun q hq => by rw [setB_eq, List.length_set]; exact hlt q (by simp [hq]))]
        simp only [posN]
        split
        · rename_i k hk
          obtain ⟨q, e, hq⟩ := posN_some hk
          have hne : i ≠ j := fun e => by subst e; exact hnd'.1 (List.mem_of_getElem? hq)
          have : Nat.beq i j = false := by
            cases hb : Nat.beq i j with
            | false => rfl
            | true => exact absurd (beq_of hb) hne
          rw [this, hk]
          simp only
          rw [hl', show k - (p + 1) + 1 = k - p from by omega]
        · rename_i hk
          cases hb' : Nat.beq i j with
          | true =>
            cases beq_of hb'
            simp only [Nat.sub_self]
            rw [setB_eq, List.getElem?_set, if_pos rfl, if_pos (hlt i (by simp)), hb]
          | false =>
            rw [hk]
            have hne : i ≠ j := fun e => by subst e; rw [show Nat.beq i i = true from Nat.beq_refl i] at hb'; cases hb'
            simp only
            rw [setB_eq, List.getElem?_set, if_neg hne]
      cases l with
      | nil => exact step .gone [] (fun k => by simp [getB_eq]) rfl
      | cons b l => exact step b l (fun k => by simp [getB_eq]) rfl
  intro ks l j hnd hlt
  exact gen is ks l j 0 hnd hlt

/-- The relation that holds where the contract is used. -/
theorem COk.frame {P : Program} {f : FuncId} {as0 : List SV} {ks0 : List KB} {R0 : SV → List KB → Prop} (h : COk P f as0 ks0 R0) (is : List Nat) {as : List SV} {ks : List KB} {R : SV → List KB → Prop}
    (hok : okN (lenB ks) is = true) (ha : mapL (sig is (lenB ks)) as0 = as) (hk : getBs ks is = mapB (sig is (lenB ks)) ks0) (hR : ∀ s0 k0, R0 s0 k0 → R (mapV (sig is (lenB ks)) s0) (putBs ks is (mapB (sig is (lenB ks)) k0))) : COk P f as ks R := by
  refine ⟨h.1, fun X w β fp vs hM hl hd => ?_⟩
  rw [lenB_eq] at hok ha hk hR
  obtain ⟨o1, o2⟩ := okN_spec hok
  generalize hN : ks.length = N at *
  have hkl := hM.kl
  rw [hN] at hkl
  have hgetBs : ∀ (l : List Nat) (q i : Nat), l[q]? = some i → (getBs ks l)[q]? = some (getB ks i) := fun l => by
    induction l with
    | nil => intro q i hq; simp at hq
    | cons a l ih =>
      intro q i hq
      cases q with
      | zero => simp at hq; subst hq; rfl
      | succ q => simpa [getBs] using ih q i (by simpa using hq)
  have hgetBsL : ∀ (l : List Nat), (getBs ks l).length = l.length := fun l => by
    induction l with
    | nil => rfl
    | cons a l ih => simp [getBs, ih]
  have hlen0 : ks0.length = is.length := by
    have := congrArg List.length hk
    rw [hgetBsL, mapB_length] at this
    exact this.symm
  have hlt : ∀ i ∈ is, i < N := fun i hi => by
    obtain ⟨q, hq, rfl⟩ := List.mem_iff_getElem.1 hi
    exact o1 q _ (List.getElem?_eq_getElem hq)
  have hnd : is.Nodup := by
    rw [List.nodup_iff_pairwise_ne, List.pairwise_iff_getElem]
    intro p q hp hq hpq e
    have e1 := List.getElem?_eq_getElem hp
    have e2 := List.getElem?_eq_getElem hq
    have := o2 p q is[p] e1 (by rw [e2, e])
    omega
  have hsig : ∀ k i, is[k]? = some i → sig is N k = i := fun k i hk => by simp [sig, hk]
  have hsigN : ∀ k, is.length ≤ k → sig is N k = N + (k - is.length) := fun k hk => by simp [sig, List.getElem?_eq_none hk]
  have hsmall : ∀ k, k < ks0.length → ∃ i, is[k]? = some i ∧ i < N ∧ sig is N k = i ∧ ks[i]? = some (mapK (sig is N) (getB ks0 k)) := fun k hk0 => by
    have hkl : k < is.length := by omega
    have e1 := List.getElem?_eq_getElem hkl
    refine ⟨is[k], e1, o1 k _ e1, hsig k _ e1, ?_⟩
    have e2 := hgetBs is k _ e1
    rw [hk, mapB_get, List.getElem?_eq_getElem hk0] at e2
    simp only [Option.map_some, Option.some.injEq] at e2
    have hil := o1 k _ e1
    rw [List.getElem?_eq_getElem (by omega)]
    have : getB ks is[k] = ks[is[k]] := by rw [getB_eq, List.getElem?_eq_getElem (by omega)]; rfl
    rw [this] at e2
    rw [← e2, getB_eq, List.getElem?_eq_getElem hk0]
    rfl
  -- the smaller memory
  let X0 : Nat → Prop := fun b => X b ∨ ∃ j, j ∉ is ∧ fp j b
  let β0 : Env := fun k => match is[k]? with
    | some i => β i
    | none => none
  let fp0 : Nat → Nat → Prop := fun k b => ∃ i, is[k]? = some i ∧ fp i b
  have hMx : ∀ b, Mx X0 fp0 b ↔ Mx X fp b := fun b => by
    constructor
    · rintro ((hx | ⟨j, _, hj⟩) | ⟨k, i, _, hi⟩)
      · exact .inl hx
      · exact .inr ⟨j, hj⟩
      · exact .inr ⟨i, hi⟩
    · rintro (hx | ⟨j, hj⟩)
      · exact .inl (.inl hx)
      · by_cases hm : j ∈ is
        · obtain ⟨q, hq, rfl⟩ := List.mem_iff_getElem.1 hm
          exact .inr ⟨q, _, List.getElem?_eq_getElem hq, hj⟩
        · exact .inl (.inr ⟨j, hm, hj⟩)
  have hMxe : Mx X0 fp0 = Mx X fp := funext fun b => propext (hMx b)
  have hun : ∀ k L, β (sig is N k) = some L → β0 k = some L := fun k L hL => by
    cases hi : is[k]? with
    | some i => rw [hsig k i hi] at hL; simp only [β0, hi]; exact hL
    | none =>
      rw [hsigN k (by simpa using hi), hkl _ (by omega)] at hL
      cases hL
  have hM0 : Mem X0 w β0 fp0 ks0 := by
    refine ⟨⟨fun b hb => ?_, fun k b ⟨i, hi, hb⟩ hx => ?_, fun p q b ⟨i, hi, hb⟩ ⟨i', hi', hb'⟩ => ?_, fun k b ⟨i, hi, hb⟩ => hM.kw i b hb, fun k b ⟨i, hi, hb⟩ => ?_, fun k L kb hkb hne hL => ?_⟩, fun k hk' => ?_, fun k t dom cols hkb => ?_⟩
    · rcases hb with hb | ⟨j, _, hb⟩
      · exact hM.xa b hb
      · exact hM.kw j b hb
    · rcases hx with hx | ⟨j, hj, hx⟩
      · exact hM.xb i b hb hx
      · have := hM.dis i j b hb hx
        subst this
        exact hj (List.mem_of_getElem? hi)
    · have := hM.dis i i' b hb hb'
      subst this
      exact o2 p q i hi hi'
    · obtain ⟨L, hL⟩ := hM.kn i b hb
      exact ⟨L, by simp only [β0, hi]; exact hL⟩
    · have hkl' : k < ks0.length := (List.getElem?_eq_some_iff.1 hkb).1
      obtain ⟨i, hi, hiN, hs, hki⟩ := hsmall k hkl'
      have hgb : getB ks0 k = kb := by rw [getB_eq, hkb]; rfl
      rw [hgb] at hki
      have hL' : β i = some L := by simpa only [β0, hi] using hL
      have hb := hM.kb i L _ hki (fun e => hne (by cases kb <;> simp [mapK] at e; rfl)) hL'
      have hf : fp0 k = fp i := funext fun b => propext ⟨fun ⟨i', e, hb⟩ => by rw [hi] at e; cases e; exact hb, fun hb => ⟨i, hi, hb⟩⟩
      rw [hMxe, hf]
      exact hb.unmap hun kb rfl
    · simp only [β0]
      rw [List.getElem?_eq_none (by omega)]
    · have hkl' : k < ks0.length := (List.getElem?_eq_some_iff.1 hkb).1
      obtain ⟨i, hi, hiN, hs, hki⟩ := hsmall k hkl'
      have hgb : getB ks0 k = .arena t dom cols := by rw [getB_eq, hkb]; rfl
      rw [hgb] at hki
      obtain ⟨L, hL⟩ := hM.ka i _ _ _ hki
      exact ⟨L, by simp only [β0, hi]; exact hL⟩
  have hl0 : as0.length = vs.length := by rw [← hl, ← ha, mapL_length]
  have hcall := h.2 X0 w β0 fp0 vs hM0 hl0 (fun j s u hs hu => by
    rw [hMxe]
    exact (hd j (mapV (sig is N) s) u (by rw [← ha, mapL_get, hs]; rfl) hu).unmap hun s rfl)
  refine hcall.mono ?_
  rintro e w' ⟨r, s0, k0, β1, fp1, rfl, hR0, hW, hden⟩
  let β' : Env := fun j => match inv is N j with
    | some k => β1 k
    | none => β j
  let fp' : Nat → Nat → Prop := fun j => match inv is N j with
    | some k => fp1 k
    | none => fp j
  have hinvσ : ∀ k, inv is N (sig is N k) = some k := fun k => by
    unfold inv
    cases hi : is[k]? with
    | some i =>
      rw [hsig k i hi]
      cases hp : posN i is 0 with
      | none => exact absurd (List.mem_of_getElem? hi) (posN_none hp)
      | some q =>
        obtain ⟨q', e, hq⟩ := posN_some hp
        have := o2 k q' i hi hq
        simp only
        congr 1
        omega
    | none =>
      have hkn : is.length ≤ k := by simpa using hi
      rw [hsigN k hkn]
      cases hp : posN (N + (k - is.length)) is 0 with
      | some q =>
        obtain ⟨q', e, hq⟩ := posN_some hp
        have := o1 q' _ hq
        omega
      | none =>
        simp only
        rw [if_pos (by omega)]
        congr 1
        omega
  have hinv : ∀ j k, inv is N j = some k → j = sig is N k := fun j k hj => by
    unfold inv at hj
    split at hj
    · rename_i q hp
      cases hj
      obtain ⟨q', e, hq⟩ := posN_some hp
      rw [hsig _ j (by rw [e, Nat.zero_add]; exact hq)]
    · split at hj
      · cases hj
        rw [hsigN _ (by omega)]
        omega
      · cases hj
  have hout : ∀ j, inv is N j = none → j ∉ is ∧ j < N := fun j hj => by
    unfold inv at hj
    split at hj
    · cases hj
    · rename_i hp
      split at hj
      · cases hj
      · exact ⟨posN_none hp, by omega⟩
  have hβ' : ∀ k L, β1 k = some L → β' (sig is N k) = some L := fun k L hL => by simp only [β', hinvσ]; exact hL
  have hext : Ext β β' := fun j L hL => by
    simp only [β']
    cases hj : inv is N j with
    | none => exact hL
    | some k =>
      have := hinv j k hj
      subst this
      exact hW.ext k L (hun k L hL)
  have hMx' : ∀ b, Mx X fp' b ↔ Mx X0 fp1 b := fun b => by
    constructor
    · rintro (hx | ⟨j, hj⟩)
      · exact .inl (.inl hx)
      · simp only [fp'] at hj
        cases hi : inv is N j with
        | none => rw [hi] at hj; exact .inl (.inr ⟨j, (hout j hi).1, hj⟩)
        | some k => rw [hi] at hj; exact .inr ⟨k, hj⟩
    · rintro ((hx | ⟨j, hjn, hj⟩) | ⟨k, hk⟩)
      · exact .inl hx
      · refine .inr ⟨j, ?_⟩
        simp only [fp']
        have : inv is N j = none := by
          unfold inv
          cases hp : posN j is 0 with
          | some q =>
            obtain ⟨q', e, hq⟩ := posN_some hp
            exact absurd (List.mem_of_getElem? hq) hjn
          | none =>
            simp only
            rw [if_neg]
            intro hNj
            obtain ⟨L, hL⟩ := hM.kn j b hj
            rw [hkl j hNj] at hL
            cases hL
        rw [this]
        exact hj
      · refine .inr ⟨sig is N k, ?_⟩
        simp only [fp', hinvσ]
        exact hk
  have hMxe' : Mx X fp' = Mx X0 fp1 := funext fun b => propext (hMx' b)
  have hst : Step (fun b => ∃ i, fp i b) w w' := hW.st.mono (fun b _ ⟨k, i, _, hb⟩ => ⟨i, hb⟩)
  have hown : ∀ j b, fp' j b → (∃ j', fp j' b) ∨ w.heap.size ≤ b := fun j b hj => by
    simp only [fp'] at hj
    cases hi : inv is N j with
    | none => rw [hi] at hj; exact .inl ⟨j, hj⟩
    | some k =>
      rw [hi] at hj
      exact (hW.own k b hj).imp (fun ⟨k', i, _, hb⟩ => ⟨i, hb⟩) id
  have hget : ∀ j kb, (putBs ks is (mapB (sig is N) k0))[j]? = some kb → match inv is N j with
      | some k => kb = mapK (sig is N) (getB k0 k)
      | none => ks[j]? = some kb := fun j kb hj => by
    have hgm : ∀ k, getB (mapB (sig is N) k0) k = mapK (sig is N) (getB k0 k) := fun k => by
      rw [getB_eq, getB_eq, mapB_get]
      cases k0[k]? <;> rfl
    unfold putBs at hj
    rw [appB_eq, dropB_eq] at hj
    unfold inv
    by_cases hjN : j < N
    · rw [List.getElem?_append_left (by rw [setBs_length]; omega), setBs_get ks _ j hnd (fun i hi => by rw [hN]; exact hlt i hi)] at hj
      split at hj
      · rename_i k hp
        simp only [Option.some.injEq] at hj
        rw [← hj, hgm]
      · rename_i hp
        rw [if_neg (by omega)]
        exact hj
    · have hp : posN j is 0 = none := by
        cases hp : posN j is 0 with
        | none => rfl
        | some q =>
          obtain ⟨q', e, hq⟩ := posN_some hp
          have := o1 q' _ hq
          omega
      rw [hp]
      simp only
      rw [if_pos (by omega)]
      rw [List.getElem?_append_right (by rw [setBs_length]; omega), setBs_length, List.getElem?_drop, hN] at hj
      simp only
      rw [← hgm, getB_eq, hj]
      rfl
  have hlen' : (putBs ks is (mapB (sig is N) k0)).length = N + (k0.length - is.length) := by
    unfold putBs
    rw [appB_eq, dropB_eq, List.length_append, setBs_length, List.length_drop, mapB_length, hN]
  refine ⟨r, mapV (sig is N) s0, putBs ks is (mapB (sig is N) k0), β', fp', rfl, hR _ _ hR0, ⟨⟨⟨fun b hb => Nat.lt_of_lt_of_le (hM.xa b hb) hst.size, fun j b hj hx => ?_, fun p q b hp hq => ?_, fun j b hj => ?_, fun j b hj => ?_, fun j L kb hkb hne hL => ?_⟩, fun j hj => ?_, fun j t dom cols hj => ?_⟩, hst, hext, hown⟩, ?_⟩
  · rcases hown j b hj with ⟨j', hj'⟩ | e
    · exact hM.xb j' b hj' hx
    · have := hM.xa b hx; omega
  · simp only [fp'] at hp hq
    cases hi : inv is N p with
    | none =>
      rw [hi] at hp
      cases hi' : inv is N q with
      | none => rw [hi'] at hq; exact hM.dis p q b hp hq
      | some k => rw [hi'] at hq; exact (hW.mem.xb k b hq (.inr ⟨p, (hout p hi).1, hp⟩)).elim
    | some k =>
      rw [hi] at hp
      cases hi' : inv is N q with
      | none => rw [hi'] at hq; exact (hW.mem.xb k b hp (.inr ⟨q, (hout q hi').1, hq⟩)).elim
      | some k' =>
        rw [hi'] at hq
        have := hW.mem.dis k k' b hp hq
        subst this
        rw [hinv p _ hi, hinv q _ hi']
  · simp only [fp'] at hj
    cases hi : inv is N j with
    | none => rw [hi] at hj; exact Nat.lt_of_lt_of_le (hM.kw j b hj) hst.size
    | some k => rw [hi] at hj; exact hW.mem.kw k b hj
  · simp only [fp'] at hj
    cases hi : inv is N j with
    | none =>
      rw [hi] at hj
      obtain ⟨L, hL⟩ := hM.kn j b hj
      exact ⟨L, hext j L hL⟩
    | some k =>
      rw [hi] at hj
      obtain ⟨L, hL⟩ := hW.mem.kn k b hj
      exact ⟨L, by simp only [β', hi]; exact hL⟩
  · have hg := hget j kb hkb
    rw [hMxe']
    simp only [β'] at hL
    cases hi : inv is N j with
    | none =>
      rw [hi] at hg hL
      have hf : fp' j = fp j := by simp only [fp', hi]
      rw [hf]
      have hb := hM.kb j L kb hg hne hL
      refine hb.mono (hst.mono (fun _ _ e => .inr e)) (fun b hb hm => ?_) hext (fun b hb => hW.st.block b (hM.kw j b hb) (fun ⟨k, i, hik, hib⟩ => ?_))
      · rcases hm with hm | ⟨k, hk⟩
        · exact (hMx b).1 (.inl hm)
        · rcases hW.own k b hk with ⟨k', i, _, hb'⟩ | e
          · exact .inr ⟨i, hb'⟩
          · omega
      · have := hM.dis i j b hib hb
        subst this
        exact (hout i hi).1 (List.mem_of_getElem? hik)
    | some k =>
      rw [hi] at hg hL
      have hf : fp' j = fp1 k := by simp only [fp', hi]
      rw [hf]
      subst hg
      have hne0 : getB k0 k ≠ .gone := fun e => by rw [e] at hne; exact hne rfl
      exact (hW.mem.kb k L _ (getB_some rfl hne0) hne0 hL).map' hβ'
  · rw [hlen'] at hj
    have : inv is N j = some (is.length + (j - N)) := by
      unfold inv
      cases hp : posN j is 0 with
      | none => simp only; rw [if_pos (by omega)]
      | some q =>
        obtain ⟨q', e, hq⟩ := posN_some hp
        have := o1 q' _ hq
        omega
    simp only [β', this]
    exact hW.mem.kl _ (by omega)
  · have hg := hget j _ hj
    cases hi : inv is N j with
    | none =>
      rw [hi] at hg
      obtain ⟨L, hL⟩ := hM.ka j t dom cols hg
      exact ⟨L, hext j L hL⟩
    | some k =>
      rw [hi] at hg
      have hg : KB.arena t dom cols = mapK (sig is N) (getB k0 k) := hg
      generalize hgb : getB k0 k = kb at hg
      cases kb with
      | arena t' dom' cols' =>
        obtain ⟨L, hL⟩ := hW.mem.ka k _ _ _ (getB_some hgb (by simp))
        exact ⟨L, by simp only [β', hi]; exact hL⟩
      | _ => simp [mapK] at hg
  · rw [hMxe']
    exact hden.mapS hβ'

theorem cOk_of_run_arena {P : Program} {TT : Nat → Option TI} {IN : Nat → Option Inl} (hTT : TTok P TT) (hIN : INok P IN) (hmix : P.follows .mixedOrders = true) {f : FuncId} {fn : Func} {c : Code} (m : Nat) (hf : P.funcs[f]? = some fn) (hb : fn.body = some c) (hent : ∀ (args : Array Value) (w : World), (callFunc f args).run P w = .ok (.enter f args) w)
    {args : List SV} {ks : List KB} {R : SV → List KB → Prop} (t : TypeId) (cols : List Col) (k : Nat) (hk : fn.ntmps = args.length + k) (h : run P TT IN m ⟨ks.length, none⟩ [.code c] (args ++ anys k) (ks ++ [.arena t (fun _ => False) cols]) (endM TT fn.results.toList ks.length R)) : COk P f args ks R := by
  refine ⟨hent, fun X w β fp vs hM hl hd => ?_⟩
  refine (callsIn_wide (n := 0)).1 (callsIn_of_wp_marks hf hb trivial ?_ rfl)
  have hnew := hM.newArena t cols
  have hS1 := enter_sat hnew.mem hl (fun j s u hs hu => hnew.den (hd j s u hs hu)) (k := k) (m := fn.ntmps) hk
  have hS : Sat ⟨X, w, β, fp⟩ w _ fp (args ++ anys k) (ks ++ [.arena t (fun _ => False) cols]) _ := ⟨hnew.trans hS1.went, hS1.df, hS1.len, hS1.tm⟩
  have := run_sound hTT hIN hmix m ⟨X, w, β, fp⟩ ⟨ks.length, none⟩ none 0 (bodyPostM (wideF none) 0 P fn (fun e w' => ∃ r s ks' β' fp', e = .returned r ∧ R s ks' ∧ Went X w β fp w' β' fp' ks' ∧ Den w' (Mx X fp') β' s r)) _ hM.kl rfl (fun e ts2 ks2 a2 w2 β2 fp2 hK hS2 => by
    have fin : resK TT ts2 ks2 fn.results.toList (fun vs => FinOk ks.length R vs ks2) → LeavesInM (wideF none) 0 P fn a2.tmps (fun e w' => ∃ r s ks' β' fp', e = .returned r ∧ R s ks' ∧ Went X w β fp w' β' fp' ks' ∧ Den w' (Mx X fp') β' s r) a2.defers .returning w2 := fun hK => by
      refine leave_marks (a := a2) (fun w3 hS3 => ?_) a2.defers w2 hS2
      obtain ⟨ss, us, v, ⟨ρ, s', ks', o1, o2, hsv, hsb, hR⟩, e1, e3, hrun, _, hden⟩ := results_spec (P := P) hTT hS3 hK
      rw [lenB_eq] at o1
      have hW := (hS3.went.ren hM.kl ρ o1 o2).less hsb
      have hMx : ∀ b, Mx X (renF ρ fp2) b → Mx X fp2 b := fun b hm => hm.imp id (fun ⟨k, i, _, hb⟩ => ⟨i, hb⟩)
      exact ⟨v, hrun, v, s', ks', _, _, rfl, hR, hW, SubV_den hsv ((den_less hden hMx).ren ρ)⟩
    cases e with
    | normal => exact fin hK
    | ret => exact fin hK
    | _ => exact hK.elim) [.code c] _ _ _ _ _ _ h trivial hS
  exact wpIn_mono this (fun e a' w' he => he)

end Go.Eng
namespace Go.Eng
open Go Go.RowKit
/-- Whatever the first stands for, the second does too. -/
inductive AEq : SV → SV → Prop where
  | refl (s : SV) : AEq s s
  | d {x y : DV} : DS x y → AEq (.d x) (.d y)
  | none (b : Bool) (sz sz' : Nat) (f g : Nat → List DV) : AEq (.d (.sl b 0 sz f)) (.d (.sl b 0 sz' g))
  | agg (l m : List SV) : l.length = m.length → (∀ (j : Nat) (s t : SV), l[j]? = some s → m[j]? = some t → AEq s t) → AEq (.agg l) (.agg m)
  | tup (l m : List SV) : l.length = m.length → (∀ (j : Nat) (s t : SV), l[j]? = some s → m[j]? = some t → AEq s t) → AEq (.tup l) (.tup m)
theorem AEq.den {s t : SV} (h : AEq s t) {w : World} {M : Nat → Prop} {β : Env} : ∀ {v : Value}, Den w M β s v → Den w M β t v := by
  induction h with
  | refl s => exact fun h => h
  | d h => exact fun hd => .d (h.rd (den_data hd))
  | none b sz sz' f g => exact fun hd => .d (den_data hd).width
  | agg l m hl _ ih =>
    intro v hd
    cases hd with
    | agg _ vs h1 h2 h3 =>
      refine .agg m vs (hl ▸ h1) (fun j t u ht hu => ?_) h3
      have hj : j < l.length := by rw [hl]; exact (List.getElem?_eq_some_iff.1 ht).1
      exact ih j _ t (List.getElem?_eq_getElem hj) ht (h2 j _ u (List.getElem?_eq_getElem hj) hu)
  | tup l m hl _ ih =>
    intro v hd
    cases hd with
    | tup _ vs h1 h2 =>
      refine .tup m vs (hl ▸ h1) (fun j t u ht hu => ?_)
      have hj : j < l.length := by rw [hl]; exact (List.getElem?_eq_some_iff.1 ht).1
      exact ih j _ t (List.getElem?_eq_getElem hj) ht (h2 j _ u (List.getElem?_eq_getElem hj) hu)
def AEqL : List SV → List SV → Prop
  | [], [] => True
  | a :: l, b :: m => AEq a b ∧ AEqL l m
  | _, _ => False
theorem AEqL.len : ∀ {l m : List SV}, AEqL l m → l.length = m.length
  | [], [], _ => rfl
  | _ :: _, _ :: _, h => congrArg (· + 1) (AEqL.len h.2)
theorem AEqL.at : ∀ {l m : List SV}, AEqL l m → ∀ (j : Nat) (s t : SV), l[j]? = some s → m[j]? = some t → AEq s t
  | [], [], _, _, _, _, ht, _ => by simp at ht
  | _ :: _, _ :: _, h, 0, s, t, hs, ht => by simp at hs ht; subst hs ht; exact h.1
  | _ :: l, _ :: m, h, j + 1, s, t, hs, ht => AEqL.at (l := l) (m := m) h.2 j s t (by simpa using hs) (by simpa using ht)
theorem AEq.aggL {l m : List SV} (h : AEqL l m) : AEq (.agg l) (.agg m) := .agg l m h.len h.at
theorem AEq.tupL {l m : List SV} (h : AEqL l m) : AEq (.tup l) (.tup m) := .tup l m h.len h.at
theorem AEq.rows {b : Bool} {n sz : Nat} {f g : Nat → List DV} (h : ∀ i, i < n → DSL (f i) (g i)) : AEq (.d (.sl b n sz f)) (.d (.sl b n sz g)) := .d (.rows h)
theorem AEq.row {b : Bool} {n sz : Nat} {f g : Nat → List DV} (h : ∀ i, i < n → f i = g i) : AEq (.d (.sl b n sz f)) (.d (.sl b n sz g)) := .d (.rows (fun i hi => h i hi ▸ DSL.refl _))
theorem FnOk.convA {P : Program} {f : FuncId} {args args' : List SV} {res : SV} (h : FnOk P f args res) (hc : AEqL args' args) : FnOk P f args' res :=
  ⟨h.1, fun M w vs hM hl hd => h.2 M w vs hM (by rw [← hc.len, hl]) (fun j s u hs hu => by
    have hj : j < args'.length := by rw [hc.len]; exact (List.getElem?_eq_some_iff.1 hs).1
    exact (hc.at j _ s (List.getElem?_eq_getElem hj) hs).den (hd j _ u (List.getElem?_eq_getElem hj) hu))⟩
theorem FnOk.resA {P : Program} {f : FuncId} {args : List SV} {res res' : SV} (h : FnOk P f args res) (hr : AEq res res') : FnOk P f args res' :=
  ⟨h.1, fun M w vs hM hl hd => (h.2 M w vs hM hl hd).mono fun e w' ⟨r, h1, h2, h3⟩ => ⟨r, h1, h2, hr.den h3⟩⟩
theorem COk.convA {P : Program} {f : FuncId} {args args' : List SV} {ks : List KB} {R : SV → List KB → Prop} (h : COk P f args ks R) (hc : AEqL args' args) : COk P f args' ks R :=
  ⟨h.1, fun X w β fp vs hM hl hd => h.2 X w β fp vs hM (by rw [← hc.len, hl]) (fun j s u hs hu => by
    have hj : j < args'.length := by rw [hc.len]; exact (List.getElem?_eq_some_iff.1 hs).1
    exact (hc.at j _ s (List.getElem?_eq_getElem hj) hs).den (hd j _ u (List.getElem?_eq_getElem hj) hu))⟩
theorem COk.imp {P : Program} {f : FuncId} {args : List SV} {ks : List KB} {R R' : SV → List KB → Prop} (h : COk P f args ks R) (hR : ∀ s k, R s k → R' s k) : COk P f args ks R' :=
  ⟨h.1, fun X w β fp vs hM hl hd => (h.2 X w β fp vs hM hl hd).mono fun e w' ⟨r, s, k, b, p, h1, h2, h3⟩ => ⟨r, s, k, b, p, h1, hR s k h2, h3⟩⟩
end Go.Eng
namespace Go.Eng
open Go Go.RowKit
theorem beq_false {a b : Nat} (h : a ≠ b) : Nat.beq a b = false := by
  cases hb : Nat.beq a b
  · rfl
  · exact absurd (Nat.eq_of_beq_eq_true hb) h
theorem memN_range' (t p n : Nat) (h : t < p) : memN t (List.range' p n) = false := by
  induction n generalizing p with
  | zero => rfl
  | succ n ih => rw [List.range'_succ, memN, beq_false (by omega)]; exact ih (p + 1) (by omega)
theorem okN_range' (m p n : Nat) (h : p + n ≤ m) : okN m (List.range' p n) = true := by
  induction n generalizing p with
  | zero => rfl
  | succ n ih =>
    rw [List.range'_succ, okN, memN_range' _ _ _ (by omega), Nat.ble_eq_true_of_le (show p + 1 ≤ m by omega)]
    exact ih (p + 1) (by omega)
theorem getBs_range' (pre l rest : List KB) : getBs (pre ++ (l ++ rest)) (List.range' pre.length l.length) = l := by
  induction l generalizing pre with
  | nil => rfl
  | cons a l ih =>
    rw [List.length_cons, List.range'_succ, getBs, getB_eq]
    have := ih (pre ++ [a])
    simp only [List.length_append, List.length_cons, List.length_nil, Nat.zero_add, List.append_assoc, List.cons_append, List.nil_append] at this
    rw [List.cons_append, this]
    simp
theorem setBs_range' (pre l rest m : List KB) (h : l.length ≤ m.length) : setBs (pre ++ (l ++ rest)) (List.range' pre.length l.length) m = pre ++ (m.take l.length ++ rest) := by
  induction l generalizing pre m with
  | nil => cases m <;> simp [setBs]
  | cons a l ih =>
    cases m with
    | nil => simp at h
    | cons b m =>
      rw [List.length_cons, List.range'_succ, setBs, setB_eq]
      have e : (pre ++ (a :: l ++ rest)).set pre.length b = (pre ++ [b]) ++ (l ++ rest) := by simp
      rw [e]
      have := ih (pre ++ [b]) m (by simpa using h)
      simp only [List.length_append, List.length_cons, List.length_nil, Nat.zero_add] at this
      rw [this]
      simp
/-- The contract's blocks lie behind pre, one behind another; new ones come behind all. -/
theorem COk.among {P : Program} {f : FuncId} {al : List SV} {k0 : List KB} {R : SV → List KB → Prop} (h : COk P f al k0 R) (pre rest : List KB) (hR : ∀ s k, R s k → k0.length ≤ k.length) {σ : Nat → Nat} (hσ : σ = sig (List.range' pre.length k0.length) (pre.length + (k0.length + rest.length))) :
    COk P f (mapL σ al) (pre ++ (mapB σ k0 ++ rest)) (fun s k => ∃ s0 k1, R s0 k1 ∧ s = mapV σ s0 ∧ k = pre ++ (mapB σ (k1.take k0.length) ++ (rest ++ mapB σ (k1.drop k0.length)))) := by
  have hl : (mapB σ k0).length = k0.length := mapB_length σ k0
  have hN : lenB (pre ++ (mapB σ k0 ++ rest)) = pre.length + (k0.length + rest.length) := by rw [lenB_eq]; simp [hl]
  refine h.frame (List.range' pre.length k0.length) ?_ ?_ ?_ (fun s0 k1 h0 => ?_)
  · rw [hN]; exact okN_range' _ _ _ (by omega)
  · rw [hN, ← hσ]
  · rw [hN, ← hσ]
    have := getBs_range' pre (mapB σ k0) rest
    rwa [hl] at this
  · rw [hN, ← hσ]
    have hk := hR _ _ h0
    refine ⟨s0, k1, h0, rfl, ?_⟩
    unfold putBs
    have := setBs_range' pre (mapB σ k0) rest (mapB σ k1) (by rw [hl, mapB_length]; exact hk)
    rw [hl] at this
    rw [appB_eq, this, dropB_eq]
    have e1 : ∀ n, (mapB σ k1).take n = mapB σ (k1.take n) := fun n => List.ext_getElem? fun j => by
      rw [mapB_get, List.getElem?_take, List.getElem?_take, mapB_get]
      split <;> rfl
    have e2 : ∀ n, (mapB σ k1).drop n = mapB σ (k1.drop n) := fun n => List.ext_getElem? fun j => by
      rw [mapB_get, List.getElem?_drop, List.getElem?_drop, mapB_get]
    rw [e1, e2]
    simp
end Go.Eng
namespace Go.Eng
open Go Go.RowKit
section
variable {X : Nat → Prop} {w : World} {β : Env} {fp : Nat → Nat → Prop} {ks : List KB}
theorem Mem.nilCell (h : Mem X w β fp ks) {i j : Nat} {t e : TypeId} {l : List SV} {sz sz' : Nat} {f f' : Nat → List DV} (hki : ks[i]? = some (.cells t l)) (hj : l[j]? = some (.d (.sl true 0 sz' f'))) :
    Went X w β fp w (upd β ks.length (some ⟨0, 0, 0, sz, true⟩)) fp (ks.set i (.cells t (l.set j (.all ks.length))) ++ [.row e sz 0 .iff f]) := by
  have hW := h.nilRow e sz .iff (by simp) f
  have hm := hW.mem
  have hil : i < ks.length := (List.getElem?_eq_some_iff.1 hki).1
  refine ⟨⟨⟨hm.xa, hm.xb, hm.dis, hm.kw, hm.kn, fun q L k hk hne hL => ?_⟩, fun q hq => hm.kl q (by simpa using hq), fun q t' dom cols hq => ?_⟩, hW.st, hW.ext, hW.own⟩
  case refine_2 =>
    refine hm.ka q t' dom cols ?_
    by_cases hql : q < ks.length
    · rw [List.getElem?_append_left (by simpa using hql), List.getElem?_set] at hq
      rw [List.getElem?_append_left hql]
      split at hq
      · cases hq
      · exact hq
    · rw [List.getElem?_append_right (by simp; omega)] at hq
      rw [List.getElem?_append_right (by omega)]
      simpa using hq
  by_cases hq : q < ks.length
  · rw [List.getElem?_append_left (by simpa using hq), List.getElem?_set] at hk
    split at hk
    · rename_i eq
      subst eq
      cases hk
      have hkb := hm.kb i L (.cells t l) (by rw [List.getElem?_append_left hil]; exact hki) (by simp) hL
      cases hkb with
      | cells _ _ vs h0 h1 h3 h4 h5 =>
        refine .cells t _ vs h0 h1 (by simpa using h3) (fun p s u hs hu => ?_) h5
        rw [List.getElem?_set] at hs
        split at hs
        · rename_i ep
          subst ep
          split at hs
          · rename_i hlt
            cases hs
            have hd := h4 j _ u hj hu
            cases den_data hd
            exact .allNil _ _ (upd_same _ _ _) rfl
          · cases hs
        · exact h4 p s u hs hu
    · exact hm.kb q L k (by rw [List.getElem?_append_left hq]; exact hk) hne hL
  · rw [List.getElem?_append_right (by simp; omega)] at hk
    exact hm.kb q L k (by rw [List.getElem?_append_right (by omega)]; simpa using hk) hne hL
end
/-- An empty nil slice in a cell of a result's blocks is a row, too. -/
theorem COk.nilCell {P : Program} {f : FuncId} {al : List SV} {k0 : List KB} {R R' : SV → List KB → Prop} (h : COk P f al k0 R) (e : TypeId) (sz : Nat)
    (hR : ∀ s k, R s k → (R' s k) ∨ ∃ i j t l sz' f' g, k[i]? = some (.cells t l) ∧ l[j]? = some (.d (.sl true 0 sz' f')) ∧ R' s (k.set i (.cells t (l.set j (.all k.length))) ++ [.row e sz 0 .iff g])) : COk P f al k0 R' :=
  ⟨h.1, fun X w β fp vs hM hl hd => (h.2 X w β fp vs hM hl hd).mono fun x w' ⟨r, s, k, b, p, h1, h2, h3, h4⟩ => by
    rcases hR s k h2 with hR | ⟨i, j, t, l, sz', f', g, e1, e2, e3⟩
    · exact ⟨r, s, k, b, p, h1, hR, h3, h4⟩
    · have hW := h3.mem.nilCell (e := e) (sz := sz) (f := g) e1 e2
      exact ⟨r, s, _, _, p, h1, e3, h3.trans hW, hW.den h4⟩⟩
/-- A thing that lies in n blocks one behind another: F a p, from number p on. Its contract among other blocks. -/
theorem COk.fam {α : Type} (F : α → Nat → List KB) (n : Nat) (hn : ∀ a p, (F a p).length = n) (hF : ∀ a (σ : Nat → Nat) p, (∀ i, i < n → σ i = p + i) → mapB σ (F a 0) = F a p)
    {P : Program} {f : FuncId} {al al' : List SV} {a : α} {Q : SV → α → Prop} (h : COk P f al (F a 0) (fun s k => ∃ a1, k = F a1 0 ∧ Q s a1)) (pre rest : List KB) (σ : Nat → Nat) (hσ : σ = sig (List.range' pre.length n) (pre.length + (n + rest.length))) (ha : mapL σ al = al') :
    COk P f al' (pre ++ (F a pre.length ++ rest)) (fun s k => ∃ s0 a1, Q s0 a1 ∧ s = mapV σ s0 ∧ k = pre ++ (F a1 pre.length ++ rest)) := by
  have hi : ∀ i, i < n → σ i = pre.length + i := fun i hi => by
    rw [hσ]
    unfold sig
    rw [List.getElem?_range' hi]
    simp
  have := h.among pre rest (σ := σ) (fun s k hs => by obtain ⟨c', rfl, _⟩ := hs; rw [hn, hn]; exact Nat.le_refl _) (by rw [hn]; exact hσ)
  rw [hF a σ pre.length hi, ha] at this
  refine this.imp fun s k ⟨s0, k1, ⟨c', hk1, hr⟩, hs, hk⟩ => ?_
  subst hk1
  refine ⟨s0, c', hr, hs, ?_⟩
  have e1 : (F c' 0).take (F a 0).length = F c' 0 := by rw [hn, ← hn c' 0, List.take_length]
  have e2 : (F c' 0).drop (F a 0).length = [] := by rw [hn, ← hn c' 0, List.drop_length]
  rw [hk, e1, e2, hF c' σ pre.length hi]
  simp [mapB]
end Go.Eng
namespace Go.Eng
open Go Go.RowKit
/-- Blocks that are known, as one. -/
def packed (ks : List KB) : World → (Nat → Prop) → Loc → (Nat → Prop) → Prop := fun w M L fp =>
  ∃ (β : Env) (fps : Nat → Nat → Prop), β 0 = some L ∧ (∀ i, ks.length ≤ i → β i = none) ∧ (∀ b, fp b ↔ ∃ i, fps i b) ∧ (∀ i j b, fps i b → fps j b → i = j) ∧ (∀ i b, fps i b → ∃ L, β i = some L) ∧
    (∀ i t dom cols, ks[i]? = some (.arena t dom cols) → ∃ L, β i = some L) ∧ ∀ (i : Nat) (L : Loc) (k : KB), ks[i]? = some k → k ≠ .gone → β i = some L → KBat w M β L (fps i) k
def pk (ks : List KB) : KB := .obj (packed ks)
theorem packed_stable (ks : List KB) : Stable (packed ks) := fun w w' M M' L fp ⟨β, fps, h1, h2, h3, h4, h5, h6, h7⟩ hs hb hM =>
  ⟨β, fps, h1, h2, h3, h4, h5, h6, fun i L k hk hne hL => (h7 i L k hk hne hL).keep hs hM (Ext.refl _) (fun b hf => hb b ((h3 b).2 ⟨i, hf⟩))⟩
mutual
/-- It points to nothing but the root. -/
def rootV : SV → Bool
  | .ptr 0 _ => true
  | .d _ => true
  | .dptr _ _ => true
  | .v _ => true
  | .any => true
  | .agg l => rootL l
  | .tup l => rootL l
  | .fn _ l => rootL l
  | _ => false
def rootL : List SV → Bool
  | [] => true
  | a :: l => rootV a && rootL l
end
theorem rootL_get {l : List SV} (h : rootL l = true) (j : Nat) (s : SV) (hs : l[j]? = some s) : rootV s = true := by
  induction l generalizing j with
  | nil => simp at hs
  | cons a l ih =>
    simp only [rootL, Bool.and_eq_true] at h
    cases j with
    | zero => simp at hs; subst hs; exact h.1
    | succ j => exact ih h.2 j (by simpa using hs)
theorem Den.root {w : World} {M M' : Nat → Prop} {β : Env} {s : SV} {v : Value} (h : Den w M β s v) (hc : rootV s = true) {β' : Env} (h0 : ∀ L, β 0 = some L → β' 0 = some L) (hM : ∀ b, M' b → M b) : Den w M' β' s v := by
  induction h with
  | d h => exact .d (h.mono (Step.refl _ _) (fun b _ e => hM b e))
  | ptr i off L h =>
    cases i with
    | zero => exact .ptr 0 off L (h0 L h)
    | succ i => simp [rootV] at hc
  | dptr cells off ad u h1 h2 h3 h4 => exact .dptr cells off ad u h1 (fun e => h2 (hM _ e)) h3 (fun j d hd => (h4 j d hd).mono (Step.refl _ _) (fun b _ e => hM b e))
  | agg l vs h1 _ h3 ih =>
    simp only [rootV] at hc
    exact .agg l vs h1 (fun j s u a b => ih j s u a b (rootL_get hc j s a)) h3
  | tup l vs h1 _ ih =>
    simp only [rootV] at hc
    exact .tup l vs h1 (fun j s u a b => ih j s u a b (rootL_get hc j s a))
  | fn f caps vs h1 _ ih =>
    simp only [rootV] at hc
    exact .fn f caps vs h1 (fun j s u a b => ih j s u a b (rootL_get hc j s a))
  | v x => exact .v x
  | any x => exact .any x
  | _ => simp [rootV] at hc
section
variable {P : Program} {TT : Nat → Option TI} {IN : Nat → Option Inl} {X : Nat → Prop} {w w' : World} {β β' : Env} {fp fp' : Nat → Nat → Prop} {ks : List KB}
/-- What was known as one, block by block. -/
theorem Mem.unpack (h : Mem X w β fp [pk ks]) {L : Loc} (hL : β 0 = some L) : ∃ β' fp', Went X w β fp w β' fp' ks ∧ β' 0 = some L := by
  have hk := h.kb 0 L (pk ks) rfl (by simp [pk]) hL
  cases hk with
  | obj _ _ hφ =>
    obtain ⟨β', fps, h1, h2, h3, h4, h5, h6, h7⟩ := hφ
    have hf : ∀ i b, fp i b → ∃ j, fps j b := fun i b hb => by
      cases i with
      | zero => exact (h3 b).1 hb
      | succ i =>
        obtain ⟨L', hL'⟩ := h.kn _ _ hb
        rw [h.kl (i + 1) (by simp)] at hL'
        cases hL'
    have hMx : ∀ b, Mx X fps b → Mx X fp b := fun b hm => hm.imp id (fun ⟨i, hi⟩ => ⟨0, (h3 b).2 ⟨i, hi⟩⟩)
    refine ⟨β', fps, ⟨⟨⟨h.xa, fun i b hb => h.xb 0 b ((h3 b).2 ⟨i, hb⟩), h4, fun i b hb => h.kw 0 b ((h3 b).2 ⟨i, hb⟩), h5, fun i L k hk hne hL => (h7 i L k hk hne hL).keep (Step.refl _ w).keep (fun b _ hm => hMx b hm) (Ext.refl _) (fun _ _ => rfl)⟩, h2, h6⟩, Step.refl _ _, fun i L' hL' => ?_, fun i b hb => .inl ⟨0, (h3 b).2 ⟨i, hb⟩⟩⟩, h1⟩
    cases i with
    | zero => rw [hL] at hL'; cases hL'; exact h1
    | succ i => rw [h.kl (i + 1) (by simp)] at hL'; cases hL'
/-- And together again. -/
theorem Went.pack {w0 : World} {β0 : Env} {fp0 : Nat → Nat → Prop} (h : Went X w0 β0 fp0 w β fp ks) {L : Loc} (hL : β0 0 = some L) (hkl : ∀ i, 1 ≤ i → β0 i = none) :
    Went X w0 β0 fp0 w β0 (fun i b => i = 0 ∧ ∃ j, fp j b) [pk ks] ∧ (∀ b, Mx X (fun i b => i = 0 ∧ ∃ j, fp j b) b ↔ Mx X fp b) ∧ β 0 = some L := by
  have hm := h.mem
  have hMx : ∀ b, Mx X (fun i b => i = 0 ∧ ∃ j, fp j b) b ↔ Mx X fp b := fun b => ⟨fun hm => hm.imp id (fun ⟨_, _, j, hj⟩ => ⟨j, hj⟩), fun hm => hm.imp id (fun ⟨j, hj⟩ => ⟨0, rfl, j, hj⟩)⟩
  have hβ := h.ext 0 L hL
  refine ⟨⟨⟨⟨hm.xa, fun i b hb => ?_, fun i j b hi hj => hi.1.trans hj.1.symm, fun i b hb => ?_, fun i b hb => ?_, fun i L' k hk hne hL' => ?_⟩, fun i hi => hkl i (by simpa using hi), fun i t dom cols hi => ?_⟩, h.st, Ext.refl _, fun i b hb => ?_⟩, hMx, hβ⟩
  · obtain ⟨_, j, hj⟩ := hb; exact hm.xb j b hj
  · obtain ⟨_, j, hj⟩ := hb; exact hm.kw j b hj
  · obtain ⟨rfl, _⟩ := hb; exact ⟨L, hL⟩
  · cases i with
    | succ i => simp at hk
    | zero =>
      simp only [List.getElem?_cons_zero, Option.some.injEq] at hk
      subst hk
      rw [hL] at hL'
      cases hL'
      refine .obj _ (packed_stable ks) ⟨β, fp, hβ, hm.kl, fun b => ⟨fun e => e.2, fun e => ⟨rfl, e⟩⟩, hm.dis, hm.kn, hm.ka, fun i L k hk hne hL => ?_⟩
      exact (hm.kb i L k hk hne hL).keep (Step.refl _ w).keep (fun b _ e => (hMx b).1 e) (Ext.refl _) (fun _ _ => rfl)
  · cases i with
    | zero => simp [pk] at hi
    | succ i => simp at hi
  · obtain ⟨_, j, hj⟩ := hb; exact h.own j b hj
/-- The contract of a function over a thing of several blocks, to the root of which its first argument points. -/
theorem pOk_of_run (hTT : TTok P TT) (hIN : INok P IN) (hmix : P.follows .mixedOrders = true) {f : FuncId} {fn : Func} {c : Code} (m : Nat) (hf : P.funcs[f]? = some fn) (hb : fn.body = some c) (hent : ∀ (args : Array Value) (w : World), (callFunc f args).run P w = .ok (.enter f args) w)
    {args : List SV} {off : Nat} {ks : List KB} {R : SV → List KB → Prop} (k : Nat) (hk : fn.ntmps = (args.length + 1) + k) (hr : rootL args = true) (hR : ∀ s l, R s l → rootV s = true)
    (h : run P TT IN m ⟨1, none⟩ [.code c] ((.ptr 0 off :: args) ++ anys k) ks (endM TT fn.results.toList 1 R)) : COk P f (.ptr 0 off :: args) [pk ks] (fun s l => ∃ k1, l = [pk k1] ∧ R s k1) := by
  refine ⟨hent, fun X w β fp vs hM hl hd => ?_⟩
  have hL : ∃ L, β 0 = some L := by
    cases vs with
    | nil => simp at hl
    | cons v vs =>
      have := hd 0 _ v rfl rfl
      cases this with
      | ptr _ _ L hL => exact ⟨L, hL⟩
  obtain ⟨L, hL⟩ := hL
  have hkl : ∀ i, 1 ≤ i → β i = none := fun i hi => hM.kl i (by simpa using hi)
  obtain ⟨β1, fp1, hW1, h10⟩ := hM.unpack hL
  refine (callsIn_wide (n := 0)).1 (callsIn_of_wp_marks hf hb trivial ?_ rfl)
  have hS1 := enter_sat hW1.mem hl (fun j s u hs hu => hW1.den (hd j s u hs hu)) (k := k) (m := fn.ntmps) (by simpa using hk)
  have hS : Sat ⟨X, w, β, fp⟩ w β1 fp1 ((.ptr 0 off :: args) ++ anys k) ks _ := ⟨hW1.trans hS1.went, hS1.df, hS1.len, hS1.tm⟩
  have := run_sound hTT hIN hmix m ⟨X, w, β, fp⟩ ⟨1, none⟩ none 0 (bodyPostM (wideF none) 0 P fn (fun e w' => ∃ r s ks' β' fp', e = .returned r ∧ (∃ k1, ks' = [pk k1] ∧ R s k1) ∧ Went X w β fp w' β' fp' ks' ∧ Den w' (Mx X fp') β' s r)) _ hkl rfl (fun e ts2 ks2 a2 w2 β2 fp2 hK hS2 => by
    have fin : resK TT ts2 ks2 fn.results.toList (fun vs => FinOk 1 R vs ks2) → LeavesInM (wideF none) 0 P fn a2.tmps (fun e w' => ∃ r s ks' β' fp', e = .returned r ∧ (∃ k1, ks' = [pk k1] ∧ R s k1) ∧ Went X w β fp w' β' fp' ks' ∧ Den w' (Mx X fp') β' s r) a2.defers .returning w2 := fun hK => by
      refine leave_marks (a := a2) (fun w3 hS3 => ?_) a2.defers w2 hS2
      obtain ⟨ss, us, v, ⟨ρ, s', ks', o1, o2, hsv, hsb, hR'⟩, e1, e3, hrun, _, hden⟩ := results_spec (P := P) hTT hS3 hK
      rw [lenB_eq] at o1
      have hW := (hS3.went.ren hkl ρ o1 o2).less hsb
      have hMx : ∀ b, Mx X (renF ρ fp2) b → Mx X fp2 b := fun b hm => hm.imp id (fun ⟨k, i, _, hb⟩ => ⟨i, hb⟩)
      have hden' := SubV_den hsv ((den_less hden hMx).ren ρ)
      obtain ⟨hP, hPM, hP0⟩ := hW.pack hL hkl
      exact ⟨v, hrun, v, s', _, _, _, rfl, ⟨ks', rfl, hR'⟩, hP, hden'.root (hR _ _ hR') (fun L' hL' => by rw [hP0] at hL'; cases hL'; exact hL) (fun b hb => (hPM b).1 hb)⟩
    cases e with
    | normal => exact fin hK
    | ret => exact fin hK
    | _ => exact hK.elim) [.code c] _ _ _ _ _ _ h trivial hS
  exact wpIn_mono this (fun e a' w' he => he)
/-- A thing that is made, as one. -/
theorem COk.packNew {f : FuncId} {al : List SV} {R : SV → List KB → Prop} (h : COk P f al [] R) (hR : ∀ s k, R s k → rootV s = true) : COk P f al [] (fun s l => ∃ k1, l = [pk k1] ∧ R s k1) := by
  refine ⟨h.1, fun X w β fp vs hM hl hd => (h.2 X w β fp vs hM hl hd).mono fun x w' ⟨r, s, k, b, p, h1, h2, h3, h4⟩ => ?_⟩
  have hm := h3.mem
  have hno : ∀ i, β i = none := fun i => hM.kl i (Nat.zero_le _)
  cases hb0 : b 0 with
  | none =>
    refine ⟨r, s, [pk k], fun _ => none, fun _ _ => False, h1, ⟨k, rfl, h2⟩, ⟨⟨⟨hm.xa, fun i b hb => hb.elim, fun i j b hb => hb.elim, fun i b hb => hb.elim, fun i b hb => hb.elim, fun i L k hk hne hL => (by cases hL)⟩, fun i hi => rfl, fun i t dom cols hi => ?_⟩, h3.st, fun i L hL => (by rw [hno] at hL; cases hL), fun i b hb => hb.elim⟩,
      h4.root (hR s k h2) (fun L hL => (by rw [hb0] at hL; cases hL)) (fun x hx => hx.imp id (fun ⟨_, hf⟩ => hf.elim))⟩
    cases i with
    | zero => simp [pk] at hi
    | succ i => simp at hi
  | some L =>
    have hMx : ∀ x, Mx X (fun i b => i = 0 ∧ ∃ j, p j b) x ↔ Mx X p x := fun x => ⟨fun hm => hm.imp id (fun ⟨_, _, j, hj⟩ => ⟨j, hj⟩), fun hm => hm.imp id (fun ⟨j, hj⟩ => ⟨0, rfl, j, hj⟩)⟩
    refine ⟨r, s, [pk k], fun i => if i = 0 then some L else none, fun i b => i = 0 ∧ ∃ j, p j b, h1, ⟨k, rfl, h2⟩, ⟨⟨⟨hm.xa, fun i b hb => ?_, fun i j b hi hj => hi.1.trans hj.1.symm, fun i b hb => ?_, fun i b hb => ⟨L, by rw [if_pos hb.1]⟩, fun i L' k' hk hne hL' => ?_⟩, fun i hi => ?_, fun i t dom cols hi => ?_⟩, h3.st, fun i L hL => (by rw [hno] at hL; cases hL), fun i b hb => ?_⟩,
      h4.root (hR s k h2) (fun L' hL' => by rw [hb0] at hL'; cases hL'; rfl) (fun x hx => (hMx x).1 hx)⟩
    · obtain ⟨_, j, hj⟩ := hb; exact hm.xb j b hj
    · obtain ⟨_, j, hj⟩ := hb; exact hm.kw j b hj
    · cases i with
      | succ i => simp at hk
      | zero =>
        simp only [List.getElem?_cons_zero, Option.some.injEq] at hk
        subst hk
        simp only [if_true, Option.some.injEq] at hL'
        subst hL'
        refine .obj _ (packed_stable k) ⟨b, p, hb0, hm.kl, fun x => ⟨fun e => e.2, fun e => ⟨rfl, e⟩⟩, hm.dis, hm.kn, hm.ka, fun i L k hk hne hL => ?_⟩
        exact (hm.kb i L k hk hne hL).keep (Step.refl _ w').keep (fun x _ e => (hMx x).1 e) (Ext.refl _) (fun _ _ => rfl)
    · rw [if_neg (by simp at hi; omega)]
    · cases i with
      | zero => simp [pk] at hi
      | succ i => simp at hi
    · obtain ⟨_, j, hj⟩ := hb; exact h3.own j b hj
end
/-- A thing's blocks told one by one again: its root where it was, the others behind all. -/
def expS (n : Nat) (j : Nat) : Nat := if j = 0 then 0 else n + (j - 1)
def gones : Nat → List KB
  | 0 => []
  | n + 1 => .gone :: gones n
def expl (n : Nat) (k : List KB) : List KB := (match mapB (expS n) k with
  | [] => [.gone]
  | a :: _ => [a]) ++ (gones (n - 1) ++ (mapB (expS n) k).drop 1)
theorem gones_length (n : Nat) : (gones n).length = n := by
  induction n with
  | zero => rfl
  | succ n ih => simp [gones, ih]
theorem gones_get (n i : Nat) (k : KB) (h : (gones n)[i]? = some k) : k = .gone := by
  induction n generalizing i with
  | zero => simp [gones] at h
  | succ n ih =>
    cases i with
    | zero => simpa [gones] using h.symm
    | succ i => exact ih i (by simpa [gones] using h)
theorem expl_get {n : Nat} (hn : 0 < n) {k : List KB} {i : Nat} {b : KB} (h : (expl n k)[i]? = some b) (hne : b ≠ .gone) : ∃ j c, expS n j = i ∧ k[j]? = some c ∧ b = mapK (expS n) c := by
  unfold expl at h
  cases i with
  | zero =>
    refine ⟨0, ?_⟩
    cases k with
    | nil => simp [mapB] at h; exact absurd h.symm hne
    | cons a k => simp [mapB] at h; exact ⟨a, rfl, rfl, h.symm⟩
  | succ i =>
    have h1 : (gones (n - 1) ++ (mapB (expS n) k).drop 1)[i]? = some b := by
      cases k with
      | nil => simpa [mapB] using h
      | cons a k => simpa [mapB] using h
    by_cases hi : i < n - 1
    · rw [List.getElem?_append_left (by rw [gones_length]; exact hi)] at h1
      exact absurd (gones_get _ _ _ h1) hne
    · rw [List.getElem?_append_right (by rw [gones_length]; omega), gones_length, List.getElem?_drop, mapB_get] at h1
      obtain ⟨c, hc, rfl⟩ := Option.map_eq_some_iff.1 h1
      refine ⟨1 + (i - (n - 1)), c, ?_, hc, rfl⟩
      unfold expS
      rw [if_neg (by omega)]
      omega
theorem expl_length {n : Nat} (hn : 0 < n) (k : List KB) : (expl n k).length = n + (k.length - 1) := by
  unfold expl
  cases k with
  | nil => simp [mapB, gones_length]; omega
  | cons a k => simp [mapB, gones_length, mapB_length]; omega
theorem COk.explode {P : Program} {f : FuncId} {al : List SV} {off : Nat} {k0 : List KB} {R : SV → List KB → Prop} (h : COk P f (.ptr 0 off :: al) [pk k0] (fun s l => ∃ k1, l = [pk k1] ∧ R s k1)) (hn : 0 < k0.length) (hr : rootL al = true) (hR : ∀ s l, R s l → rootV s = true) :
    COk P f (.ptr 0 off :: al) k0 (fun s k => ∃ k1, R s k1 ∧ k = expl k0.length k1) := by
  refine ⟨h.1, fun X w β fp vs hM hl hd => ?_⟩
  have hL : ∃ L, β 0 = some L := by
    cases vs with
    | nil => simp at hl
    | cons v vs =>
      have := hd 0 _ v rfl rfl
      cases this with
      | ptr _ _ L hL => exact ⟨L, hL⟩
  obtain ⟨L, hL⟩ := hL
  have hMx : ∀ b, Mx X (fun i b => i = 0 ∧ ∃ j, fp j b) b ↔ Mx X fp b := fun b => ⟨fun hm => hm.imp id (fun ⟨_, _, j, hj⟩ => ⟨j, hj⟩), fun hm => hm.imp id (fun ⟨j, hj⟩ => ⟨0, rfl, j, hj⟩)⟩
  have hP : Mem X w (fun i => if i = 0 then some L else none) (fun i b => i = 0 ∧ ∃ j, fp j b) [pk k0] := by
    refine ⟨⟨hM.xa, fun i b hb => ?_, fun i j b hi hj => hi.1.trans hj.1.symm, fun i b hb => ?_, fun i b hb => ⟨L, by rw [if_pos hb.1]⟩, fun i L' k' hk hne hL' => ?_⟩, fun i hi => by rw [if_neg (by simp at hi; omega)], fun i t dom cols hi => ?_⟩
    · obtain ⟨_, j, hj⟩ := hb; exact hM.xb j b hj
    · obtain ⟨_, j, hj⟩ := hb; exact hM.kw j b hj
    · cases i with
      | succ i => simp at hk
      | zero =>
        simp only [List.getElem?_cons_zero, Option.some.injEq] at hk
        subst hk
        simp only [if_true, Option.some.injEq] at hL'
        subst hL'
        refine .obj _ (packed_stable k0) ⟨β, fp, hL, hM.kl, fun x => ⟨fun e => e.2, fun e => ⟨rfl, e⟩⟩, hM.dis, hM.kn, hM.ka, fun i L k hk hne hL => ?_⟩
        exact (hM.kb i L k hk hne hL).keep (Step.refl _ w).keep (fun x _ e => (hMx x).1 e) (Ext.refl _) (fun _ _ => rfl)
    · cases i with
      | zero => simp [pk] at hi
      | succ i => simp at hi
  have hroots : rootL (.ptr 0 off :: al) = true := by simp [rootL, rootV, hr]
  refine (h.2 X w _ _ vs hP hl (fun j s u hs hu => (hd j s u hs hu).root (rootL_get hroots j s hs) (fun L' hL' => by rw [hL] at hL'; cases hL'; rfl) (fun b hb => (hMx b).1 hb))).mono fun e w' ⟨r, s, k, β1, fp1, he, ⟨k1, hk1, hR1⟩, hW1, hd1⟩ => ?_
  subst hk1
  have hL1 : β1 0 = some L := hW1.ext 0 L rfl
  obtain ⟨β2, fp2, hW2, hL2⟩ := hW1.mem.unpack hL1
  have hW := hW1.trans hW2
  have hm := hW.mem
  -- the new numbers
  let N := k0.length
  let inv : Nat → Option Nat := fun i => if i = 0 then some 0 else if i < N then none else some (i - N + 1)
  have hinv : ∀ i j, inv i = some j → expS N j = i := fun i j h => by
    simp only [inv] at h
    unfold expS
    split at h
    · cases h; rename_i h0; simp [h0]
    · split at h
      · cases h
      · cases h
        rename_i h1 h2
        rw [if_neg (by omega)]
        omega
  have hinv' : ∀ j, inv (expS N j) = some j := fun j => by
    simp only [inv]
    unfold expS
    split
    · rename_i h0; simp [h0]
    · rename_i h0
      rw [if_neg (by omega), if_neg (by omega)]
      congr 1
      omega
  let β3 : Env := fun i => if i < N then β i else (match inv i with | some j => β2 j | none => none)
  let fp3 : Nat → Nat → Prop := fun i b => ∃ j, inv i = some j ∧ fp2 j b
  have hb3 : ∀ j L', β2 j = some L' → β3 (expS N j) = some L' := fun j L' hj => by
    simp only [β3]
    by_cases h0 : j = 0
    · subst h0
      rw [hL2] at hj
      cases hj
      have : expS N 0 = 0 := rfl
      rw [this, if_pos hn, hL]
    · have : ¬ expS N j < N := by unfold expS; rw [if_neg h0]; omega
      rw [if_neg this, hinv' j]
      exact hj
  have hMx3 : ∀ b, Mx X fp3 b ↔ Mx X fp2 b := fun b => ⟨fun hm => hm.imp id (fun ⟨i, j, _, hj⟩ => ⟨j, hj⟩), fun hm => hm.imp id (fun ⟨j, hj⟩ => ⟨expS N j, j, hinv' j, hj⟩)⟩
  refine ⟨r, s, expl N k1, β3, fp3, he, ⟨k1, hR1, rfl⟩, ⟨⟨⟨hm.xa, fun i b ⟨j, _, hj⟩ => hm.xb j b hj, fun i i' b ⟨j, hj, hb⟩ ⟨j', hj', hb'⟩ => ?_, fun i b ⟨j, _, hj⟩ => hm.kw j b hj, fun i b ⟨j, hj, hb⟩ => ?_, fun i L' b hi hne hL' => ?_⟩, fun i hi => ?_, fun i t dom cols hi => ?_⟩, ?_, fun i L' hL' => ?_, fun i b ⟨j, _, hj⟩ => ?_⟩, ?_⟩
  · rw [← hinv i j hj, ← hinv i' j' hj', hm.dis j j' b hb hb']
  · obtain ⟨L', hL'⟩ := hm.kn j b hb
    exact ⟨L', by rw [← hinv i j hj]; exact hb3 j L' hL'⟩
  · obtain ⟨j, c, e1, e2, e3⟩ := expl_get hn hi hne
    have hcne : c ≠ .gone := fun e => hne (by rw [e3, e]; rfl)
    have hβ2 : β2 j = some L' := by
      subst e1
      simp only [β3] at hL'
      by_cases h0 : j = 0
      · subst h0
        have : expS N 0 = 0 := rfl
        rw [this, if_pos hn, hL] at hL'
        rw [hL2, hL']
      · have : ¬ expS N j < N := by unfold expS; rw [if_neg h0]; omega
        rw [if_neg this, hinv' j] at hL'
        exact hL'
    have hfp : fp3 i = fp2 j := funext fun b => propext ⟨fun ⟨j', hj', hb⟩ => by
      have := hinv i j' hj'
      rw [← e1] at this
      have h2 := hinv' j'
      rw [this, hinv' j] at h2
      cases h2
      exact hb, fun hb => ⟨j, by rw [← e1]; exact hinv' j, hb⟩⟩
    rw [hfp, e3]
    exact ((hm.kb j L' c e2 hcne hβ2).map' hb3).keep (Step.refl _ w').keep (fun b _ e => (hMx3 b).1 e) (Ext.refl _) (fun _ _ => rfl)
  · rw [expl_length hn] at hi
    simp only [β3, inv]
    rw [if_neg (by omega), if_neg (by omega), if_neg (by omega)]
    exact hm.kl _ (by omega)
  · obtain ⟨j, c, e1, e2, e3⟩ := expl_get hn hi (by simp)
    cases c with
    | arena t' dom' cols' =>
      obtain ⟨L', hL'⟩ := hm.ka j _ _ _ e2
      exact ⟨L', by rw [← e1]; exact hb3 j L' hL'⟩
    | _ => simp [mapK] at e3
  · exact hW.st.mono (fun b _ ⟨i, _, j, hj⟩ => ⟨j, hj⟩)
  · by_cases hi : i < N
    · simp only [β3]; rw [if_pos hi]; exact hL'
    · rw [hM.kl i (by omega)] at hL'; cases hL'
  · rcases hW.own j b hj with ⟨_, _, q, hq⟩ | hb
    · exact .inl ⟨q, hq⟩
    · exact .inr hb
  · exact hd1.root (hR s k1 hR1) (fun L' hL' => by rw [hL1] at hL'; cases hL'; simp only [β3]; rw [if_pos hn]; exact hL) (fun b hb => by
      have := (hMx3 b).1 hb
      exact this.imp id (fun ⟨j, hj⟩ => (hW2.own j b hj).elim (fun ⟨q, hq⟩ => ⟨q, hq⟩) (fun hb => ⟨j, by
        exfalso
        have := hm.kw j b hj
        omega⟩)))
theorem COk.toThing {α : Type} (F : α → List KB) {P : Program} {f : FuncId} {al : List SV} {k0 : List KB} {Q : SV → α → Prop} (h : COk P f al k0 (fun s l => ∃ k1, l = [pk k1] ∧ ∃ a1, k1 = F a1 ∧ Q s a1)) : COk P f al k0 (fun s k => ∃ a1, k = [pk (F a1)] ∧ Q s a1) :=
  h.imp fun s l ⟨k1, h1, a1, h2, h3⟩ => ⟨a1, by rw [h1, h2], h3⟩
/-- A thing among other blocks. -/
theorem COk.thing {α : Type} (F : α → List KB) {P : Program} {f : FuncId} {al al' : List SV} {a : α} {Q : SV → α → Prop} (h : COk P f al [pk (F a)] (fun s k => ∃ a1, k = [pk (F a1)] ∧ Q s a1)) (pre rest : List KB) (σ : Nat → Nat) (hσ : σ = sig (List.range' pre.length 1) (pre.length + (1 + rest.length))) (ha : mapL σ al = al') :
    COk P f al' (pre ++ (pk (F a) :: rest)) (fun s k => ∃ s0 a1, Q s0 a1 ∧ s = mapV σ s0 ∧ k = pre ++ (pk (F a1) :: rest)) :=
  COk.fam (fun a _ => [pk (F a)]) 1 (fun _ _ => rfl) (fun _ _ _ _ => rfl) h pre rest σ hσ ha
end Go.Eng
namespace Go.Eng
open Go Go.RowKit
theorem COk.clos {P : Program} {f : FuncId} {g : FuncId} {al : List SV} {t : TypeId} {l : List DV} (h : COk P f al [] (fun s k => s = .fn g [.ptr 0 0] ∧ k = [.cells t (l.map .d)])) : FnOk P f al (.fn g [.dptr l 0]) := by
  refine ⟨h.1, fun M w vs hM hl hd => ?_⟩
  have hM0 : Mem M w noE (fun _ _ => False) [] := ⟨⟨hM, fun _ _ h => h.elim, fun _ _ _ h => h.elim, fun _ _ h => h.elim, fun _ _ h => h.elim, fun i L k hk => by simp at hk⟩, fun _ _ => rfl, fun i t dom cols hi => by simp at hi⟩
  refine (h.2 M w noE (fun _ _ => False) vs hM0 hl (fun j s u hs hu => (hd j s u hs hu).mono (M' := Mx M (fun _ _ => False)) (Step.refl _ _) (fun b _ hm => hm.elim id (fun ⟨_, e⟩ => e.elim)) (Ext.refl _))).mono fun e w' ⟨r, s, ks', β', fp', h1, ⟨h2, h3⟩, h4, h5⟩ => ?_
  subst h2 h3
  refine ⟨r, h1, h4.st.mono (fun b _ hb => hb.elim fun i hi => hi), ?_⟩
  cases h5 with
  | fn _ _ us e1 e2 =>
    match us, e1 with
    | [u], _ =>
      refine .fn g _ [u] rfl (fun j s v hs hv => ?_)
      match j with
      | 0 =>
        simp at hs hv
        subst hs hv
        have := e2 0 _ u rfl rfl
        cases this with
        | ptr _ _ L hL =>
          have hkb := h4.mem.kb 0 L _ rfl (by simp) hL
          cases hkb with
          | cells _ _ xs q0 q1 q3 q4 q5 =>
            have hb : fp' 0 L.b := (q0 _).2 rfl
            have hnx : ¬ M L.b := h4.mem.xb 0 _ hb
            have hget : ∀ (j : Nat) (d : DV), l[j]? = some d → ∃ x, xs[j]? = some x ∧ Rd w' M d x := fun j d hj => by
              have hj' : (l.map SV.d)[j]? = some (.d d) := by rw [List.getElem?_map, hj]; rfl
              have hlt : j < xs.size := by rw [← q3]; exact (List.getElem?_eq_some_iff.1 hj').1
              refine ⟨xs[j], Array.getElem?_eq_getElem hlt, ?_⟩
              have := q4 j _ _ hj' (Array.getElem?_eq_getElem hlt)
              exact rd_less (den_data this) (fun b hb => .inl hb)
            refine .dptr l 0 ⟨L.b, 0, none⟩ (fun j => (xs[j]?).getD undef) (h4.mem.kw 0 _ hb) hnx (fun j d hj => ?_) (fun j d hj => ?_)
            · obtain ⟨x, hx, _⟩ := hget j d hj
              have : w'.cell? (Addr.add ⟨L.b, 0, none⟩ j) = xs[j]? := by
                unfold World.cell? Addr.add
                by_cases hj0 : j = 0
                · subst hj0; simp [q1]
                · simp [hj0, q1]
              rw [this, hx]
              rfl
            · obtain ⟨x, hx, hr⟩ := hget j d hj
              rw [hx]
              exact hr
      | j + 1 => simp at hs
end Go.Eng
