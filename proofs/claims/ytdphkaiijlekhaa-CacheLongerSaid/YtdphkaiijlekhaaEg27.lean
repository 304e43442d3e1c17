/-
  The engine, part 27: what a row's reading says, as data.
-/
import Derived.ChangeArms
import Derived.OpenShut
import Derived.ReadAgain
import Derived.DataElems
import Derived.Test.YtdphkaiijlekhaaEg26
namespace Go.Eng
open Go Go.RowKit

/-- Data of a type: the integers within their kind, the lengths within a machine's. -/
inductive DT (P : Program) : TypeId → List DV → Prop where
  | int (t : TypeId) (k : IntKind) (n : Int) : P.underlying t = some (.int k) → (Lit.int k n).wf = true → DT P t [.int k n]
  | bool (t : TypeId) (b : Bool) : P.underlying t = some .bool → DT P t [.bool b]
  | str (t : TypeId) (s : List UInt8) : P.underlying t = some .string → s.length ≤ maxLen → DT P t [.str s]
  | nil (t e : TypeId) : P.underlying t = some (.slice e) → DT P t [.sl true 0 (P.cellsOf e) (fun _ => [])]
  | sl (t e : TypeId) (n : Nat) (f : Nat → List DV) : P.underlying t = some (.slice e) → n ≤ maxLen → (∀ i, i < n → DT P e (f i)) → DT P t [.sl false n (P.cellsOf e) f]
  | struct (t : TypeId) (fs : Array Field) (ds : List DV) : P.underlying t = some (.struct fs) → ds.length = P.cellsOf t → (∀ f ∈ fs.toList, DT P f.type ((ds.drop f.offset).take (P.cellsOf f.type))) → DT P t ds
  | array (t e : TypeId) (n : Nat) (ds : List DV) : P.underlying t = some (.array n e) → ds.length = P.cellsOf t → (∀ i, i < n → DT P e ((ds.drop (i * P.cellsOf e)).take (P.cellsOf e))) → DT P t ds

/-- A type of numbers, bools, texts, slices, structs and arrays. -/
def simple (P : Program) : Nat → TypeId → Bool
  | 0, _ => false
  | n + 1, t => match P.underlying t with
    | some (.int _) => true
    | some .bool => true
    | some .string => true
    | some (.slice e) => simple P n e
    | some (.struct fs) => fs.toList.all (fun f => simple P n f.type)
    | some (.array _ e) => simple P n e
    | _ => false

section
variable {H : Type} {enc : TypeId × Value → H} {P : Program} {w : World} {T : TypeId → Prop}

theorem add_block (a : Addr) (n : Nat) : (a.add n).block = a.block := by unfold Addr.add; split <;> rfl
theorem sum_const (c : Nat) : ∀ j, ((List.range j).map (fun _ => c)).sum = j * c
  | 0 => by simp
  | j + 1 => by rw [List.range_succ, List.map_append, List.sum_append, sum_const c j, Nat.add_mul]; simp

/-- Pieces that lie one behind another. -/
theorem glue {M : Nat → Prop} : ∀ (ps : List (Nat × Nat × TypeId)) (off : Nat) (cs : List Value), (∀ (j : Nat) (p : Nat × Nat × TypeId), ps[j]? = some p → p.1 = off + ((ps.take j).map (·.2.1)).sum) →
    (∀ p ∈ ps, ∃ ds, DT P p.2.2 ds ∧ ds.length = p.2.1 ∧ ∀ (q : Nat) (d : DV) (v : Value), ds[q]? = some d → cs[p.1 + q]? = some v → Rd w M d v) →
    ∃ ds : List DV, ds.length = (ps.map (·.2.1)).sum ∧ (∀ p ∈ ps, off ≤ p.1 ∧ DT P p.2.2 ((ds.drop (p.1 - off)).take p.2.1)) ∧ ∀ (q : Nat) (d : DV) (v : Value), ds[q]? = some d → cs[off + q]? = some v → Rd w M d v
  | [], off, cs, _, _ => ⟨[], rfl, fun _ h => (by cases h), fun q d v h => (by simp at h)⟩
  | (o, n, t) :: ps, off, cs, ho, h => by
    have h0 : o = off := by simpa using ho 0 _ rfl
    subst h0
    obtain ⟨d1, t1, l1, r1⟩ := h _ (List.mem_cons_self ..)
    simp only at t1 l1 r1
    obtain ⟨d2, l2, t2, r2⟩ := glue ps (o + n) cs (fun j p hp => by
      have := ho (j + 1) p (by simpa using hp)
      simp only [List.take_succ_cons, List.map_cons, List.sum_cons] at this
      omega) (fun p hp => h p (List.mem_cons_of_mem _ hp))
    refine ⟨d1 ++ d2, by simp [l1, l2], fun p hp => ?_, fun q d v hd hv => ?_⟩
    · rcases List.mem_cons.1 hp with rfl | hp
      · refine ⟨Nat.le_refl _, ?_⟩
        simp only [Nat.sub_self, List.drop_zero]
        rw [List.take_append_of_le_length (by omega), List.take_of_length_le (by omega)]
        exact t1
      · obtain ⟨hle, ht⟩ := t2 p hp
        refine ⟨by omega, ?_⟩
        rw [List.drop_append, List.drop_of_length_le (by omega), List.nil_append, l1, show p.1 - o - n = p.1 - (o + n) from by omega]
        exact ht
    · rcases Nat.lt_or_ge q n with hq | hq
      · rw [List.getElem?_append_left (by omega)] at hd
        exact r1 q d v hd hv
      · rw [List.getElem?_append_right (by omega), l1] at hd
        exact r2 (q - n) d v hd (by rw [show o + n + (q - n) = o + q from by omega]; exact hv)

theorem trod_dt (K : Kids P T) (hz : ∀ t e, T t → P.underlying t = some (.slice e) → 0 < P.cellsOf e) {sp : Nat → Bool} {hd : Bool} : ∀ (m n : Nat) (t : TypeId) (cs : List Value) (x : DataW H × List MemPlace), simple P m t = true → T t →
    DataW.trod enc P w 0 sp hd n t cs = some x → ∃ ds, DT P t ds ∧ ds.length = cs.length ∧ ∀ (q : Nat) (d : DV) (v : Value), ds[q]? = some d → cs[q]? = some v → Rd w (fun _ => False) d v := by
  intro m
  induction m with
  | zero => intro n t cs x hs; cases hs
  | succ m ih =>
    intro n t cs x hs hT h
    unfold simple at hs
    split at hs
    · rename_i k hu
      obtain ⟨i, rfl, _, hw⟩ := DataW.trod_int hu h
      exact ⟨[.int k i], .int t k i hu hw, rfl, fun q d v hd hv => by
        cases q with
        | zero => simp at hd hv; subst hd hv; exact .int k i
        | succ q => simp at hd⟩
    · rename_i hu
      obtain ⟨b, rfl, _⟩ := DataW.trod_bool hu h
      exact ⟨[.bool b], .bool t b hu, rfl, fun q d v hd hv => by
        cases q with
        | zero => simp at hd hv; subst hd hv; exact .bool b
        | succ q => simp at hd⟩
    · rename_i hu
      obtain ⟨s, rfl, _, hl⟩ := DataW.trod_string hu h
      exact ⟨[.str s.data.toList], .str t _ hu (by rw [Array.length_toList]; exact hl), rfl, fun q d v hd hv => by
        cases q with
        | zero =>
          simp at hd hv
          subst hd hv
          have := Rd.str (w := w) (M := fun _ => False) s.data.toList
          simpa [strV] using this
        | succ q => simp at hd⟩
    · rename_i e hu
      rcases DataW.trod_slice hu h with ⟨rfl, _⟩ | ⟨a, len, cap, elems, rest, n', rfl, rfl, _, _, hlc, hcm, hel, hat, _, _⟩
      · exact ⟨_, .nil t e hu, rfl, fun q d v hd hv => by
          cases q with
          | zero => simp at hd hv; subst hd hv; exact .nil _ _
          | succ q => simp at hd⟩
      · have hpos := hz t e hT hu
        have each : ∀ i, i < len → ∃ ds : List DV, DT P e ds ∧ ds.length = P.cellsOf e ∧ (∀ (q : Nat) (d : DV), ds[q]? = some d → ∃ v, w.cell? (a.add (i * P.cellsOf e + q)) = some v ∧ Rd w (fun _ => False) d v) ∧ a.block < w.heap.size := fun i hi => by
          have h1 := hat i hi
          rw [List.getElem?_eq_getElem (by omega)] at h1
          obtain ⟨cs', hc, hx⟩ := Option.bind_eq_some_iff.1 h1
          obtain ⟨ds, h2, h3, h4⟩ := ih n' e cs' _ hs (K.slice hT hu) hx
          obtain ⟨_, h5, h6⟩ := World.cells?_some hc
          refine ⟨ds, h2, by omega, fun q d hd => ?_, by have := World.cells?_block hc hpos; rwa [add_block] at this⟩
          have hq : q < cs'.length := by have := (List.getElem?_eq_some_iff.1 hd).1; omega
          refine ⟨cs'[q], ?_, h4 q d _ hd (List.getElem?_eq_getElem hq)⟩
          have := h6 q (by omega)
          rw [List.getElem?_eq_getElem hq] at this
          rw [← this, Addr.add_add]
        let f : Nat → List DV := fun i => if hi : i < len then (each i hi).choose else []
        have hf : ∀ i (hi : i < len), f i = (each i hi).choose := fun i hi => by simp [f, hi]
        refine ⟨[.sl false len (P.cellsOf e) f], .sl t e len f hu (Nat.le_trans hlc hcm) (fun i hi => by rw [hf i hi]; exact (each i hi).choose_spec.1), rfl, fun q d v hd hv => ?_⟩
        cases q with
        | succ q => simp at hd
        | zero =>
          simp at hd hv
          subst hd hv
          refine .sl len (P.cellsOf e) f a cap (fun i q => (w.cell? (a.add (i * P.cellsOf e + q))).getD undef) hlc (fun hp => ⟨(each 0 hp).choose_spec.2.2.2, fun h => h⟩) (fun i hi => by rw [hf i hi]; exact (each i hi).choose_spec.2.1) (fun i q d hi hd => ?_) (fun i q d hi hd => ?_)
          · rw [hf i hi] at hd
            obtain ⟨v, hv, _⟩ := (each i hi).choose_spec.2.2.1 q d hd
            simp [hv]
          · rw [hf i hi] at hd
            obtain ⟨v, hv, hr⟩ := (each i hi).choose_spec.2.2.1 q d hd
            simpa [hv] using hr
    · rename_i fs hu
      obtain ⟨xs, n', rfl, _, hl, hxl, hat⟩ := DataW.trod_struct hu h
      obtain ⟨k1, k2, k3⟩ := K.struct hT hu
      obtain ⟨ds, l, ht, hr⟩ := glue (P := P) (w := w) (M := fun _ => False) (fs.toList.map fun f => (f.offset, P.cellsOf f.type, f.type)) 0 cs (fun j p hp => by
        rw [List.getElem?_map] at hp
        obtain ⟨f, hf, rfl⟩ := Option.map_eq_some_iff.1 hp
        have := k3 j f hf
        rw [← List.map_take, List.map_map]
        simpa [Function.comp_def] using this) (fun p hp => by
        obtain ⟨f, hf, rfl⟩ := List.mem_map.1 hp
        obtain ⟨i, hi, hfi⟩ := List.mem_iff_getElem.1 hf
        have h1 := hat i f (by simpa using (List.getElem?_eq_some_iff.2 ⟨hi, hfi⟩))
        rw [List.getElem?_eq_getElem (by simp at hi; omega)] at h1
        obtain ⟨ds, a1, a2, a3⟩ := ih n' f.type _ _ (List.all_eq_true.1 hs f hf) (k1 f hf) h1
        have hsum : f.offset + P.cellsOf f.type ≤ cs.length := by
          have e1 := k3 i f (List.getElem?_eq_some_iff.2 ⟨hi, hfi⟩)
          rw [hl, k2]
          have : fs.toList = fs.toList.take i ++ (f :: fs.toList.drop (i + 1)) := by
            rw [← hfi, ← List.drop_eq_getElem_cons hi, List.take_append_drop]
          conv => rhs; rw [this]
          simp only [List.map_append, List.map_cons, List.sum_append, List.sum_cons]
          omega
        refine ⟨ds, a1, ?_, fun q d v hd hv => ?_⟩
        · rw [a2]; simp; omega
        · have hq : q < P.cellsOf f.type := by
            have := (List.getElem?_eq_some_iff.1 hd).1
            rw [a2] at this
            simp at this
            omega
          refine a3 q d v hd ?_
          rw [List.getElem?_take, if_pos hq, List.getElem?_drop]
          exact hv)
      rw [List.map_map] at l
      have l' : ds.length = P.cellsOf t := by rw [l, k2]; rfl
      exact ⟨ds, .struct t fs ds hu l' (fun f hf => by simpa using (ht _ (List.mem_map.2 ⟨f, hf, rfl⟩)).2), by omega, fun q d v hd hv => hr q d v hd (by simpa using hv)⟩
    · rename_i k e hu
      obtain ⟨xs, n', rfl, _, hl, hxl, hat⟩ := DataW.trod_array hu h
      obtain ⟨k1, k2⟩ := K.array hT hu
      obtain ⟨ds, l, ht, hr⟩ := glue (P := P) (w := w) (M := fun _ => False) ((List.range k).map fun i => (i * P.cellsOf e, P.cellsOf e, e)) 0 cs (fun j p hp => by
        rw [List.getElem?_map] at hp
        obtain ⟨i, hi, rfl⟩ := Option.map_eq_some_iff.1 hp
        obtain ⟨hj, rfl⟩ := List.getElem?_eq_some_iff.1 hi
        simp at hj
        rw [← List.map_take, List.map_map, List.take_range, Nat.min_eq_left (by omega)]
        simp only [Function.comp_def, sum_const, List.getElem_range, Nat.zero_add]) (fun p hp => by
        obtain ⟨i, hi, rfl⟩ := List.mem_map.1 hp
        have hi := List.mem_range.1 hi
        have h1 := hat i hi
        rw [List.getElem?_eq_getElem (by omega)] at h1
        obtain ⟨ds, a1, a2, a3⟩ := ih n' e _ _ hs k1 h1
        have hsum : i * P.cellsOf e + P.cellsOf e ≤ cs.length := by
          rw [hl, k2]
          calc i * P.cellsOf e + P.cellsOf e = (i + 1) * P.cellsOf e := by rw [Nat.add_mul, Nat.one_mul]
            _ ≤ k * P.cellsOf e := Nat.mul_le_mul_right _ hi
        refine ⟨ds, a1, ?_, fun q d v hd hv => ?_⟩
        · rw [a2]; simp; omega
        · have hq : q < P.cellsOf e := by
            have := (List.getElem?_eq_some_iff.1 hd).1
            rw [a2] at this
            simp at this
            omega
          refine a3 q d v hd ?_
          rw [List.getElem?_take, if_pos hq, List.getElem?_drop]
          exact hv)
      rw [List.map_map] at l
      have l' : ds.length = P.cellsOf t := by rw [l, k2]; simp only [Function.comp_def, sum_const]
      exact ⟨ds, .array t e k ds hu l' (fun i hi => by simpa using (ht _ (List.mem_map.2 ⟨i, List.mem_range.2 hi, rfl⟩)).2), by omega, fun q d v hd hv => hr q d v hd (by simpa using hv)⟩
    · cases hs
end
end Go.Eng
