/-
  The engine, part 28: a law's row out of its contract.
-/
import Derived.ProofKit
import Derived.ChangeSame
import Derived.Test.YtdphkaiijlekhaaEg27
namespace Go.Eng
open Go Go.RowKit Go.ChangeShapes Go.WideShapes

def oneSV : List DV → SV
  | [d] => .d d
  | _ => .any
/-- An argument, by its data. -/
def argSV (P : Program) (t : TypeId) (ds : List DV) : SV :=
  match P.underlying t with
  | some (.struct _) => .agg (ds.map SV.d)
  | some (.array _ _) => .agg (ds.map SV.d)
  | _ => oneSV ds
def argsSV (P : Program) : List TypeId → List (List DV) → List SV
  | t :: ts, d :: ds => argSV P t d :: argsSV P ts ds
  | _, _ => []
def DTs (P : Program) : List TypeId → List (List DV) → Prop
  | [], [] => True
  | t :: ts, d :: ds => DT P t d ∧ DTs P ts ds
  | _, _ => False

section
variable {H : Type} {enc : TypeId × Value → H} {P : Program} {w : World} {T : TypeId → Prop}

theorem den_of_trod (K : Kids P T) (hz : ∀ t e, T t → P.underlying t = some (.slice e) → 0 < P.cellsOf e) {sp : Nat → Bool} {hd : Bool} {m : Nat} {t : TypeId} {v : Value} {d : DataW H} {ps : List MemPlace} {r : Reach} {b0 : Nat}
    (hs : simple P m t = true) (hT : T t) (hval : Value.okWide P w r b0 t v) (h : DataW.Trod enc P w 0 sp hd t v d ps) : ∃ ds, DT P t ds ∧ Den w (fun _ => False) noE (argSV P t ds) v := by
  obtain ⟨n, hn⟩ := h
  obtain ⟨ds, h1, h2, h3⟩ := trod_dt K hz m n t _ _ hs hT hn
  refine ⟨ds, h1, ?_⟩
  have agg : ∀ cs : Array Value, v = .agg cs → Den w (fun _ => False) noE (.agg (ds.map SV.d)) v := fun cs hv => by
    subst hv
    have := Den.agg (w := w) (M := fun _ => False) (β := noE) (ds.map SV.d) cs.toList (by simpa [Value.cells] using h2) (fun j s u hs hu => by
      rw [List.getElem?_map] at hs
      obtain ⟨x, hx, rfl⟩ := Option.map_eq_some_iff.1 hs
      exact .d (h3 j x u hx hu)) (fun u hu => by
      obtain ⟨j, hj, rfl⟩ := List.mem_iff_getElem.1 hu
      have hl : j < ds.length := by rw [h2]; exact hj
      exact oneCell_rd (h3 j ds[j] _ (List.getElem?_eq_getElem hl) (List.getElem?_eq_getElem hj)))
    simpa using this
  have one : v.cells.toList = [v] → Den w (fun _ => False) noE (oneSV ds) v := fun hc => by
    unfold oneSV
    split
    · exact .d (h3 0 _ v rfl (by rw [hc]; rfl))
    · exact .any _
  unfold argSV
  unfold Value.okWide at hval
  split at hval
  · rename_i hu
    obtain ⟨cs, hv, _⟩ := hval
    simp only [hu]
    exact agg cs hv
  · rename_i hu
    obtain ⟨cs, hv, _⟩ := hval
    simp only [hu]
    exact agg cs hv
  · rename_i hn1 hn2
    have hc : v.cells.toList = [v] := by
      cases hu : P.underlying t with
      | none => cases m <;> simp [simple, hu] at hs
      | some td =>
        simp only [Cell.okWide, hu] at hval
        cases td <;> first
          | (cases m <;> simp [simple, hu] at hs; done)
          | exact absurd hu (hn1 _)
          | exact absurd hu (hn2 _ _)
          | (cases v <;> first | rfl | (simp [Cell.ok] at hval))
    split
    · rename_i hu; exact absurd hu (hn1 _)
    · rename_i hu; exact absurd hu (hn2 _ _)
    · exact one hc

theorem dens_of_trod (K : Kids P T) (hz : ∀ t e, T t → P.underlying t = some (.slice e) → 0 < P.cellsOf e) {sp : Nat → Bool} {hd : Bool} {m : Nat} {r : Reach} {b0 : Nat} : ∀ (ts : List TypeId) (vs : List Value) (ds : List (DataW H)) (ps : List MemPlace),
    (∀ t ∈ ts, simple P m t = true ∧ T t) → (∀ (j : Nat) (t : TypeId) (v : Value), ts[j]? = some t → vs[j]? = some v → Value.okWide P w r b0 t v) → DataW.TrodAll enc P w 0 sp hd ts vs ds ps →
    ∃ dss, DTs P ts dss ∧ (argsSV P ts dss).length = vs.length ∧ ∀ (j : Nat) (s : SV) (u : Value), (argsSV P ts dss)[j]? = some s → vs[j]? = some u → Den w (fun _ => False) noE s u
  | [], [], [], _, _, _, _ => ⟨[], True.intro, rfl, fun j s u hs => by simp [argsSV] at hs⟩
  | t :: ts, v :: vs, d :: ds, _, hs, hv, ⟨p, q, h1, h2, _⟩ => by
    obtain ⟨x, a1, a2⟩ := den_of_trod K hz (hs t (List.mem_cons_self ..)).1 (hs t (List.mem_cons_self ..)).2 (hv 0 t v rfl rfl) h1
    obtain ⟨xs, b1, b2, b3⟩ := dens_of_trod K hz ts vs ds q (fun t ht => hs t (List.mem_cons_of_mem _ ht)) (fun j t v ht hv' => hv (j + 1) t v (by simpa using ht) (by simpa using hv')) h2
    refine ⟨x :: xs, ⟨a1, b1⟩, by simp [argsSV, b2], fun j s u hs hu => ?_⟩
    cases j with
    | zero => simp [argsSV] at hs hu; subst hs hu; exact a2
    | succ j => exact b3 j s u (by simpa [argsSV] using hs) (by simpa using hu)

theorem trodAll_carry {w' : World} {sp : Nat → Bool} {hd : Bool} {base : Nat} : ∀ (ts : List TypeId) (vs : List Value) (ds : List (DataW H)) (ps : List MemPlace), DataW.TrodAll enc P w base sp hd ts vs ds ps → (∀ p ∈ ps, w.sameAt w' p) → DataW.TrodAll enc P w' base sp hd ts vs ds ps
  | [], [], [], _, h, _ => h
  | _ :: ts, _ :: vs, _ :: ds, _, ⟨p, q, ⟨n, h1⟩, h2, e⟩, hs => ⟨p, q, ⟨n, DataW.trod_carry n _ _ _ h1 (fun x hx => hs x (by rw [e]; exact List.mem_append_left _ hx))⟩, trodAll_carry ts vs ds q h2 (fun x hx => hs x (by rw [e]; exact List.mem_append_right _ hx)), e⟩

theorem keptBut_of_step {W W' : World} (h : Step (fun _ => False) W W') (may : MemPlace → Prop) : W.keptBut W' may := by
  refine ⟨h.os, h.output, fun i hi => ?_⟩
  rw [h.block i hi (fun h => h)]
  split
  · rename_i h1 h2; rw [h1] at h2; cases h2; exact ⟨rfl, rfl, rfl, fun _ _ => rfl⟩
  · rename_i h1 h2; rw [h1] at h2; cases h2; exact .inr ⟨rfl, rfl⟩
  · rfl

theorem post_of_step (K : Kids P T) (hz : ∀ t e, T t → P.underlying t = some (.slice e) → 0 < P.cellsOf e) {f : Func} {s : ChangeSpec} {apart fresh handsOn again : Bool} {W W' : World} {args : Array Value} {ds gs : List (DataW H)} {before : List MemPlace} {tb : TypeId}
    (hT : ∀ t ∈ f.params.toList, T t) (hvars : s.vars = []) (hW : DataW.Whole enc P f.params.toList s.vars apart W args.toList ds gs before) (hst : Step (fun _ => False) W W') (hrt : f.resultTypes = #[tb]) (hb : P.underlying tb = some .bool)
    (hfn : (s.fn H ds).results = [.lit (.bool true)] ∧ (s.fn H ds).args = ds ∧ (s.fn H ds).vars = []) : s.post enc P f apart fresh handsOn again W args (.bool true) W' := by
  have hlt := hW.lt
  have hW' := hW
  obtain ⟨p, q, hA, hV, rfl, hfz, hnd⟩ := hW
  rw [hvars] at hV
  obtain ⟨rfl, rfl⟩ := trodVars_none hV
  simp only [List.append_nil] at hlt hfz hnd
  have hsame : ∀ x ∈ p, W.sameAt W' x := fun x hx => by
    have := hst.block x.block (hlt x hx) (fun h => h)
    cases x with
    | cell b off => simp only [World.sameAt, World.cell?]; simp only [MemPlace.block] at this; rw [this]
    | map b => exact this
  have hre : ∀ sp : Nat → Bool, (∀ x ∈ p, sp x.block = true) → DataW.TrodAll enc P W' 0 sp true f.params.toList args.toList ds p := fun sp hsp =>
    DataW.TrodAll.respare K hz hT (trodAll_carry _ _ _ _ hA hsame) hsp
  have hres : ∀ (b : Nat) (sp : Nat → Bool) (hd : Bool), DataW.TrodAll enc P W' b sp hd f.resultTypes.toList ((Value.bool true).resultList f.resultTypes.size) [.lit (.bool true)] [] := fun b sp hd => by
    rw [hrt]
    exact trodAll_mk1 (shut_bool hb true)
  refine ⟨ds, [], p ++ [], [], p, [], hW', ?_, ?_, ?_, keptBut_of_step hst _, fun _ => ⟨ok_one hrt rfl (okWide_bool_mk hb true), [.lit (.bool true)] ++ ds, [], [] ++ p ++ [], ⟨[] ++ p, [], trodAll_append (hre _ (fun _ _ => rfl)) (hres _ _ _), ?_, rfl, ?_, ?_⟩, ?_⟩⟩
  · rw [List.append_nil, hfn.1]; exact hres _ _ _
  · rw [List.append_nil, hfn.2.1]; exact hre _ (fun x hx => by simpa using hlt x hx)
  · rw [List.append_nil, hfn.2.2, hvars]; rfl
  · rw [hvars]; rfl
  · intro b off hx
    have hx : MemPlace.cell b off ∈ p := by simpa using hx
    have := hst.block b (hlt _ hx) (fun h => h)
    have h2 := hfz b off hx
    unfold World.frozen? at h2 ⊢
    simp only at h2 ⊢
    rw [this]
    exact h2
  · intro ha
    simpa using hnd ha
  · intro x hx _
    simpa using hx

/-- A law's call, out of its contract over all data of its parameters' types. -/
theorem law_calls (K : Kids P T) (hz : ∀ t e, T t → P.underlying t = some (.slice e) → 0 < P.cellsOf e) {g : FuncId} {f : Func} {s : ChangeSpec} {apart fresh handsOn again : Bool} {W : World} {args : Array Value} {ds gs : List (DataW H)} {before : List MemPlace} {tb : TypeId} {m : Nat} {r : Reach} {b0 : Nat}
    (hs : ∀ t ∈ f.params.toList, simple P m t = true ∧ T t) (h : ∀ dss, DTs P f.params.toList dss → FnOk P g (argsSV P f.params.toList dss) (.d (.bool true)))
    (hval : ∀ (j : Nat) t v, f.params[j]? = some t → args[j]? = some v → Value.okWide P W r b0 t v)
    (hvars : s.vars = []) (hW : DataW.Whole enc P f.params.toList s.vars apart W args.toList ds gs before) (hrt : f.resultTypes = #[tb]) (hb : P.underlying tb = some .bool)
    (hfn : (s.fn H ds).results = [.lit (.bool true)] ∧ (s.fn H ds).args = ds ∧ (s.fn H ds).vars = []) :
    Calls P g args W fun e W' => ∃ v, e = .returned v ∧ s.post enc P f apart fresh handsOn again W args v W' := by
  have hW' := hW
  obtain ⟨p, q, hA, _⟩ := hW
  obtain ⟨dss, h1, h2, h3⟩ := dens_of_trod K hz _ _ _ _ hs (fun j t v ht hv => hval j t v (by simpa using ht) (by simpa using hv)) hA
  have := (h dss h1).2 (fun _ => False) W args.toList (fun _ h => h.elim) h2 h3
  rw [Array.toArray_toList] at this
  refine this.mono fun e W' ⟨v, he, hst, hd⟩ => ⟨v, he, ?_⟩
  cases den_data hd
  exact post_of_step K hz (fun t ht => (hs t ht).2) hvars hW' hst hrt hb hfn
end

section
variable {P : Program} {t : TypeId} {ds : List DV}
theorem DT.int_inv {k : IntKind} (h : DT P t ds) (hu : P.underlying t = some (.int k)) : ∃ n, ds = [.int k n] ∧ (Lit.int k n).wf = true := by
  cases h <;> simp_all
theorem DT.bool_inv (h : DT P t ds) (hu : P.underlying t = some .bool) : ∃ b, ds = [.bool b] := by
  cases h <;> simp_all
theorem DT.str_inv (h : DT P t ds) (hu : P.underlying t = some .string) : ∃ s, ds = [.str s] ∧ s.length ≤ maxLen := by
  cases h <;> simp_all
theorem DT.sl_inv {e : TypeId} (h : DT P t ds) (hu : P.underlying t = some (.slice e)) : ∃ nil n f, ds = [.sl nil n (P.cellsOf e) f] ∧ n ≤ maxLen ∧ ∀ i, i < n → DT P e (f i) := by
  cases h with
  | nil _ e' h1 => rw [hu] at h1; cases h1; exact ⟨true, 0, _, rfl, Nat.zero_le _, fun i hi => absurd hi (by omega)⟩
  | sl _ e' n f h1 h2 h3 => rw [hu] at h1; cases h1; exact ⟨false, n, f, rfl, h2, h3⟩
  | _ => simp_all
theorem DT.struct_inv {fs : Array Field} (h : DT P t ds) (hu : P.underlying t = some (.struct fs)) : ds.length = P.cellsOf t ∧ ∀ f ∈ fs.toList, DT P f.type ((ds.drop f.offset).take (P.cellsOf f.type)) := by
  cases h with
  | struct _ fs' _ h1 h2 h3 => rw [hu] at h1; cases h1; exact ⟨h2, h3⟩
  | _ => simp_all
theorem DT.array_inv {e : TypeId} {n : Nat} (h : DT P t ds) (hu : P.underlying t = some (.array n e)) : ds.length = P.cellsOf t ∧ ∀ i, i < n → DT P e ((ds.drop (i * P.cellsOf e)).take (P.cellsOf e)) := by
  cases h with
  | array _ e' n' _ h1 h2 h3 => rw [hu] at h1; cases h1; exact ⟨h2, h3⟩
  | _ => simp_all
theorem trodAll_len {H : Type} {enc : TypeId × Value → H} {w : World} {base : Nat} {sp : Nat → Bool} {hd : Bool} : ∀ {ts : List TypeId} {vs : List Value} {ds : List (DataW H)} {ps : List MemPlace}, DataW.TrodAll enc P w base sp hd ts vs ds ps → ds.length = ts.length
  | [], [], [], _, _ => rfl
  | _ :: _, _ :: _, _ :: _, _, ⟨_, _, _, h, _⟩ => congrArg (· + 1) (trodAll_len h)
theorem DSL.refl : ∀ l : List DV, DSL l l
  | [] => True.intro
  | a :: l => ⟨.refl a, DSL.refl l⟩
end
end Go.Eng
