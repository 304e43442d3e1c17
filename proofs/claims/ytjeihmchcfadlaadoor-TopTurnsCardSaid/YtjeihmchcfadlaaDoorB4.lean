/-
  What the rows of this seat need: the listed variables, and a world that holds them. No conditions. Prefixes out of their cells. No conditions.
-/
import Derived.ChangeSame
import Derived.ChangeVars
import Derived.JoinedOf
import Derived.RowKit
import Derived.RowKitTokens
import Derived.LaidLaws
import Derived.LaidHandle
import Derived.Stop.Joined
import Derived.Stop.LaidErr
import Derived.SevenTiedAt
import Derived.Test.YtjeihmchcfadlaaDoorTie
import Derived.Test.YtjeihmchcfadlaaDoorCards
import Derived.Test.YtjeihmchcfadlaaDoorM4
import Derived.Test.YtjeihmchcfadlaaDoorB2
set_option linter.unusedVariables false
set_option linter.unusedSimpArgs false
namespace Go.Proofs.YtjeihmchcfadlaaDoor
open Go Go.Eng Go.ChangeShapes Go.WideShapes Go.RowKit

theorem own : ownKnob Tryd.prog.godebug = none := by kernel_rfl
theorem kids : Kids Tryd.prog (· < Tryd.prog.types.size) := kids_rows (by kernel_rfl) (by kernel_rfl)
theorem full : ∀ t e, t < Tryd.prog.types.size → Tryd.prog.underlying t = some (.slice e) → 0 < Tryd.prog.cellsOf e := slices_full_of Tryd.prog (by kernel_rfl)
theorem u_int {k : IntKind} {n : Int} (h : (Lit.int k n).wf = true) : k.min ≤ n ∧ n ≤ k.max := by
  simpa [Lit.wf] using h

theorem gS : Tryd.prog.globalNamed "strconv.ErrSyntax" = some 0 := by kernel_rfl
theorem gR : Tryd.prog.globalNamed "strconv.ErrRange" = some 1 := by kernel_rfl
theorem gT : Tryd.prog.globalNamed "internal/strconv.uint64pow10" = some 2 := by kernel_rfl
theorem gST : (Tryd.prog.globals[0]?).map (·.type) = some 58 := by kernel_rfl
theorem gRT : (Tryd.prog.globals[1]?).map (·.type) = some 58 := by kernel_rfl
theorem gTT : (Tryd.prog.globals[2]?).map (·.type) = some 160 := by kernel_rfl
theorem cellsE : Tryd.prog.cellsOf 169 = 1 := by kernel_rfl
theorem cellsStr : Tryd.prog.cellsOf 9 = 1 := by kernel_rfl
theorem cells64 : Tryd.prog.cellsOf 56 = 1 := by kernel_rfl
theorem star : "*" ++ "errors.errorString" = "*errors.errorString" := by decide
theorem rowE (u : TypeId) (h : Tryd.prog.typeName? 3 u = some "*errors.errorString") : u = 167 :=
  typeName_ptr_named (nm := "errors.errorString") (by rw [star]; kernel_rfl) (by kernel_rfl) (by decide) u (by rw [star]; exact h)

theorem var_block {P : Program} {w : World} {n : String} {g : Nat} {cs : Array Value} (h : w.var? P n = some cs) (hg : P.globalNamed n = some g) : ∃ t fz, w.heap[g]? = some (.cells cs t fz) := by
  unfold World.var? at h
  rw [hg] at h
  simp only [Option.bind_some] at h
  split at h
  · rename_i cs' t fz e
    cases h
    exact ⟨t, fz, e⟩
  · cases h
/-- A table of numbers, out of what is laid. -/
theorem laid_ints {P : Program} {n : String} {k : IntKind} {zs : List Int} {r : List (String × DataW Unit)} {W : World} {g : Nat} {t e : TypeId} {m : Nat}
    (h : laidMet P ((n, .agg (zs.map fun z => .lit (.int k z))) :: r) W) (hg : P.globalNamed n = some g) (ht : (P.globals[g]?).map (·.type) = some t) (hu : P.underlying t = some (.array m e)) (he : P.underlying e = some (.int k)) (hc : P.cellsOf e = 1) (hct : P.cellsOf t = m) :
    ∃ t fz, W.heap[g]? = some (.cells (zs.map fun z => Value.int k z).toArray t fz) := by
  obtain ⟨ps, ⟨g0, t0, cs, f0, p0, q0, hg0, ht0, hv0, hd0, _, _⟩, _, _⟩ := h
  obtain rfl := Option.some.inj (hg.symm.trans hg0)
  obtain rfl := Option.some.inj (ht.symm.trans ht0)
  obtain ⟨xs, f, _, hx, hl, hxl, hi⟩ := DataW.trod_array hu hd0
  have hcs : cs = (zs.map fun z => Value.int k z).toArray := by
    simp only [Prod.mk.injEq, DataW.agg.injEq] at hx
    have hzl : zs.length = m := by
      have := congrArg List.length hx.1
      simpa [hxl] using this
    rw [hct] at hl
    apply Array.toList_inj.1
    apply List.ext_getElem
    · simp only [List.length_map]; omega
    intro i h1 h2
    have hi1 : i < m := by omega
    have e1 := hi i hi1
    rw [hc, Nat.mul_one] at e1
    have e2 : (cs.toList.drop i).take 1 = [cs.toList[i]] := by
      rw [List.drop_eq_getElem_cons (by omega)]
      rfl
    rw [e2, List.getElem?_eq_getElem (by omega)] at e1
    obtain ⟨z, ez, ex, _⟩ := DataW.trod_int he e1
    have e3 : (xs.map (·.1))[i]? = some (.lit (.int k z)) := by
      rw [List.getElem?_map, List.getElem?_eq_getElem (by omega), ex]
      rfl
    rw [← hx.1, List.getElem?_map, List.getElem?_eq_getElem (by omega)] at e3
    simp only [Option.map_some, Option.some.injEq, DataW.lit.injEq, Lit.int.injEq, true_and] at e3
    simp only [List.cons.injEq, and_true] at ez
    rw [ez]
    simp [e3]
  subst hcs
  exact var_block hv0 hg
/-- The listed variables, out of what the row lists. -/
theorem vok_of {W : World} (h : laidMetH Tryd.prog Rows.hostsTellsRow.laid W) : VOk W (fun _ _ => False) := by
  have h : laidMet Tryd.prog Rows.hostsTellsRow.laid W := h
  have h3 := h.tail.tail
  have h5 := h3.tail.tail
  have h6 := h5.tail
  obtain ⟨aR, _, hvR, _⟩ := laid_sentinel h5 gR gRT Tryd.underlying58 rowE Tryd.underlying167 Tryd.underlying169 rfl rfl Tryd.underlying9 cellsE cellsStr
  obtain ⟨aS, _, hvS, _⟩ := laid_sentinel h6 gS gST Tryd.underlying58 rowE Tryd.underlying167 Tryd.underlying169 rfl rfl Tryd.underlying9 cellsE cellsStr
  obtain ⟨tR, fR, hbR⟩ := var_block hvR gR
  obtain ⟨tS, fS, hbS⟩ := var_block hvS gS
  obtain ⟨tT, fT, hbT⟩ := laid_ints (k := .u64) (zs := (List.range 20).map fun i => ((10 ^ i : Nat) : Int)) h3 gT gTT Tryd.underlying160 Tryd.underlying56 cells64 (by kernel_rfl)
  intro p hp
  unfold evs at hp
  simp only [List.mem_cons, List.not_mem_nil, or_false] at hp
  rcases hp with rfl | rfl | rfl
  · exact ⟨⟨_, tS, fS, hbS, _, _, rfl⟩, fun _ h => h⟩
  · exact ⟨⟨_, tR, fR, hbR, _, _, rfl⟩, fun _ h => h⟩
  · exact ⟨⟨_, tT, fT, hbT, rfl⟩, fun _ h => h⟩

/-- The cells that a table is laid of. -/
def litCells : DataW Unit → List Value
  | .agg l => l.flatMap fun
    | .lit (.int k n) => [.int k n]
    | .agg m => m.map fun | .lit (.int k n) => .int k n | _ => .bool false
    | _ => []
  | _ => []
def lay (g : Nat) (cs : List Value) (w : World) : World :=
  { w with heap := w.heap.modify g fun
      | .cells _ t frozen => .cells cs.toArray t frozen
      | o => o }
abbrev rangeS : ByteArray := { data := #[118, 97, 108, 117, 101, 32, 111, 117, 116, 32, 111, 102, 32, 114, 97, 110, 103, 101] }
abbrev syntaxS : ByteArray := { data := #[105, 110, 118, 97, 108, 105, 100, 32, 115, 121, 110, 116, 97, 120] }
noncomputable def lowB : Nat := (World.holding Tryd.prog default ⟨#[], #[], []⟩).heap.size
noncomputable def laidWorld (os : Os) : World :=
  lay 0 [.iface 167 (.pointer (some ⟨lowB, 0, none⟩))] <| lay 1 [.iface 167 (.pointer (some ⟨lowB + 1, 0, none⟩))] <|
    lay 2 (litCells Rows.laid_internal_strconv_uint64pow10) <| lay 4 (litCells Rows.laid_unicode_utf8_first) <| lay 5 (litCells Rows.laid_unicode_utf8_acceptRanges) <|
    lay 6 (litCells Rows.laid_math_bits_deBruijn32tab) <| lay 7 (litCells Rows.laid_math_bits_deBruijn64tab) <|
    World.holding Tryd.prog os ⟨#[.cells #[.string syntaxS] 169, .cells #[.string rangeS] 169], #[], []⟩
theorem laidWorld_met (os : Os) (args : Array Value) : laidMetH Tryd.prog Rows.hostsTellsRow.laid ((laidWorld os).forCall (fun _ _ => 0) ⟨#[], args, []⟩).memory :=
  laidMet_of_run' 8 (by kernel_rfl) (by kernel_rfl)
end Go.Proofs.YtjeihmchcfadlaaDoor
namespace Go.Proofs.YtjeihmchcfadlaaDoor
open Go Go.Eng Go.ChangeShapes Go.WideShapes Go.RowKit
theorem DT.sl_inv2 {P : Program} {t : TypeId} {ds : List DV} {e : TypeId} (h : DT P t ds) (hu : P.underlying t = some (.slice e)) : ∃ nil n f, ds = [.sl nil n (P.cellsOf e) f] ∧ (nil = true → n = 0) ∧ ∀ i, i < n → DT P e (f i) := by
  cases h with
  | nil _ e' h1 => rw [hu] at h1; cases h1; exact ⟨true, 0, _, rfl, fun _ => rfl, fun i hi => absurd hi (by omega)⟩
  | sl _ e' n f h1 h2 h3 => rw [hu] at h1; cases h1; exact ⟨false, n, f, rfl, (fun h => by cases h), h3⟩
  | _ => simp_all
set_option maxRecDepth 100000 in
theorem pf_of {ds : List DV} (h : DT Tryd.prog 36 ds) : ∃ p : Pf, ds = [.int .u32 p.addr, .int .i64 p.bits] ∧ p.addr < 4294967296 := by
  obtain ⟨hl, hf⟩ := h.struct_inv Tryd.underlying36
  have cs : Tryd.prog.cellsOf 36 = 2 := by kernel_rfl
  rw [cs] at hl
  match ds, hl with
  | [a0, a1], _ =>
    have c1 : Tryd.prog.cellsOf 22 = 1 := by kernel_rfl
    have c2 : Tryd.prog.cellsOf 3 = 1 := by kernel_rfl
    simp [c1, c2] at hf
    obtain ⟨k0, k1⟩ := hf
    obtain ⟨n0, e0, w0⟩ := k0.int_inv Tryd.underlying22
    obtain ⟨n1, e1, w1⟩ := k1.int_inv Tryd.underlying3
    simp only [List.cons.injEq, and_true] at e0 e1
    subst e0 e1
    have w0 : 0 ≤ n0 ∧ n0 ≤ 4294967295 := u_int w0
    obtain ⟨m, rfl⟩ := Int.eq_ofNat_of_zero_le w0.1
    exact ⟨⟨m, n1⟩, rfl, by show m < _; omega⟩
theorem pfs_of {ds : List DV} (h : DT Tryd.prog 33 ds) : ∃ (b : Bool) (l : List Pf) (d : DV), ds = [d] ∧ DS d (.sl b l.length 2 (pfs l)) ∧ (∀ p ∈ l, p.addr < 4294967296) := by
  obtain ⟨z, n, f, rfl, hz, hf⟩ := DT.sl_inv2 h Tryd.underlying33
  have cs : Tryd.prog.cellsOf 36 = 2 := by kernel_rfl
  let g : Nat → Pf := fun i => if hi : i < n then (pf_of (hf i hi)).choose else ⟨0, 0⟩
  have hg : ∀ i (hi : i < n), f i = [.int .u32 (g i).addr, .int .i64 (g i).bits] ∧ (g i).addr < 4294967296 := fun i hi => by
    have := (pf_of (hf i hi)).choose_spec
    simpa only [g, hi, dif_pos] using this
  refine ⟨z, (List.range n).map g, _, rfl, ?_, fun a ha => ?_⟩
  · rw [cs, List.length_map, List.length_range]
    refine .rows fun i hi => ?_
    have : ((List.range n).map g).getD i ⟨0, 0⟩ = g i := by simp [List.getD, hi]
    unfold pfs
    rw [this, (hg i hi).1]
    exact DSL.refl _
  · obtain ⟨i, hi, rfl⟩ := List.mem_map.1 ha
    exact (hg i (List.mem_range.1 hi)).2
end Go.Proofs.YtjeihmchcfadlaaDoor
