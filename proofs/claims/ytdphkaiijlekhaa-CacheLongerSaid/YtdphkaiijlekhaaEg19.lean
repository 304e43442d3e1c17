/-
  The engine, part 19: what an operation comes to is one value (`Ex`).
-/
import Derived.Test.YtdphkaiijlekhaaEg18
namespace Go.Eng
open Go Go.RowKit

/-- If it holds for K it holds for one value alone, of which K holds. -/
def Ex {α : Type} (F : (α → Prop) → Prop) : Prop := ∀ K : α → Prop, F K → ∃ s, F (fun x => x = s) ∧ K s
namespace Ex
variable {α : Type}
theorem self (s : α) : Ex (fun K : α → Prop => K s) := fun _ h => ⟨s, rfl, h⟩
theorem no : Ex (fun _ : α → Prop => False) := fun _ h => h.elim
theorem and {c : Prop} {F : (α → Prop) → Prop} (h : Ex F) : Ex (fun K => c ∧ F K) := fun K hk => by
  obtain ⟨s, a, b⟩ := h K hk.2
  exact ⟨s, ⟨hk.1, a⟩, b⟩
theorem two {b : Bool} {F G : (α → Prop) → Prop} (hF : Ex F) (hG : Ex G) : Ex (fun K => (b = true → F K) ∧ (b = false → G K)) := fun K hk => by
  cases b with
  | false =>
    obtain ⟨s, x, y⟩ := hG K (hk.2 rfl)
    exact ⟨s, ⟨fun e => (by cases e), fun _ => x⟩, y⟩
  | true =>
    obtain ⟨s, x, y⟩ := hF K (hk.1 rfl)
    exact ⟨s, ⟨fun _ => x, fun e => (by cases e)⟩, y⟩
/-- A function that hands its result on. -/
theorem on {β : Type} {H : (β → Prop) → Prop} {v : β} (hH : ∀ k, H k = k v) {G : β → (α → Prop) → Prop} (h : Ex (G v)) : Ex (fun K => H (fun x => G x K)) := fun K hk => by
  have hk' : G v K := by have := hH (fun x => G x K); rw [← this]; exact hk
  obtain ⟨s, a, b⟩ := h K hk'
  refine ⟨s, ?_, b⟩
  have := hH (fun x => G x (fun y => y = s))
  show H (fun x => G x (fun y => y = s))
  rw [this]
  exact a
theorem val {ts : List SV} {x : Operand} {G : SV → (α → Prop) → Prop} (h : ∀ v, Ex (G v)) : Ex (fun K => valK ts x (fun v => G v K)) := on (fun k => valK_eq ts x k) (h _)
theorem vals {ts : List SV} {x : List Operand} {G : List SV → (α → Prop) → Prop} (h : ∀ v, Ex (G v)) : Ex (fun K => valsK ts x (fun v => G v K)) := on (fun k => valsK_eq ts x k) (h _)
theorem app {l m : List SV} {G : List SV → (α → Prop) → Prop} (h : ∀ v, Ex (G v)) : Ex (fun K => appK l m (fun v => G v K)) := on (fun k => appK_eq l m k) (h _)
theorem getT {ts : List SV} {n : Nat} {G : SV → (α → Prop) → Prop} (h : ∀ v, Ex (G v)) : Ex (fun K => getTK ts n (fun v => G v K)) := on (fun k => getTK_eq ts n k) (h _)
theorem getB {ts : List KB} {n : Nat} {G : KB → (α → Prop) → Prop} (h : ∀ v, Ex (G v)) : Ex (fun K => getBK ts n (fun v => G v K)) := on (fun k => getBK_eq ts n k) (h _)
theorem take {l : List SV} {n : Nat} {G : List SV → (α → Prop) → Prop} (h : ∀ v, Ex (G v)) : Ex (fun K => takeK l n (fun v => G v K)) := on (fun k => takeK_eq l n k) (h _)
theorem drop {l : List SV} {n : Nat} {G : List SV → (α → Prop) → Prop} (h : ∀ v, Ex (G v)) : Ex (fun K => dropK l n (fun v => G v K)) := on (fun k => dropK_eq l n k) (h _)
theorem mapD {l : List DV} {G : List SV → (α → Prop) → Prop} (h : ∀ v, Ex (G v)) : Ex (fun K => mapDK l (fun v => G v K)) := on (fun k => mapDK_eq l k) (h _)
theorem put {l m : List SV} {n : Nat} {G : List SV → (α → Prop) → Prop} (h : ∀ v, Ex (G v)) : Ex (fun K => putK l n m (fun v => G v K)) := on (fun k => putK_eq l n m k) (h _)
theorem addB {l : List KB} {k : KB} {G : List KB → (α → Prop) → Prop} (h : ∀ v, Ex (G v)) : Ex (fun K => addBK l k (fun v => G v K)) := on (fun c => addBK_eq l k c) (h _)
theorem setB {l : List KB} {n : Nat} {k : KB} {G : List KB → (α → Prop) → Prop} (h : ∀ v, Ex (G v)) : Ex (fun K => setBK l n k (fun v => G v K)) := on (fun c => setBK_eq l n k c) (h _)
theorem lenB {l : List KB} {n : Nat} {G : Nat → (α → Prop) → Prop} (h : ∀ v, Ex (G v)) : Ex (fun K => lenBK l n (fun v => G v K)) := on (fun c => lenBK_eq l n c) (h _)
theorem bool {x : DV} {G : Bool → (α → Prop) → Prop} (h : ∀ v, Ex (G v)) : Ex (fun K => boolK x (fun v => G v K) False) := by
  unfold boolK
  split
  · exact h _
  · exact h _
  · exact h _
  · exact no
theorem cells {v : SV} {G : List SV → (α → Prop) → Prop} (h : ∀ v, Ex (G v)) : Ex (fun K => cellsK v (fun l => G l K)) := by
  unfold cellsK
  split
  · exact h _
  · exact no
  · exact no
  · split
    · exact h _
    · exact no
  · exact h _
theorem pack {agg : Bool} {size : Nat} {l : List SV} {off : Nat} {G : SV → (α → Prop) → Prop} (h : ∀ v, Ex (G v)) : Ex (fun K => packK agg size l off (fun v => G v K)) := by
  unfold packK
  split
  · split
    · exact drop fun m => take fun r => h _
    · split
      · exact getT h
      · exact no
  · exact no
theorem ints {k : IntKind} : ∀ {l : List SV} {G : List Int → (α → Prop) → Prop} (_ : ∀ v, Ex (G v)), Ex (fun K => intsK k l (fun v => G v K)) := by
  intro l
  induction l with
  | nil => intro G h; exact h []
  | cons s l ih =>
    intro G h
    cases s with
    | d x => cases x with
      | int k' n =>
        simp only [intsK]
        split
        · exact ih fun r => h (n :: r)
        · exact no
      | _ => exact no
    | _ => exact no
theorem putI {k : IntKind} {i n : Int} : ∀ {l : List SV} {j : Int} {G : List SV → (α → Prop) → Prop} (_ : ∀ v, Ex (G v)), Ex (fun K => putIK k i n l j (fun v => G v K)) := by
  intro l
  induction l with
  | nil => intro j G h; exact h []
  | cons s l ih =>
    intro j G h
    cases s with
    | d x => cases x with
      | int k' n =>
        simp only [putIK]
        split
        · exact ih fun r => h (_ :: r)
        · exact no
      | _ => exact no
    | _ => exact no
theorem eqS {es : List EK} : ∀ {l m : List SV} {G : Bool → (α → Prop) → Prop} (_ : ∀ v, Ex (G v)), Ex (fun K => eqSK es l m (fun v => G v K)) := by
  induction es with
  | nil => intro l m G h; cases l <;> cases m <;> first | exact h true | exact no
  | cons e es ih =>
    intro l m G h
    cases l with
    | nil => cases e <;> exact no
    | cons s xs => cases m with
      | nil => cases e <;> cases s <;> first | exact no | (rename_i x; cases x <;> exact no)
      | cons t ys =>
        cases s with
        | d x => cases t with
          | d y =>
            cases e with
            | int k => cases x <;> cases y <;> first | exact no | (simp only [eqSK]; split <;> first | exact no | exact ih fun r => h _)
            | bool => exact bool fun p => bool fun q => ih fun r => h _
            | str => cases x <;> cases y <;> first | exact no | exact ih fun r => h _
          | _ => cases e <;> first | exact no | (cases x <;> exact no)
        | _ => cases e <;> exact no
theorem fill {TT : Nat → Option TI} {ts : List SV} {fs : List (Nat × TypeId)} : ∀ {parts : List (Nat × Operand)} {cs : List SV} {G : List SV → (α → Prop) → Prop} (_ : ∀ v, Ex (G v)), Ex (fun K => fillK TT ts fs cs parts (fun v => G v K)) := by
  intro parts
  induction parts with
  | nil => intro cs G h; exact h cs
  | cons p parts ih =>
    intro cs G h
    simp only [fillK]
    split
    · exact no
    · split
      · exact no
      · refine val fun v => cells fun vs => ?_
        split
        · exact put fun cs' => ih h
        · exact no
theorem bin {td : TD} {op : BinOp} {x y : DV} : Ex (fun K : SV → Prop => Go.Eng.bin td op x y K) := by
  unfold Go.Eng.bin
  repeat' (first | exact no | exact self _ | refine and ?_ | refine bool fun _ => ?_ | split)
theorem bound {ts : List SV} {o : Option Operand} {d : Int} {G : Int → (α → Prop) → Prop} (h : ∀ v, Ex (G v)) : Ex (fun K => boundK ts o d (fun v => G v K)) := by
  unfold boundK
  split
  · exact h _
  · refine val fun v => ?_
    split
    · exact h _
    · exact no
theorem arena {x : SV} {G : Nat → Nat → (α → Prop) → Prop} (h : ∀ i n, Ex (G i n)) : Ex (fun K => arenaIx x (fun i n => G i n K)) := by
  cases x with
  | np i n => exact h i n
  | ap i n off => cases off with
    | zero => exact h i n
    | succ => exact no
  | _ => exact no
theorem ptrEq {ks : List KB} {x y : SV} {G : DV → (α → Prop) → Prop} (h : ∀ v, Ex (G v)) : Ex (fun K => ptrEqK ks x y (fun v => G v K)) := by
  unfold ptrEqK
  repeat' (first | exact no | exact h _ | refine and ?_ | refine arena fun _ _ => ?_ | refine getB fun _ => ?_ | split)
theorem neg {x : DV} {G : SV → (α → Prop) → Prop} (h : ∀ v, Ex (G v)) : Ex (fun K => negSK x (fun v => G v K)) := by
  unfold negSK
  repeat' (first | exact no | exact h _ | split)
/-- A value that is told. -/
theorem told {γ : Type} {v : γ} {G : γ → (α → Prop) → Prop} (h : ∀ v, Ex (G v)) : Ex (fun K => ∃ r, v = r ∧ G r K) := fun K hk => by
  obtain ⟨r, rfl, hk⟩ := hk
  obtain ⟨s, a, b⟩ := h _ K hk
  exact ⟨s, ⟨_, rfl, a⟩, b⟩
theorem allD0 : ∀ {l : List SV} {G : List DV → (α → Prop) → Prop} (_ : ∀ v, Ex (G v)), Ex (fun K => allDK l (fun v => G v K)) := by
  intro l
  induction l with
  | nil => intro G h; exact h _
  | cons a l ih =>
    intro G h
    cases a <;> first | exact no | exact ih fun ds => h _
theorem key {eks : List EK} {ka : Bool} {x : SV} {G : List DV → (α → Prop) → Prop} (h : ∀ v, Ex (G v)) : Ex (fun K => keyK eks ka x (fun v => G v K)) := by
  unfold keyK
  repeat' (first | exact no | exact h _ | refine allD0 fun _ => ?_ | split)
theorem valOf {agg : Bool} {vs : List SV} {G : SV → (α → Prop) → Prop} (h : ∀ v, Ex (G v)) : Ex (fun K => valOfK agg vs (fun v => G v K)) := by
  unfold valOfK
  repeat' (first | exact no | exact h _ | split)
theorem look {c agg : Bool} {zero : List SV} {r : Option (List SV)} {G : SV → (α → Prop) → Prop} (h : ∀ v, Ex (G v)) : Ex (fun K => lookK c agg zero r (fun v => G v K)) := by
  unfold lookK
  repeat' (first | exact no | exact h _ | refine valOf fun _ => ?_ | split)
theorem cols {l : List Col} {n : Nat} {G : List SV → (α → Prop) → Prop} (h : ∀ v, Ex (G v)) : Ex (fun K => colsK l n (fun v => G v K)) := on (fun k => colsK_eq l n k) (h _)
theorem putc {c : Col} {n : Nat} {v : SV} {G : Col → (α → Prop) → Prop} (h : ∀ v, Ex (G v)) : Ex (fun K => putcK c n v (fun v => G v K)) := by
  unfold putcK
  repeat' (first | exact no | exact h _ | refine bool fun _ => ?_ | split)
theorem putC : ∀ {l : List Col} {off n : Nat} {vs : List SV} {G : List Col → (α → Prop) → Prop} (_ : ∀ v, Ex (G v)), Ex (fun K => putCK l off n vs (fun v => G v K)) := by
  intro l
  induction l with
  | nil => intro off n vs G h; cases vs <;> first | (simp only [putCK]; exact h _) | (simp only [putCK]; exact no)
  | cons c l ih =>
    intro off n vs G h
    cases vs with
    | nil => simp only [putCK]; exact h _
    | cons v vs => cases off with
      | zero => simp only [putCK]; exact putc fun _ => ih fun _ => h _
      | succ off => simp only [putCK]; exact ih fun _ => h _
theorem elem {ea : Bool} {v : SV} {G : List SV → (α → Prop) → Prop} (h : ∀ v, Ex (G v)) : Ex (fun K => elemK ea v (fun l => G l K)) := by
  unfold elemK
  repeat' (first | exact no | exact h _ | refine cells fun _ => ?_ | split)
theorem isInt {ts : List SV} {o : Option Operand} {F : (α → Prop) → Prop} (h : Ex F) : Ex (fun K => isSomeInt ts o (F K)) := by
  unfold isSomeInt
  repeat' (first | exact no | exact h | refine val fun _ => ?_ | split)
theorem appN {l m : List Nat} {G : List Nat → (α → Prop) → Prop} (h : ∀ v, Ex (G v)) : Ex (fun K => Go.Eng.appN l m (fun v => G v K)) := on (fun k => appN_eq l m k) (h _)
theorem gone {l : List Nat} {ks : List KB} {G : List KB → (α → Prop) → Prop} (h : ∀ v, Ex (G v)) : Ex (fun K => goneK l ks (fun v => G v K)) := on (fun k => goneK_eq l ks k) (h _)
theorem allD : ∀ {l : List SV} {G : List DV → (α → Prop) → Prop} (_ : ∀ v, Ex (G v)), Ex (fun K => allDK l (fun v => G v K)) := by
  intro l
  induction l with
  | nil => intro G h; exact h _
  | cons a l ih =>
    intro G h
    cases a <;> first | exact no | exact ih fun ds => h _
theorem dv {ks : List KB} {s : SV} {G : DV → List Nat → (α → Prop) → Prop} (h : ∀ d l, Ex (G d l)) : Ex (fun K => dvK ks s (fun d l => G d l K)) := by
  unfold dvK
  repeat' (first | exact no | exact h _ _ | refine and ?_ | refine getB fun _ => ?_ | refine drop fun _ => ?_ | refine take fun _ => ?_ | refine allD fun _ => ?_ | split)
theorem dvs {ks : List KB} : ∀ {l : List SV} {G : List DV → List Nat → (α → Prop) → Prop} (_ : ∀ d l, Ex (G d l)), Ex (fun K => dvsK ks l (fun d l => G d l K)) := by
  intro l
  induction l with
  | nil => intro G h; exact h _ _
  | cons a l ih => intro G h; exact dv fun d fr => ih fun ds fr' => appN fun r => h _ _
theorem src {ks : List KB} {sz : Nat} {x : SV} {G : Nat → (Nat → List DV) → List Nat → (α → Prop) → Prop} (h : ∀ n g l, Ex (G n g l)) : Ex (fun K => srcK ks sz x (fun n g l => G n g l K)) := by
  unfold srcK
  repeat' (first | exact no | exact h _ _ _ | refine and ?_ | refine getB fun _ => ?_ | refine drop fun _ => ?_ | refine take fun _ => ?_ | refine dvs fun _ _ => ?_ | split)
theorem rep {z : List SV} {n : Nat} {G : List SV → (α → Prop) → Prop} (h : ∀ v, Ex (G v)) : Ex (fun K => repK z n (fun v => G v K)) := on (fun k => repK_eq z n k) (h _)
theorem fillS {ts : List SV} {size : Nat} : ∀ {parts : List (Nat × Operand)} {cs : List SV} {G : List SV → (α → Prop) → Prop} (_ : ∀ v, Ex (G v)), Ex (fun K => Go.Eng.fillS ts size cs parts (fun v => G v K)) := by
  intro parts
  induction parts with
  | nil => intro cs G h; exact h cs
  | cons p parts ih =>
    intro cs G h
    simp only [Go.Eng.fillS]
    refine val fun v => cells fun vs => ?_
    split
    · exact put fun cs' => ih h
    · exact no
theorem newRow {ks : List KB} {k : KB} {G : SV → List KB → (α → Prop) → Prop} (h : ∀ s l, Ex (G s l)) : Ex (fun K => newRowK ks k (fun s l => G s l K)) := by
  unfold newRowK
  exact addB fun _ => lenB fun _ => h _ _
end Ex

theorem pev_ex (P : Program) (TT : Nat → Option TI) (ts : List SV) (ks : List KB) (op : Op) : Ex (fun K => pev P TT ts ks op K) := by
  cases op with
  | call c =>
    obtain ⟨callee, args, argTypes⟩ := c
    simp only [pev]
    repeat' (first | exact Ex.no | exact Ex.self _ | refine Ex.and ?_ | refine Ex.val fun _ => ?_ | refine Ex.vals fun _ => ?_ | refine Ex.getB fun _ => ?_ | split)
  | _ =>
    simp only [pev]
    repeat' (first | exact Ex.no | exact Ex.self _ | exact Ex.bin | refine Ex.and ?_ | refine Ex.two ?_ ?_ | refine Ex.val fun _ => ?_ | refine Ex.vals fun _ => ?_ | refine Ex.getB fun _ => ?_ | refine Ex.getT fun _ => ?_ | refine Ex.pack fun _ => ?_ | refine Ex.drop fun _ => ?_ | refine Ex.take fun _ => ?_ | refine Ex.ints fun _ => ?_ | refine Ex.mapD fun _ => ?_ | refine Ex.eqS fun _ => ?_ | refine Ex.fill fun _ => ?_ | refine Ex.bound fun _ => ?_ | refine Ex.ptrEq fun _ => ?_ | refine Ex.neg fun _ => ?_ | refine Ex.key fun _ => ?_ | refine Ex.told fun _ => ?_ | refine Ex.look fun _ => ?_ | refine Ex.cols fun _ => ?_ | split)

theorem mev_ex (TT : Nat → Option TI) (ts : List SV) (ks : List KB) (op : Op) : Ex (fun K : SV × List KB → Prop => mev TT ts ks op (fun s k => K (s, k))) := by
  cases op with
  | call c =>
    obtain ⟨callee, args, argTypes⟩ := c
    cases callee with
    | builtin b =>
      cases b with
      | append =>
        simp only [mev]
        repeat' (first | exact Ex.no | exact Ex.self _ | refine Ex.and ?_ | refine Ex.val fun _ => ?_ | refine Ex.src fun _ _ _ => ?_ | refine Ex.getB fun _ => ?_ | refine Ex.gone fun _ => ?_ | refine Ex.setB fun _ => ?_ | refine Ex.newRow fun _ _ => ?_ | refine Ex.dvs fun _ _ => ?_ | split)
      | delete =>
        simp only [mev]
        repeat' (first | exact Ex.no | exact Ex.self _ | refine Ex.val fun _ => ?_ | refine Ex.getB fun _ => ?_ | refine Ex.key fun _ => ?_ | refine Ex.told fun _ => ?_ | refine Ex.setB fun _ => ?_ | split)
      | _ => exact Ex.no
    | _ => exact Ex.no
  | makeMap t x =>
    simp only [mev]
    repeat' (first | exact Ex.no | exact Ex.self _ | refine Ex.isInt ?_ | refine Ex.addB fun _ => ?_ | refine Ex.lenB fun _ => ?_ | split)
  | mapUpdate t m k v =>
    simp only [mev]
    repeat' (first | exact Ex.no | exact Ex.self _ | refine Ex.val fun _ => ?_ | refine Ex.getB fun _ => ?_ | refine Ex.key fun _ => ?_ | refine Ex.elem fun _ => ?_ | refine Ex.told fun _ => ?_ | refine Ex.setB fun _ => ?_ | split)
  | alloc t =>
    simp only [mev]
    repeat' (first | exact Ex.no | exact Ex.self _ | refine Ex.addB fun _ => ?_ | refine Ex.lenB fun _ => ?_ | split)
  | box t x =>
    simp only [mev]
    repeat' (first | exact Ex.no | exact Ex.self _ | refine Ex.val fun _ => ?_ | refine Ex.cells fun _ => ?_ | refine Ex.addB fun _ => ?_ | refine Ex.lenB fun _ => ?_ | split)
  | buildSlice t l ps =>
    simp only [mev]
    repeat' (first | exact Ex.no | exact Ex.self _ | refine Ex.rep fun _ => ?_ | refine Ex.fillS fun _ => ?_ | refine Ex.addB fun _ => ?_ | refine Ex.lenB fun _ => ?_ | split)
  | makeSlice t x y =>
    simp only [mev]
    repeat' (first | exact Ex.no | exact Ex.self _ | refine Ex.and ?_ | refine Ex.val fun _ => ?_ | refine Ex.dvs fun _ _ => ?_ | refine Ex.newRow fun _ _ => ?_ | split)
  | convert s d x =>
    simp only [mev]
    repeat' (first | exact Ex.no | exact Ex.self _ | refine Ex.val fun _ => ?_ | refine Ex.newRow fun _ _ => ?_ | split)
  | store t x y =>
    simp only [mev]
    repeat' (first | exact Ex.no | exact Ex.self _ | refine Ex.val fun _ => ?_ | refine Ex.getB fun _ => ?_ | refine Ex.cells fun _ => ?_ | refine Ex.put fun _ => ?_ | refine Ex.setB fun _ => ?_ | refine Ex.drop fun _ => ?_ | refine Ex.take fun _ => ?_ | refine Ex.putI fun _ => ?_ | refine Ex.dvs fun _ _ => ?_ | refine Ex.gone fun _ => ?_ | refine Ex.and ?_ | refine Ex.putC fun _ => ?_ | split)
  | _ => exact Ex.no

theorem cev_ex (P : Program) (TT : Nat → Option TI) (ts : List SV) (ks : List KB) (g : Operand) (args : List Operand) (tys : List TypeId) : Ex (fun K : Bool × SV × List KB → Prop => cev P TT ts ks g args tys (fun h s k => K (h, s, k))) := by
  unfold cev
  refine Ex.val fun v => ?_
  split
  · refine Ex.vals fun _ => Ex.app fun as => ?_
    intro K h
    cases h with
    | data r h1 h2 h3 h4 => exact ⟨(false, r, ks), .data r h1 h2 h3 rfl, h4⟩
    | view r as' fr h1 h2 h3 h4 h5 => exact ⟨(false, r, ks), .view r as' fr h1 h2 h3 h4 rfl, h5⟩
    | frz r as' fr h1 h2 h3 h4 h5 => exact ⟨(true, r, goneL fr ks), .frz r as' fr h1 h2 h3 h4 rfl, h5⟩
    | mem r ks' h1 h2 => exact ⟨(true, r, ks'), .mem r ks' h1 rfl, h2⟩
  · exact Ex.no

end Go.Eng
