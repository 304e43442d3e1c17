/-
  The engine, part 11: all pure operations.
-/
import Derived.Test.YtdphkaiijlekhaaEgA
namespace Go.Eng
open Go Go.RowKit

/-- The fence that lets everything by, in a round or not. -/
def wideF (r : Option Nat) : Fence := { Fence.wide with round := r }

theorem callsIn_wideF {r : Option Nat} {n : Nat} {P : Program} {f : FuncId} {args : Array Value} {w : World} {R : Ending → World → Prop} (h : Calls P f args w R) : CallsIn (wideF r) n P f args w R :=
  (callsIn_wide (n := n)).2 h

theorem closedL_get {l : List SV} (h : closedL l = true) (j : Nat) (s : SV) (hs : l[j]? = some s) : closed s = true := by
  induction l generalizing j with
  | nil => simp at hs
  | cons a l ih =>
    simp only [closedL, Bool.and_eq_true] at h
    cases j with
    | zero => simp at hs; subst hs; exact h.1
    | succ j => exact ih h.2 j (by simpa using hs)

theorem Den.closed {w : World} {M : Nat → Prop} {β : Env} {s : SV} {v : Value} (h : Den w M β s v) (hc : closed s = true) (β' : Env) : Den w M β' s v := by
  induction h with
  | d h => exact .d h
  | ptr => simp [Go.Eng.closed] at hc
  | aptr => simp [Go.Eng.closed] at hc
  | dptr cells off ad u h1 h2 h3 h4 => exact .dptr cells off ad u h1 h2 h3 h4
  | allNil => simp [Go.Eng.closed] at hc
  | all => simp [Go.Eng.closed] at hc
  | rowNil => simp [Go.Eng.closed] at hc
  | row => simp [Go.Eng.closed] at hc
  | cs => simp [Go.Eng.closed] at hc
  | rptr => simp [Go.Eng.closed] at hc
  | agg l vs h1 _ h3 ih => exact .agg l vs h1 (fun j s u a b => ih j s u a b (closedL_get (by simpa [Go.Eng.closed] using hc) j s a)) h3
  | tup l vs h1 _ ih => exact .tup l vs h1 (fun j s u a b => ih j s u a b (closedL_get (by simpa [Go.Eng.closed] using hc) j s a))
  | fn f caps vs h1 _ ih => exact .fn f caps vs h1 (fun j s u a b => ih j s u a b (closedL_get (by simpa [Go.Eng.closed] using hc) j s a))
  | map => simp [Go.Eng.closed] at hc
  | ap => simp [Go.Eng.closed] at hc
  | npNil => simp [Go.Eng.closed] at hc
  | np => simp [Go.Eng.closed] at hc
  | yl => simp [Go.Eng.closed] at hc
  | v x => exact .v x
  | any x => exact .any x

mutual
theorem scalar_closed (s : SV) (h : scalar s = true) : closed s = true := by
  match s with
  | .d x => rfl
  | .agg l => simp only [closed]; exact scalarL_closed l (by simpa [scalar] using h)
  | .tup l => simp only [closed]; exact scalarL_closed l (by simpa [scalar] using h)
  | .ptr _ _ => simp [scalar] at h
  | .aptr _ _ _ _ => simp [scalar] at h
  | .dptr _ _ => simp [scalar] at h
  | .all _ => simp [scalar] at h
  | .row _ _ _ => simp [scalar] at h
  | .cs _ _ _ _ => simp [scalar] at h
  | .rptr _ _ _ _ => simp [scalar] at h
  | .fn _ _ => simp [scalar] at h
  | .map _ => simp [scalar] at h
  | .ap _ _ _ => simp [scalar] at h
  | .np _ _ => simp [scalar] at h
  | .v _ => simp [scalar] at h
  | .any => simp [scalar] at h
theorem scalarL_closed (l : List SV) (h : scalarL l = true) : closedL l = true := by
  match l with
  | [] => rfl
  | a :: l =>
    simp only [scalarL, Bool.and_eq_true] at h
    simp only [closedL, Bool.and_eq_true]
    exact ⟨scalar_closed a h.1, scalarL_closed l h.2⟩
end
theorem scalarL_get {l : List SV} (h : scalarL l = true) (j : Nat) (s : SV) (hs : l[j]? = some s) : scalar s = true := by
  induction l generalizing j with
  | nil => simp at hs
  | cons a l ih =>
    simp only [scalarL, Bool.and_eq_true] at h
    cases j with
    | zero => simp at hs; subst hs; exact h.1
    | succ j => exact ih h.2 j (by simpa using hs)
/-- Numbers and texts lie nowhere. -/
theorem Den.scalar {w : World} {M : Nat → Prop} {β : Env} {s : SV} {v : Value} (h : Den w M β s v) (hc : scalar s = true) (w' : World) (M' : Nat → Prop) (β' : Env) : Den w' M' β' s v := by
  induction h with
  | d h =>
    cases h with
    | int => exact .d (.int _ _)
    | bool => exact .d (.bool _)
    | tt => exact .d .tt
    | ff => exact .d .ff
    | str => exact .d (.str _)
    | nil => simp [Go.Eng.scalar] at hc
    | sl => simp [Go.Eng.scalar] at hc
  | agg l vs h1 _ h3 ih => exact .agg l vs h1 (fun j s u a b => ih j s u a b (scalarL_get (by simpa [Go.Eng.scalar] using hc) j s a)) h3
  | tup l vs h1 _ ih => exact .tup l vs h1 (fun j s u a b => ih j s u a b (scalarL_get (by simpa [Go.Eng.scalar] using hc) j s a))
  | _ => simp [Go.Eng.scalar] at hc

section
variable {P : Program} {TT : Nat → Option TI} {ts : List SV} {ks : List KB} {w : World} {M : Nat → Prop} {β : Env} {a : Act} {K : SV → Prop} {o : Oper} {r : Option Nat} {n : Nat} {next : Act → World → Prop} {Q : Exit → Act → World → Prop}

theorem wpIn_of_run {v : Value} {w' : World} (hnd : ∀ c, o.op ≠ .defer c) (hr : (execOp a.eval o).run P w = .ok (.value v) w') (h : next (a.put o.dst v) w') : o.wpIn (wideF r) n P a w next Q := by
  refine ⟨fun _ _ => trivial, ?_⟩
  rw [Oper.semAt_eq _ _ _ hnd, hr]
  exact h
theorem wpIn_of_skip {w' : World} (hnd : ∀ c, o.op ≠ .defer c) (hr : (execOp a.eval o).run P w = .ok .skip w') (h : next (a.put o.dst undef) w') : o.wpIn (wideF r) n P a w next Q := by
  refine ⟨fun _ _ => trivial, ?_⟩
  rw [Oper.semAt_eq _ _ _ hnd, hr]
  exact h

/-- Pure operations are carried out as `pev` says. -/
theorem pev_sound (hTT : TTok P TT) (h : pev P TT ts ks o.op K) (hT : ∀ x, Den w M β (val ts x) (a.eval x)) (hB : ∀ (i : Nat) (L : Loc) (k : KB), ks[i]? = some k → k ≠ .gone → β i = some L → ∃ fp, KBat w M β L fp k) (hA : Apart β ks) : Ran P o a w M β K := by
  cases ho : o.op with
  | move x => rw [ho] at h; exact pev_move hT (.inl ho) (by simpa [pev, valK_eq] using h)
  | assign x => rw [ho] at h; exact pev_move hT (.inr ho) (by simpa [pev, valK_eq] using h)
  | pick c x y => rw [ho] at h; exact pev_pick hT ho h
  | load t x => rw [ho] at h; exact pev_load hTT hT hB ho h
  | fieldAddr t x f => rw [ho] at h; exact pev_fieldAddr hTT hT ho h
  | field t x f => rw [ho] at h; exact pev_field hTT hT ho h
  | indexAddr t x i => rw [ho] at h; exact pev_indexAddr hTT hT hB ho h
  | index t x i => rw [ho] at h; exact pev_index hTT hT ho h
  | binOp op t x y t' => rw [ho] at h; exact pev_binOp hTT hT hB hA ho h
  | unOp op t x => rw [ho] at h; exact pev_unOp hT ho h
  | convert s d x => rw [ho] at h; exact pev_convert hTT hT hB ho h
  | extract x i => rw [ho] at h; exact pev_extract hT ho h
  | makeFunc fn x y => rw [ho] at h; exact pev_makeFunc hT ho h
  | build t ps => rw [ho] at h; exact pev_build hTT hT ho h
  | slice t x l h' m => rw [ho] at h; exact pev_slice hTT hT hB ho h
  | nilCheck x => rw [ho] at h; exact pev_nilCheck hT ho h
  | lookup t x i c => rw [ho] at h; exact pev_lookup hTT hT hB ho h
  | call c =>
    obtain ⟨callee, args, argTypes⟩ := c
    rw [ho] at h
    cases callee with
    | value g => exact h.elim
    | builtin b => exact pev_builtin hTT hT hB ho h
    | invoke r m => exact h.elim
  | _ => rw [ho] at h; exact h.elim

end
end Go.Eng
