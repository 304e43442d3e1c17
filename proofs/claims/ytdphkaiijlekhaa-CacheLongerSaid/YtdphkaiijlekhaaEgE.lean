/-
  The engine, part E: contracts at arguments, and with results, that read alike, inside of aggregates too.
-/
import Derived.Test.YtdphkaiijlekhaaEgD
namespace Go.Eng
open Go Go.RowKit
/-- Whatever the first stands for, the second does too. -/
inductive AEq : SV → SV → Prop where
  | refl (s : SV) : AEq s s
  | d {x y : DV} : DS x y → AEq (.d x) (.d y)
  | agg (l m : List SV) : l.length = m.length → (∀ (j : Nat) (s t : SV), l[j]? = some s → m[j]? = some t → AEq s t) → AEq (.agg l) (.agg m)
  | tup (l m : List SV) : l.length = m.length → (∀ (j : Nat) (s t : SV), l[j]? = some s → m[j]? = some t → AEq s t) → AEq (.tup l) (.tup m)
theorem AEq.den {s t : SV} (h : AEq s t) {w : World} {M : Nat → Prop} {β : Env} : ∀ {v : Value}, Den w M β s v → Den w M β t v := by
  induction h with
  | refl s => exact fun h => h
  | d h => exact fun hd => .d (h.rd (den_data hd))
  | agg l m hl _ ih =>
    intro v hd
    cases hd with
    | agg _ vs h1 h2 h3 =>
      refine .agg m vs (hl ▸ h1) (fun j t u ht hu => ?_) h3
      have hj : j < l.length := by rw [hl]; exact (List.getElem?_eq_some_iff.1 ht).1
      exact ih j _ t (List.getElem?_eq_getElem hj) ht (h2 j _ u (List.getElem?_eq_getElem hj) hu)
  | tup l m hl _ ih =>
    intro v hd
    cases hd with
    | tup _ vs h1 h2 =>
      refine .tup m vs (hl ▸ h1) (fun j t u ht hu => ?_)
      have hj : j < l.length := by rw [hl]; exact (List.getElem?_eq_some_iff.1 ht).1
      exact ih j _ t (List.getElem?_eq_getElem hj) ht (h2 j _ u (List.getElem?_eq_getElem hj) hu)
def AEqL : List SV → List SV → Prop
  | [], [] => True
  | a :: l, b :: m => AEq a b ∧ AEqL l m
  | _, _ => False
theorem AEqL.len : ∀ {l m : List SV}, AEqL l m → l.length = m.length
  | [], [], _ => rfl
  | _ :: _, _ :: _, h => congrArg (· + 1) (AEqL.len h.2)
theorem AEqL.at : ∀ {l m : List SV}, AEqL l m → ∀ (j : Nat) (s t : SV), l[j]? = some s → m[j]? = some t → AEq s t
  | [], [], _, _, _, _, ht, _ => by simp at ht
  | _ :: _, _ :: _, h, 0, s, t, hs, ht => by simp at hs ht; subst hs ht; exact h.1
  | _ :: l, _ :: m, h, j + 1, s, t, hs, ht => AEqL.at (l := l) (m := m) h.2 j s t (by simpa using hs) (by simpa using ht)
theorem AEq.aggL {l m : List SV} (h : AEqL l m) : AEq (.agg l) (.agg m) := .agg l m h.len h.at
theorem AEq.tupL {l m : List SV} (h : AEqL l m) : AEq (.tup l) (.tup m) := .tup l m h.len h.at
theorem AEq.rows {b : Bool} {n sz : Nat} {f g : Nat → List DV} (h : ∀ i, i < n → DSL (f i) (g i)) : AEq (.d (.sl b n sz f)) (.d (.sl b n sz g)) := .d (.rows h)
theorem AEq.row {b : Bool} {n sz : Nat} {f g : Nat → List DV} (h : ∀ i, i < n → f i = g i) : AEq (.d (.sl b n sz f)) (.d (.sl b n sz g)) := .d (.rows (fun i hi => h i hi ▸ DSL.refl _))
theorem FnOk.convA {P : Program} {f : FuncId} {args args' : List SV} {res : SV} (h : FnOk P f args res) (hc : AEqL args' args) : FnOk P f args' res :=
  ⟨h.1, fun M w vs hM hl hd => h.2 M w vs hM (by rw [← hc.len, hl]) (fun j s u hs hu => by
    have hj : j < args'.length := by rw [hc.len]; exact (List.getElem?_eq_some_iff.1 hs).1
    exact (hc.at j _ s (List.getElem?_eq_getElem hj) hs).den (hd j _ u (List.getElem?_eq_getElem hj) hu))⟩
theorem FnOk.resA {P : Program} {f : FuncId} {args : List SV} {res res' : SV} (h : FnOk P f args res) (hr : AEq res res') : FnOk P f args res' :=
  ⟨h.1, fun M w vs hM hl hd => (h.2 M w vs hM hl hd).mono fun e w' ⟨r, h1, h2, h3⟩ => ⟨r, h1, h2, hr.den h3⟩⟩
theorem COk.convA {P : Program} {f : FuncId} {args args' : List SV} {ks : List KB} {R : SV → List KB → Prop} (h : COk P f args ks R) (hc : AEqL args' args) : COk P f args' ks R :=
  ⟨h.1, fun X w β fp vs hM hl hd => h.2 X w β fp vs hM (by rw [← hc.len, hl]) (fun j s u hs hu => by
    have hj : j < args'.length := by rw [hc.len]; exact (List.getElem?_eq_some_iff.1 hs).1
    exact (hc.at j _ s (List.getElem?_eq_getElem hj) hs).den (hd j _ u (List.getElem?_eq_getElem hj) hu))⟩
theorem COk.imp {P : Program} {f : FuncId} {args : List SV} {ks : List KB} {R R' : SV → List KB → Prop} (h : COk P f args ks R) (hR : ∀ s k, R s k → R' s k) : COk P f args ks R' :=
  ⟨h.1, fun X w β fp vs hM hl hd => (h.2 X w β fp vs hM hl hd).mono fun e w' ⟨r, s, k, b, p, h1, h2, h3⟩ => ⟨r, s, k, b, p, h1, hR s k h2, h3⟩⟩
end Go.Eng
