/-
  The engine, part A: maps looked up.
-/
import Derived.Test.YtdphkaiijlekhaaEg10
namespace Go.Eng
open Go Go.RowKit

section
variable {P : Program} {TT : Nat → Option TI} {ts : List SV} {ks : List KB} {w : World} {M : Nat → Prop} {β : Env} {a : Act} {K : SV → Prop} {o : Oper}

theorem kEq_refl (k : IntKind) : kEq k k = true := by cases k <;> rfl
theorem ekEq_eq {a b : List EK} (h : ekEq a b = true) : a = b := by
  induction a generalizing b with
  | nil => cases b with
    | nil => rfl
    | cons => cases h
  | cons x a ih => cases b with
    | nil => cases x <;> cases h
    | cons y b =>
      cases x <;> cases y <;> simp only [ekEq] at h <;> first | cases h | skip
      · split at h
        · rename_i hk; rw [kEq_eq hk, ih h]
        · cases h
      · rw [ih h]
      · rw [ih h]
theorem bEq_eq {a b : Bool} (h : bEq a b = true) : a = b := by cases a <;> cases b <;> first | rfl | cases h

theorem rd_of_int {d : DV} {k : IntKind} {n : Int} (h : Rd w M d (.int k n)) : d = .int k n := by cases h; rfl
theorem rd_of_bool {d : DV} {b : Bool} (h : Rd w M d (.bool b)) : dBool d = some b := by cases h <;> rfl
theorem rd_of_str {d : DV} {s : ByteArray} (h : Rd w M d (.string s)) : d = .str s.toList := by
  generalize hv : Value.string s = v at h
  cases h <;> simp [strV] at hv
  subst hv
  rw [toList_str]

theorem eqCell_dEq {k : EK} {x y : Value} {d e : DV} (hx : fits k x) (hy : fits k y) (hd : Rd w M d x) (he : Rd w M e y) : eqCell k x y = dEq d e := by
  cases k with
  | int k =>
    cases x <;> simp [fits] at hx
    cases y <;> simp [fits] at hy
    subst hx hy
    rw [rd_of_int hd, rd_of_int he]
    simp [eqCell, dEq, kEq_refl]
  | bool =>
    cases x <;> simp [fits] at hx
    cases y <;> simp [fits] at hy
    have h1 := rd_of_bool hd
    have h2 := rd_of_bool he
    cases d <;> simp [dBool] at h1 <;> cases e <;> simp [dBool] at h2 <;> simp [eqCell, dEq, dBool, h1, h2]
  | str =>
    cases x <;> simp [fits] at hx
    cases y <;> simp [fits] at hy
    rw [rd_of_str hd, rd_of_str he]
    simp [eqCell, dEq]

/-- Cells that read as data. -/
def RdL (w : World) (M : Nat → Prop) (ds : List DV) (cs : List Value) : Prop := ∀ (q : Nat) (d : DV) (u : Value), ds[q]? = some d → cs[q]? = some u → Rd w M d u
theorem eqCells_keyEq {eks : List EK} : ∀ {xs ys : List Value} {ds es : List DV}, xs.length = eks.length → ys.length = eks.length → ds.length = xs.length → es.length = ys.length → Fits eks xs → Fits eks ys → RdL w M ds xs → RdL w M es ys → eqCells eks xs ys = keyEq ds es := by
  induction eks with
  | nil =>
    intro xs ys ds es h1 h2 h3 h4 _ _ _ _
    match xs, ys, ds, es, h1, h2, h3, h4 with
    | [], [], [], [], _, _, _, _ => rfl
  | cons k eks ih =>
    intro xs ys ds es h1 h2 h3 h4 f1 f2 r1 r2
    match xs, ys, ds, es, h1, h2, h3, h4 with
    | x :: xs, y :: ys, d :: ds, e :: es, h1, h2, h3, h4 =>
      simp only [eqCells, keyEq]
      rw [eqCell_dEq (f1 0 k x rfl rfl) (f2 0 k y rfl rfl) (r1 0 d x rfl rfl) (r2 0 e y rfl rfl), ih (by simpa using h1) (by simpa using h2) (by simpa using h3) (by simpa using h4)
        (fun j k x a b => f1 (j + 1) k x (by simpa using a) (by simpa using b)) (fun j k x a b => f2 (j + 1) k x (by simpa using a) (by simpa using b))
        (fun q d u a b => r1 (q + 1) d u (by simpa using a) (by simpa using b)) (fun q d u a b => r2 (q + 1) d u (by simpa using a) (by simpa using b))]

/-- What a type of keys must be. -/
structure KeyTy (P : Program) (kt : TypeId) (eks : List EK) (ka : Bool) : Prop where
  chk : ∀ (w : World) (b : Bool) (kc : List Value), kc.length = eks.length → Fits eks kc → (Instr.checkKey b 10000 kt (mkVal ka kc)).run P w = .ok () w
  eq : ∀ (w : World) (xs ys : List Value), xs.length = eks.length → ys.length = eks.length → Fits eks xs → Fits eks ys → (Op.equal kt (mkVal ka xs) (mkVal ka ys)).run P w = .ok (eqCells eks xs ys) w
  now : ∃ d, P.underlying kt = some d ∧ ((∀ (xs ys : List Value), xs.length = eks.length → ys.length = eks.length → Fits eks xs → Fits eks ys → Instr.sameNow d (mkVal ka xs) (mkVal ka ys) = none) ∨
    (∀ (xs ys : List Value), xs.length = eks.length → ys.length = eks.length → Fits eks xs → Fits eks ys → Instr.sameNow d (mkVal ka xs) (mkVal ka ys) = some (eqCells eks xs ys)))

def idxM : List (List DV × List SV) → List DV → Nat → Option Nat
  | [], _, _ => none
  | (k, _) :: l, key, i => if keyEq key k then some i else idxM l key (i + 1)
theorem idxM_spec (l : List (List DV × List SV)) (key : List DV) (i : Nat) : (idxM l key i = none ∧ findM l key = none ∧ (∀ vs, putM l key vs = l ++ [(key, vs)]) ∧ delM l key = l) ∨
    ∃ j p, idxM l key i = some (i + j) ∧ l[j]? = some p ∧ keyEq key p.1 = true ∧ findM l key = some p.2 ∧ (∀ vs, putM l key vs = l.set j (key, vs)) ∧ delM l key = l.eraseIdx j := by
  induction l generalizing i with
  | nil => exact .inl ⟨rfl, rfl, fun _ => rfl, rfl⟩
  | cons p l ih =>
    obtain ⟨k, v⟩ := p
    by_cases h : keyEq key k = true
    · exact .inr ⟨0, (k, v), by simp [idxM, h], rfl, h, by simp [findM, h], fun vs => by simp [putM, h], by simp [delM, h]⟩
    · rcases ih (i + 1) with ⟨a, b, c, d⟩ | ⟨j, p, a, b, c, d, e, f⟩
      · exact .inl ⟨by simp [idxM, h, a], by simp [findM, h, b], fun vs => by simp [putM, h, c], by simp [delM, h, d]⟩
      · exact .inr ⟨j + 1, p, by simp [idxM, h, a]; omega, by simpa using b, c, by simp [findM, h, d], fun vs => by simp [putM, h, e], by simp [delM, h, f]⟩

theorem findNow_run {d : TypeDesc} {eks : List EK} {ka ea : Bool} {ds : List DV} {kc : List Value} (hl : kc.length = eks.length) (hdl : ds.length = kc.length) (hf : Fits eks kc) (hr : RdL w M ds kc)
    (hn : ∀ (xs ys : List Value), xs.length = eks.length → ys.length = eks.length → Fits eks xs → Fits eks ys → Instr.sameNow d (mkVal ka xs) (mkVal ka ys) = some (eqCells eks xs ys)) :
    ∀ (l : List (List DV × List SV)) (es : List MapEntry) (i : Nat), l.length = es.length → (∀ (j : Nat) (p : List DV × List SV) (e : MapEntry), l[j]? = some p → es[j]? = some e → EntAt w M β eks ka ea p e) →
      Instr.findNow d (mkVal ka kc) es i = some ((idxM l ds i).bind fun j => (es[j - i]?).map fun e => (j, e.val)) := by
  intro l
  induction l with
  | nil => intro es i h _; cases es with
    | nil => rfl
    | cons => simp at h
  | cons p l ih =>
    intro es i h he
    cases es with
    | nil => simp at h
    | cons e es =>
      obtain ⟨k, v⟩ := p
      obtain ⟨kc', vc, a1, a2, a3, a4, a5, a6, a7, a8, a9, a10, a11⟩ := (he 0 (k, v) e rfl rfl).ex
      have heq := hn kc kc' hl a5 hf a8
      rw [← a1] at heq
      have hke := eqCells_keyEq (w := w) (M := M) hl a5 hdl a3 hf a8 hr a9
      simp only [Instr.findNow, heq, hke, idxM]
      cases hk : keyEq ds k with
      | true => simp
      | false =>
        simp only [Bool.false_eq_true, if_false]
        rw [ih es (i + 1) (by simpa using h) (fun j p e a b => he (j + 1) p e (by simpa using a) (by simpa using b))]
        rcases idxM_spec l ds (i + 1) with ⟨b1, _⟩ | ⟨j, p, b1, b2, _⟩
        · simp [b1]
        · simp only [b1, Option.bind_some]
          rw [show i + 1 + j - (i + 1) = j from by omega, show i + 1 + j - i = j + 1 from by omega]
          simp
theorem findAsking_run {kt : TypeId} {eks : List EK} {ka ea : Bool} {ds : List DV} {kc : List Value} (hl : kc.length = eks.length) (hdl : ds.length = kc.length) (hf : Fits eks kc) (hr : RdL w M ds kc)
    (hn : ∀ (w : World) (xs ys : List Value), xs.length = eks.length → ys.length = eks.length → Fits eks xs → Fits eks ys → (Op.equal kt (mkVal ka xs) (mkVal ka ys)).run P w = .ok (eqCells eks xs ys) w) :
    ∀ (l : List (List DV × List SV)) (es : List MapEntry) (i : Nat), l.length = es.length → (∀ (j : Nat) (p : List DV × List SV) (e : MapEntry), l[j]? = some p → es[j]? = some e → EntAt w M β eks ka ea p e) →
      (Instr.findAsking kt (mkVal ka kc) es i).run P w = .ok ((idxM l ds i).bind fun j => (es[j - i]?).map fun e => (j, e.val)) w := by
  intro l
  induction l with
  | nil => intro es i h _; cases es with
    | nil => rfl
    | cons => simp at h
  | cons p l ih =>
    intro es i h he
    cases es with
    | nil => simp at h
    | cons e es =>
      obtain ⟨k, v⟩ := p
      obtain ⟨kc', vc, a1, a2, a3, a4, a5, a6, a7, a8, a9, a10, a11⟩ := (he 0 (k, v) e rfl rfl).ex
      have heq := hn w kc kc' hl a5 hf a8
      rw [← a1] at heq
      have hke := eqCells_keyEq (w := w) (M := M) hl a5 hdl a3 hf a8 hr a9
      simp only [Instr.findAsking, Sem.run_bind, heq, hke, idxM, Result.andThen_ok]
      cases hk : keyEq ds k with
      | true => simp
      | false =>
        simp only [Bool.false_eq_true, if_false]
        rw [ih es (i + 1) (by simpa using h) (fun j p e a b => he (j + 1) p e (by simpa using a) (by simpa using b))]
        rcases idxM_spec l ds (i + 1) with ⟨b1, _⟩ | ⟨j, p, b1, b2, _⟩
        · simp [b1]
        · simp only [b1, Option.bind_some]
          rw [show i + 1 + j - (i + 1) = j from by omega, show i + 1 + j - i = j + 1 from by omega]
          simp
theorem findKey_run {kt : TypeId} {eks : List EK} {ka ea : Bool} (hK : KeyTy P kt eks ka) {ds : List DV} {kc : List Value} (hl : kc.length = eks.length) (hdl : ds.length = kc.length) (hf : Fits eks kc) (hr : RdL w M ds kc)
    (l : List (List DV × List SV)) (es : List MapEntry) (h : l.length = es.length) (he : ∀ (j : Nat) (p : List DV × List SV) (e : MapEntry), l[j]? = some p → es[j]? = some e → EntAt w M β eks ka ea p e) :
      (Instr.findKey kt (mkVal ka kc) es).run P w = .ok ((idxM l ds 0).bind fun j => (es[j]?).map fun e => (j, e.val)) w := by
  obtain ⟨d, hd, hno | hno⟩ := hK.now
  · have hask := findAsking_run (P := P) (w := w) (M := M) (β := β) hl hdl hf hr hK.eq l es 0 h he
    simp only [Nat.sub_zero] at hask
    cases es with
    | nil => cases l with
      | nil => simp [Instr.findKey, run_underlying hd, Instr.findNow, idxM]
      | cons => simp at h
    | cons e es =>
      have : Instr.findNow d (mkVal ka kc) (e :: es) 0 = none := by
        cases l with
        | nil => simp at h
        | cons p l =>
          obtain ⟨kc', vc, a1, a2, a3, a4, a5, a6, a7, a8, a9, a10, a11⟩ := (he 0 p e rfl rfl).ex
          have := hno kc kc' hl a5 hf a8
          rw [← a1] at this
          simp [Instr.findNow, this]
      simp only [Instr.findKey, Sem.run_bind, run_underlying hd, Result.andThen_ok, this]
      exact hask
  · have hnow := findNow_run (w := w) (M := M) (β := β) hl hdl hf hr hno l es 0 h he
    simp only [Nat.sub_zero] at hnow
    simp [Instr.findKey, run_underlying hd, hnow]

theorem chk_plain {t : TypeId} {d : TypeDesc} (hu : P.underlying t = some d) (hd : (∃ k, d = .int k) ∨ d = .string ∨ d = .bool) (b : Bool) (n : Nat) (v : Value) : (Instr.checkKey b (n + 1) t v).run P w = .ok () w := by
  simp only [Instr.checkKey, Sem.run_bind, run_underlying hu, Result.andThen_ok]
  rcases hd with ⟨k, rfl⟩ | rfl | rfl <;> cases v <;> rfl
theorem eqv_int {t : TypeId} {k : IntKind} (hu : P.underlying t = some (.int k)) (p q : Int) : (Op.equal t (.int k p) (.int k q)).run P w = .ok (p == q) w := run_equalIn_int (P := P) w 9999 t k k p q hu
theorem eqv_str {t : TypeId} (hu : P.underlying t = some .string) (p q : ByteArray) : (Op.equal t (.string p) (.string q)).run P w = .ok (p.toList == q.toList) w := run_equalIn_string (P := P) w 9999 t p q hu
theorem mkVal_one {cs : List Value} (h : cs.length = 1) : ∃ x, cs = [x] ∧ mkVal false cs = x := by
  match cs, h with
  | [x], _ => exact ⟨x, rfl, rfl⟩

theorem bytes_beq (p q : ByteArray) : (p == q) = (p.toList == q.toList) := by
  have hd : (p == q) = (p.data == q.data) := rfl
  rw [hd]
  by_cases h : p = q
  · subst h; simp
  · have h1 : (p.data == q.data) = false := by
      simp only [beq_eq_false_iff_ne, ne_eq]
      intro e
      exact h (ByteArray.ext e)
    have h2 : ¬ p.toList = q.toList := fun e => h (by
      have e1 : p = ⟨p.toList.toArray⟩ := by rw [show p.toList = p.data.toList from toList_str p.data.toList]
      have e2 : q = ⟨q.toList.toArray⟩ := by rw [show q.toList = q.data.toList from toList_str q.data.toList]
      rw [e1, e2, e])
    rw [h1]
    symm
    simpa using h2

/-- The type of a map's keys, off the table. -/
theorem keyTy_of (hTT : TTok P TT) {kt : TypeId} {size bytes : Nat} {ka : Bool} {zero : List SV} {kd : TD} {eqk : List EK} (ht : TT kt = some ⟨size, bytes, ka, zero, kd, eqk⟩) (hne : keks ka kd eqk ≠ []) : KeyTy P kt (keks ka kd eqk) ka := by
  obtain ⟨info, d, z, hi, hu, _, _, _, hag, _, _, _, _, hd⟩ := find_TT hTT ht
  cases ka with
  | true =>
    simp only [keks] at hne ⊢
    have h1 := (hTT _ _ ht).eqk hne
    have h2 := ((hTT _ _ ht).key hne).2
    simp only at h1 h2 hag
    refine ⟨fun w b kc hl hf => h2 w b kc hl hf, fun w xs ys a b c e => (h1 w xs ys a b c e).1, d, hu, .inl (fun xs ys _ _ _ _ => ?_)⟩
    cases d <;> simp [aggDesc] at hag <;> rfl
  | false =>
    simp only at hd
    have one : ∀ {k : EK} {xs : List Value}, xs.length = [k].length → Fits [k] xs → ∃ x, xs = [x] ∧ fits k x := fun {k xs} hl hf => by
      match xs, hl with
      | [x], _ => exact ⟨x, rfl, hf 0 k x rfl rfl⟩
    cases kd with
    | int k =>
      cases hd
      show KeyTy P kt [.int k] false
      refine ⟨fun w b kc hl hf => chk_plain hu (.inl ⟨_, rfl⟩) _ 9999 _, fun w xs ys a b c e => ?_, _, hu, .inr (fun xs ys a b c e => ?_)⟩
      · obtain ⟨x, rfl, hx⟩ := one a c
        obtain ⟨y, rfl, hy⟩ := one b e
        cases x <;> simp [fits] at hx
        cases y <;> simp [fits] at hy
        subst hx hy
        simp [mkVal, eqCells, eqCell, eqv_int hu]
      · obtain ⟨x, rfl, hx⟩ := one a c
        obtain ⟨y, rfl, hy⟩ := one b e
        cases x <;> simp [fits] at hx
        cases y <;> simp [fits] at hy
        subst hx hy
        simp [mkVal, eqCells, eqCell, Instr.sameNow]
    | str =>
      cases hd
      show KeyTy P kt [.str] false
      refine ⟨fun w b kc hl hf => chk_plain hu (.inr (.inl rfl)) _ 9999 _, fun w xs ys a b c e => ?_, _, hu, .inr (fun xs ys a b c e => ?_)⟩
      · obtain ⟨x, rfl, hx⟩ := one a c
        obtain ⟨y, rfl, hy⟩ := one b e
        cases x <;> simp [fits] at hx
        cases y <;> simp [fits] at hy
        simp [mkVal, eqCells, eqCell, eqv_str hu]
      · obtain ⟨x, rfl, hx⟩ := one a c
        obtain ⟨y, rfl, hy⟩ := one b e
        cases x <;> simp [fits] at hx
        cases y <;> simp [fits] at hy
        simp [mkVal, eqCells, eqCell, Instr.sameNow, bytes_beq]
    | bool =>
      cases hd
      show KeyTy P kt [.bool] false
      refine ⟨fun w b kc hl hf => chk_plain hu (.inr (.inr rfl)) _ 9999 _, fun w xs ys a b c e => ?_, _, hu, .inr (fun xs ys a b c e => ?_)⟩
      · obtain ⟨x, rfl, hx⟩ := one a c
        obtain ⟨y, rfl, hy⟩ := one b e
        cases x <;> simp [fits] at hx
        cases y <;> simp [fits] at hy
        simp [mkVal, eqCells, eqCell, eq_bool _ _ _ hu]
      · obtain ⟨x, rfl, hx⟩ := one a c
        obtain ⟨y, rfl, hy⟩ := one b e
        cases x <;> simp [fits] at hx
        cases y <;> simp [fits] at hy
        simp [mkVal, eqCells, eqCell, Instr.sameNow]
    | _ => exact absurd rfl hne

theorem allDK_map {l : List SV} {c : List DV → Prop} (h : allDK l c) : ∃ ds : List DV, l = ds.map .d ∧ c ds := by
  induction l generalizing c with
  | nil => exact ⟨[], rfl, h⟩
  | cons a l ih =>
    cases a with
    | d x =>
      obtain ⟨ds, rfl, hc⟩ := ih h
      exact ⟨x :: ds, rfl, hc⟩
    | _ => exact h.elim
theorem fitD_fits {e : EK} {d : DV} {u : Value} (h : fitD e d = true) (hr : Rd w M d u) : fits e u := by
  cases e with
  | int k => cases d with
    | int k' n => cases hr; exact kEq_eq h
    | _ => cases h
  | bool => cases d with
    | bool => cases hr; exact True.intro
    | tt => cases hr; exact True.intro
    | ff => cases hr; exact True.intro
    | _ => cases h
  | str => cases d with
    | str => cases hr; exact True.intro
    | _ => cases h
theorem fitDs_fits {es : List EK} : ∀ {ds : List DV} {us : List Value}, fitDs es ds = true → ds.length = us.length → RdL w M ds us → us.length = es.length ∧ Fits es us := by
  induction es with
  | nil => intro ds us h hl _; cases ds with
    | nil => exact ⟨by simpa using hl.symm, fun j k x hk => by simp at hk⟩
    | cons => cases h
  | cons e es ih =>
    intro ds us h hl hr
    cases ds with
    | nil => cases h
    | cons d ds => cases us with
      | nil => simp at hl
      | cons u us =>
        simp only [fitDs] at h
        split at h
        · rename_i hd
          obtain ⟨a, b⟩ := ih h (by simpa using hl) (fun q d u x y => hr (q + 1) d u (by simpa using x) (by simpa using y))
          refine ⟨by simp [a], fun j k x hk hx => ?_⟩
          cases j with
          | zero => simp at hk hx; subst hk hx; exact fitD_fits hd (hr 0 d u rfl rfl)
          | succ j => exact b j k x (by simpa using hk) (by simpa using hx)
        · cases h
/-- A key that is looked up. -/
theorem keyK_spec {eks : List EK} {ka : Bool} {key : SV} {c : List DV → Prop} (h : keyK eks ka key c) : eks ≠ [] ∧ ∃ ds, c ds ∧ ∀ v, Den w M β key v → ∃ kc, v = mkVal ka kc ∧ kc.length = eks.length ∧ ds.length = kc.length ∧ Fits eks kc ∧ RdL w M ds kc := by
  unfold keyK at h
  split at h
  · exact h.elim
  · rename_i e es
    refine ⟨by simp, ?_⟩
    split at h
    · split at h
      · rename_i l
        obtain ⟨ds, hds, h1⟩ := allDK_map h
        subst hds
        split at h1
        · rename_i hfit
          refine ⟨ds, h1, fun v hv => ?_⟩
          cases hv with
          | agg _ vs h1 h2 h3 =>
            have hr : RdL w M ds vs := fun q d u hd hu => den_data (h2 q (.d d) u (by simp [hd]) hu)
            obtain ⟨f1, f2⟩ := fitDs_fits hfit (by simpa using h1) hr
            exact ⟨vs, rfl, f1, by simpa using h1, f2, hr⟩
        · exact h1.elim
      · exact h.elim
    · split at h
      · rename_i x
        split at h
        · rename_i hfit
          refine ⟨[x], h, fun v hv => ?_⟩
          have hr : RdL w M [x] [v] := fun q d u hd hu => by
            cases q with
            | zero => simp at hd hu; subst hd hu; exact den_data hv
            | succ q => simp at hd
          obtain ⟨f1, f2⟩ := fitDs_fits hfit rfl hr
          exact ⟨[v], rfl, f1, rfl, f2, hr⟩
        · exact h.elim
      · exact h.elim

theorem valOfK_spec {agg : Bool} {vs : List SV} {c : SV → Prop} (h : valOfK agg vs c) : ∃ s, c s ∧ ∀ (vc : List Value), vs.length = vc.length → (∀ (q : Nat) (s : SV) (u : Value), vs[q]? = some s → vc[q]? = some u → Den w M β s u) → (∀ u ∈ vc, u.oneCell' = true) → Den w M β s (mkVal agg vc) := by
  unfold valOfK at h
  split at h
  · exact ⟨_, h, fun vc h1 h2 h3 => .agg vs vc h1 h2 h3⟩
  · split at h
    · rename_i v
      refine ⟨_, h, fun vc h1 h2 h3 => ?_⟩
      match vc, h1 with
      | [u], _ => exact h2 0 v u rfl rfl
    · exact h.elim
theorem lookK_spec {c agg : Bool} {zero : List SV} {r : Option (List SV)} (h : lookK c agg zero r K) {vc : List Value} (hl : (r.getD zero).length = vc.length) (hd : ∀ (q : Nat) (s : SV) (u : Value), (r.getD zero)[q]? = some s → vc[q]? = some u → Den w M β s u) (h1 : ∀ u ∈ vc, u.oneCell' = true) :
    ∃ s, K s ∧ Den w M β s (if c then .tuple #[mkVal agg vc, .bool r.isSome] else mkVal agg vc) := by
  unfold lookK at h
  have pair : ∀ (s : SV) (b : Bool) (x : DV), Den w M β s (mkVal agg vc) → Rd w M x (.bool b) → Den w M β (.tup [s, .d x]) (.tuple #[mkVal agg vc, .bool b]) := fun s b x hs hx => by
    refine .tup _ [mkVal agg vc, .bool b] rfl (fun j s' u hs' hu => ?_)
    match j with
    | 0 => simp at hs' hu; subst hs' hu; exact hs
    | 1 => simp at hs' hu; subst hs' hu; exact .d hx
    | j + 2 => simp at hs'
  cases r with
  | some vs =>
    obtain ⟨s, h, hs⟩ := valOfK_spec (w := w) (M := M) (β := β) h
    have := hs vc hl hd h1
    cases c with
    | true => exact ⟨_, h, pair s true .tt this .tt⟩
    | false => exact ⟨_, h, this⟩
  | none =>
    obtain ⟨s, h, hs⟩ := valOfK_spec (w := w) (M := M) (β := β) h
    have := hs vc hl hd h1
    cases c with
    | true => exact ⟨_, h, pair s false .ff this .ff⟩
    | false => exact ⟨_, h, this⟩

theorem pev_lookup (hTT : TTok P TT) (hT : ∀ x, Den w M β (val ts x) (a.eval x)) (hB : ∀ (i : Nat) (L : Loc) (k : KB), ks[i]? = some k → k ≠ .gone → β i = some L → ∃ fp, KBat w M β L fp k) {t : TypeId} {x y : Operand} {c : Bool} (ho : o.op = .lookup t x y c) (h : pev P TT ts ks (.lookup t x y c) K) : Ran P o a w M β K := by
  unfold Ran
  simp only [execOp, ho]
  simp only [pev, valK_eq] at h
  split at h
  · rename_i _ _ _ _ kt et _ ht
    obtain ⟨info0, d0, z0, hi0, hu0, _, _, _, _, _, _, _, _, hd0⟩ := find_TT hTT ht
    cases hd0
    split at h
    · rename_i _ _ ka _ kd eqk hkt
      split at h
      · rename_i esize _ ea zero _ _ het
        obtain ⟨hne, ds, h, hkey⟩ := keyK_spec (w := w) (M := M) (β := β) h
        obtain ⟨kc, ekc, hkl, hdl, hkf, hkr⟩ := hkey _ (hT y)
        have hK := keyTy_of hTT hkt hne
        obtain ⟨info, de, z, hi, hue, hsz, _, hz, hag, hzl, hzs, hzd, hz1, _⟩ := find_TT hTT het
        simp only at hsz hzl hzs hzd hag
        have hv := hT x
        generalize a.eval x = av at hv ⊢
        generalize a.eval y = kv at ekc ⊢
        subst ekc
        have hzz := run_zeroValue (P := P) (w := w) hi hz
        have hzm : z = mkVal ea z.cells.toList := (hTT _ _ het).zag info z hi hz
        split at h
        · rename_i b hx
          rw [hx] at hv
          cases hv with
          | map _ L hL =>
          rw [getBK_eq] at h
          split at h
          · rename_i eks ka' ea' l hg
            split at h
            · rename_i q1 q2 q3
              have q1 := ekEq_eq q1
              have q2 := bEq_eq q2
              have q3 := bEq_eq q3
              subst q1 q2 q3
              obtain ⟨r, hr, h⟩ := h
              obtain ⟨fp', hk⟩ := blk_at hB hL (getB_some hg (by simp)) (by simp)
              cases hk with
              | map _ _ _ _ es clock hfp hb hl hent =>
                have hfind := findKey_run (P := P) (w := w) (M := M) (β := β) hK hkl hdl hkf hkr l es.toList (by simpa using hl) (fun j p e hp he => hent j p e hp (by simpa using he))
                have hchk := hK.chk w es.isEmpty kc hkl hkf
                rcases idxM_spec l ds 0 with ⟨b1, b2, _⟩ | ⟨j, p, b1, b2, b3, b4, _⟩
                · rw [b2] at hr; subst hr
                  obtain ⟨s, hs, hden⟩ := lookK_spec (w := w) (M := M) (β := β) h (vc := z.cells.toList) (by simpa using hzl.symm) (fun q s u hs hu => hzd w M β q s u hs (by simpa using hu)) (fun u hu => by
                    obtain ⟨q, hq, rfl⟩ := List.mem_iff_getElem.1 hu
                    exact hz1 q _ (by simp))
                  refine ⟨s, _, hs, ?_, hden⟩
                  rw [b1] at hfind
                  rw [← hzm]
                  simp only [Instr.lookup, Sem.run_bind, run_underlying hu0, Result.andThen_ok, run_getObjM hb, Sem.run_pure, hchk, hfind, Option.bind_none, hzz, Option.isSome_none]
                · rw [b4] at hr; subst hr
                  have hlt : j < es.size := by rw [← hl]; exact (List.getElem?_eq_some_iff.1 b2).1
                  obtain ⟨kc', vc, a1, a2, a3, a4, a5, a6, a7, a8, a9, a10, a11⟩ := (hent j p es[j] b2 (Array.getElem?_eq_getElem hlt)).ex
                  obtain ⟨s, hs, hden⟩ := lookK_spec (w := w) (M := M) (β := β) h (vc := vc) a4 a10 a11
                  refine ⟨s, _, hs, ?_, hden⟩
                  rw [b1] at hfind
                  have hej : es.toList[0 + j]? = some es[j] := by simp
                  rw [← a2]
                  simp only [Option.bind_some, hej, Option.map_some] at hfind
                  simp only [Instr.lookup, Sem.run_bind, run_underlying hu0, Result.andThen_ok, run_getObjM hb, Sem.run_pure, hchk, hfind, Option.isSome_some]
            · exact h.elim
          · exact h.elim
        · rename_i hx
          rw [hx] at hv
          cases hv
          obtain ⟨s, hs, hden⟩ := lookK_spec (w := w) (M := M) (β := β) h (vc := z.cells.toList) (by simpa using hzl.symm) (fun q s u hs hu => hzd w M β q s u hs (by simpa using hu)) (fun u hu => by
            obtain ⟨q, hq, rfl⟩ := List.mem_iff_getElem.1 hu
            exact hz1 q _ (by simp))
          refine ⟨s, _, hs, ?_, hden⟩
          have hchk := hK.chk w true kc hkl hkf
          have hfind := findKey_run (P := P) (w := w) (M := M) (β := β) (ea := ea) hK hkl hdl hkf hkr [] [] rfl (fun j p e hp => by simp at hp)
          rw [← hzm]
          simp only [idxM, Option.bind_none] at hfind
          simp only [Instr.lookup, Sem.run_bind, run_underlying hu0, Result.andThen_ok, Sem.run_pure, Array.isEmpty_empty, hchk, hfind, hzz, Option.isSome_none, List.toList_toArray]
        · exact h.elim
      · exact h.elim
    · exact h.elim
  · exact h.elim

end
end Go.Eng
