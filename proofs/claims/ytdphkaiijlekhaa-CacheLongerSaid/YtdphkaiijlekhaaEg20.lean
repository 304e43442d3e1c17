/-
  The engine, part 20: the way through a region's operations; weaker states under other numbers; a loop by an index.
-/
import Derived.OrdersIn
import Derived.Test.YtdphkaiijlekhaaEg19
namespace Go.Eng
open Go Go.RowKit

def putT (d : Option Tmp) (s : SV) (ts : List SV) : List SV :=
  match d with
  | none => ts
  | some t => setT ts t s
theorem putDst_eq (d : Option Tmp) (s : SV) (ts : List SV) (K : List SV → Prop) : putDst d s ts K = K (putT d s ts) := by
  cases d <;> simp [putDst, putT, setK_eq]

def guardOk (all : List Oper) (ts : List SV) (o : Oper) : Option Bool :=
  match o.guard with
  | none => some true
  | some (j, want) => match dstAt all j with
    | none => none
    | some t => match getT ts t with
      | .d .tt => some want
      | .d .ff => some (!want)
      | .v (.tuple _) => some false
      | _ => none

/-- The call of a function's value. -/
def isCall : Op → Bool
  | .call ⟨.value _, _, _⟩ => true
  | _ => false

/-- What one operation comes to: its value and what is known after it. h: no other operation may be moved past it. -/
inductive Evs (P : Program) (TT : Nat → Option TI) (ts : List SV) (ks : List KB) (op : Op) : Bool → SV → List KB → Prop where
  | pure (s : SV) : isCall op = false → (isMem op || isBytes TT op) = false → pev P TT ts ks op (fun x => x = s) → Evs P TT ts ks op false s ks
  | mem (s : SV) (k1 : List KB) : isCall op = false → (isMem op || isBytes TT op) = true → mev TT ts ks op (fun x k => (x, k) = (s, k1)) → Evs P TT ts ks op (hardOf op) s k1
  | call (g : Operand) (args : Array Operand) (tys : Array TypeId) (h : Bool) (s : SV) (k1 : List KB) : op = .call ⟨.value g, args, tys⟩ → cev P TT ts ks g args.toList tys.toList (fun h' x k => (h', x, k) = (h, s, k1)) → Evs P TT ts ks op h s k1

inductive Stp (P : Program) (TT : Nat → Option TI) (all : List Oper) (ts : List SV) (ks : List KB) (o : Oper) : Bool → SV → List KB → Prop where
  | ev {h : Bool} {s : SV} {k1 : List KB} : guardOk all ts o = some true → Evs P TT ts ks o.op h s k1 → Stp P TT all ts ks o h s k1
  | skip : guardOk all ts o = some false → Stp P TT all ts ks o false skipV ks

/-- The way through a region's operations, in the order of the text. -/
inductive Tr (P : Program) (TT : Nat → Option TI) (all : List Oper) : List Oper → List SV → List KB → List SV → List KB → List Bool → Prop where
  | nil (ts : List SV) (ks : List KB) : Tr P TT all [] ts ks ts ks []
  | step {o : Oper} {os : List Oper} {ts ts' : List SV} {ks ks' : List KB} {h : Bool} {hs : List Bool} {s : SV} {k1 : List KB} : Stp P TT all ts ks o h s k1 → Tr P TT all os (putT o.dst s ts) k1 ts' ks' hs → Tr P TT all (o :: os) ts ks ts' ks' (h :: hs)
  | refine_ {o : Oper} {os : List Oper} {ts ts' : List SV} {ks ks' : List KB} {hs : List Bool} (t : Nat) (b : Bool) : getT ts t = .d (.bool b) → Tr P TT all (o :: os) (setT ts t (.d (if b then .tt else .ff))) ks ts' ks' hs → Tr P TT all (o :: os) ts ks ts' ks' hs

theorem exec_ev {P : Program} {TT : Nat → Option TI} {o : Oper} {ts : List SV} {ks : List KB} {K : Bool → List SV → List KB → Prop} (h : exec P TT o ts ks K) : ∃ hd s k1, Evs P TT ts ks o.op hd s k1 ∧ K hd (putT o.dst s ts) k1 := by
  have noncall : isCall o.op = false → (match isMem o.op || isBytes TT o.op with
    | true => mev TT ts ks o.op (fun v ks' => putDst o.dst v ts (fun ts' => K (hardOf o.op) ts' ks'))
    | false => pev P TT ts ks o.op (fun v => putDst o.dst v ts (fun ts' => K false ts' ks))) → ∃ hd s k1, Evs P TT ts ks o.op hd s k1 ∧ K hd (putT o.dst s ts) k1 := fun hc h => by
    split at h
    · rename_i hm
      obtain ⟨⟨s, k1⟩, hev, hk⟩ := mev_ex TT ts ks o.op (fun p => putDst o.dst p.1 ts (fun ts' => K (hardOf o.op) ts' p.2)) h
      rw [putDst_eq] at hk
      exact ⟨_, s, k1, .mem s k1 hc hm hev, hk⟩
    · rename_i hm
      obtain ⟨s, hev, hk⟩ := pev_ex P TT ts ks o.op _ h
      rw [putDst_eq] at hk
      exact ⟨_, s, ks, .pure s hc hm hev, hk⟩
  unfold exec at h
  split at h
  · rename_i g args tys ho
    obtain ⟨⟨hd, s, k1⟩, hev, hk⟩ := cev_ex P TT ts ks g args.toList tys.toList (fun p => putDst o.dst p.2.1 ts (fun ts' => K p.1 ts' p.2.2)) h
    rw [putDst_eq] at hk
    exact ⟨hd, s, k1, .call g args tys hd s k1 ho hev, hk⟩
  · rename_i hno
    refine noncall ?_ h
    unfold isCall
    split
    · rename_i g args tys he
      exact absurd he (hno g args tys)
    · rfl

section
variable {P : Program} {TT : Nat → Option TI} {IN : Nat → Option Inl} {K : Exit → List SV → List KB → Prop} {all : List Oper} {r : List It} {nb : Nb}

theorem run_succ (n : Nat) : run P TT IN (n + 1) = stepF P TT IN (run P TT IN n) := rfl

theorem exec_tr {o : Oper} {os : List Oper} {ts : List SV} {ks : List KB} {n : Nat} {hs : List Bool} (hg : guardOk all ts o = some true) (h : exec P TT o ts ks (fun h ts' ks' => run P TT IN n nb (.ops true (h :: hs) all os :: r) ts' ks' K))
    (ih : ∀ ts ks hs, run P TT IN n nb (.ops true hs all os :: r) ts ks K → ∃ n' ts' ks' hs', n' ≤ n ∧ Tr P TT all os ts ks ts' ks' hs' ∧ drawOk all (revB (revB hs' hs) []) = true ∧ run P TT IN n' nb r ts' ks' K) :
    ∃ n' ts' ks' hs', n' ≤ n + 1 ∧ Tr P TT all (o :: os) ts ks ts' ks' hs' ∧ drawOk all (revB (revB hs' hs) []) = true ∧ run P TT IN n' nb r ts' ks' K := by
  obtain ⟨hd, s, k1, hev, hk⟩ := exec_ev h
  obtain ⟨n', ts', ks', hs', hn, htr, hdr, hrun⟩ := ih _ _ _ hk
  exact ⟨n', ts', ks', _, by omega, .step (.ev hg hev) htr, hdr, hrun⟩

theorem run_ops : ∀ (n : Nat) (os : List Oper) (ts : List SV) (ks : List KB) (hs : List Bool), run P TT IN n nb (.ops true hs all os :: r) ts ks K → ∃ n' ts' ks' hs', n' ≤ n ∧ Tr P TT all os ts ks ts' ks' hs' ∧ drawOk all (revB (revB hs' hs) []) = true ∧ run P TT IN n' nb r ts' ks' K := by
  intro n
  induction n with
  | zero => intro os ts ks hs h; exact h.elim
  | succ n ih =>
    intro os ts ks hs h
    rw [run_succ] at h
    simp only [stepF] at h
    cases os with
    | nil =>
      simp only at h
      split at h
      · rename_i hd
        exact ⟨n, ts, ks, [], by omega, .nil ts ks, hd, h⟩
      · exact h.elim
    | cons o os =>
      simp only at h
      split at h
      · rename_i hg
        exact exec_tr (by simp [guardOk, hg]) h (ih os)
      · rename_i j want hg
        split at h
        · exact h.elim
        · rename_i t hd
          rw [getTK_eq] at h
          split at h
          · rename_i hv
            split at h
            · exact exec_tr (by simp [guardOk, hg, hd, hv]) h (ih os)
            · rw [putDst_eq] at h
              obtain ⟨n', ts', ks', hs', hn, htr, hdr, hrun⟩ := ih _ _ _ _ h
              exact ⟨n', ts', ks', _, by omega, .step (.skip (by simp [guardOk, hg, hd, hv])) htr, hdr, hrun⟩
          · rename_i hv
            split at h
            · exact exec_tr (by simp [guardOk, hg, hd, hv]) h (ih os)
            · rw [putDst_eq] at h
              obtain ⟨n', ts', ks', hs', hn, htr, hdr, hrun⟩ := ih _ _ _ _ h
              exact ⟨n', ts', ks', _, by omega, .step (.skip (by simp [guardOk, hg, hd, hv])) htr, hdr, hrun⟩
          · rename_i hv
            rw [putDst_eq] at h
            obtain ⟨n', ts', ks', hs', hn, htr, hdr, hrun⟩ := ih _ _ _ _ h
            exact ⟨n', ts', ks', _, by omega, .step (.skip (by simp [guardOk, hg, hd, hv])) htr, hdr, hrun⟩
          · rename_i b hv
            obtain ⟨h1, h2⟩ := h
            cases b with
            | true =>
              have h1 := h1 rfl
              rw [setK_eq] at h1
              obtain ⟨n', ts', ks', hs', hn, htr, hdr, hrun⟩ := ih _ _ _ _ h1
              exact ⟨n', ts', ks', hs', by omega, .refine_ t true hv htr, hdr, hrun⟩
            | false =>
              have h2 := h2 rfl
              rw [setK_eq] at h2
              obtain ⟨n', ts', ks', hs', hn, htr, hdr, hrun⟩ := ih _ _ _ _ h2
              exact ⟨n', ts', ks', hs', by omega, .refine_ t false hv htr, hdr, hrun⟩
          · exact h.elim
end

theorem revB_eq (l m : List Bool) : revB l m = l.reverse ++ m := by
  induction l generalizing m with
  | nil => rfl
  | cons a l ih => simp [revB, ih]

theorem dstAt_eq (all : List Oper) (j : Nat) : dstAt all j = (all[j]?).bind (·.dst) := by
  induction all generalizing j with
  | nil => rfl
  | cons o l ih => cases j with
    | zero => rfl
    | succ j => simp [dstAt, ih]

section
variable {P : Program} {TT : Nat → Option TI} {B : Bs} {w : World} {β : Env} {fp : Nat → Nat → Prop} {ts : List SV} {ks : List KB} {a : Act} {rd : Option Nat} {n : Nat} {Q : Exit → Act → World → Prop}

theorem Sat.val (h : Sat B w β fp ts ks a) (x : Operand) : Den w (Mx B.X fp) β (val ts x) (a.eval x) := by
  cases x with
  | tmp t =>
    simp only [Go.Eng.val, Act.eval, getT_eq]
    cases hs : ts[t]? with
    | none => exact .any _
    | some s =>
      have hlt : t < a.tmps.size := by rw [h.len]; exact (List.getElem?_eq_some_iff.1 hs).1
      simp only [Option.getD_some]
      have := h.tm t s _ hs (Array.getElem?_eq_getElem hlt)
      simpa [Array.getD, hlt] using this
  | const v =>
    simp only [Go.Eng.val, Act.eval]
    unfold ofConst
    split
    · exact .d (.int _ _)
    · exact .d .tt
    · exact .d .ff
    · rename_i s
      have : (Value.string s) = strV s.data.toList := by
        show Value.string s = .string ⟨s.data.toList.toArray⟩
        simp
      rw [this]
      exact .d (.str _)
    · exact .d (.nil 0 _)
    · exact .v _
  | func f => exact .fn f [] [] rfl (fun j s u hs => by simp at hs)
  | global g => exact .any _

theorem Sat.put (h : Sat B w β fp ts ks a) (d : Option Tmp) {s : SV} {v : Value} (hd : Den w (Mx B.X fp) β s v) : Sat B w β fp (putT d s ts) ks (a.put d v) := by
  cases d with
  | none => exact h
  | some d =>
    refine ⟨h.went, h.df, ?_, fun t s' v' hs hv => ?_⟩
    · simp only [putT, setT_eq, List.length_set]
      simpa [Act.put] using h.len
    · simp only [putT] at hs
      rw [setT_eq, List.getElem?_set] at hs
      have hv : (a.tmps.setIfInBounds d v)[t]? = some v' := hv
      rw [Array.getElem?_setIfInBounds] at hv
      split at hs
      · rename_i e
        subst e
        rw [if_pos rfl] at hv
        split at hs
        · split at hv
          · cases hs; cases hv; exact hd
          · cases hv
        · cases hs
      · rename_i e
        rw [if_neg e] at hv
        exact h.tm t s' v' hs hv

/-- A slot whose bool is known. -/
theorem Sat.refine_ (h : Sat B w β fp ts ks a) (t : Nat) {b : Bool} (ht : getT ts t = .d (.bool b)) : Sat B w β fp (setT ts t (.d (if b then .tt else .ff))) ks a := by
  refine ⟨h.went, h.df, by rw [setT_eq]; simpa using h.len, fun u s' v' hs hv => ?_⟩
  rw [setT_eq, List.getElem?_set] at hs
  split at hs
  · rename_i e
    subst e
    split at hs
    · rename_i hlt
      rw [getT_eq, List.getElem?_eq_getElem hlt] at ht
      have hd := h.tm t _ v' (List.getElem?_eq_getElem hlt) hv
      simp only [Option.getD_some] at ht
      rw [ht] at hd
      cases hs
      cases hd with
      | d hd =>
        cases hd
        cases b
        · exact .d .ff
        · exact .d .tt
    · cases hs
  · exact h.tm u s' v' hs hv

theorem wanted_of (hS : ∀ (t : Nat) (s : SV), getT ts t = s → s ≠ .any → Den w (Mx B.X fp) β s (a.tmps.getD t undef)) {all : List Oper} {o : Oper} {b : Bool} (h : guardOk all ts o = some b) : Region.wanted o (yielded all.toArray a.tmps) = b := by
  unfold guardOk at h
  unfold Region.wanted
  split at h
  · rename_i hg; simp [hg]; simpa using h
  · rename_i j want hg
    split at h
    · cases h
    · rename_i t hd
      rw [dstAt_eq] at hd
      split at h
      · rename_i hv
        have := hS t _ hv (by simp)
        have hv' : a.tmps.getD t undef = .bool true := by
          generalize a.tmps.getD t undef = x at this
          cases this with | d h => cases h; rfl
        have hv2 : a.tmps[t]? = some (.bool true) := by
          cases hq : a.tmps[t]? with
          | none => simp [hq, undef] at hv'
          | some x => simpa [hq] using hv'
        simp [hg, yielded, hd, hv2]
        cases want <;> simp at h <;> subst h <;> rfl
      · rename_i hv
        have := hS t _ hv (by simp)
        have hv' : a.tmps.getD t undef = .bool false := by
          generalize a.tmps.getD t undef = x at this
          cases this with | d h => cases h; rfl
        have hv2 : a.tmps[t]? = some (.bool false) := by
          cases hq : a.tmps[t]? with
          | none => simp [hq, undef] at hv'
          | some x => simpa [hq] using hv'
        simp [hg, yielded, hd, hv2]
        cases want <;> simp at h <;> subst h <;> rfl
      · rename_i z hv
        have := hS t _ hv (by simp)
        have hv' : a.tmps.getD t undef = .tuple z := by
          generalize a.tmps.getD t undef = x at this
          cases this; rfl
        obtain rfl := Option.some.inj h
        cases hq : a.tmps[t]? with
        | none => simp [hg, yielded, hd, hq]
        | some x =>
          have hx : x = .tuple z := by simpa [hq] using hv'
          simp [hg, yielded, hd, hq, hx]
      · cases h

theorem Sat.slot (hS : Sat B w β fp ts ks a) : ∀ (t : Nat) (s : SV), getT ts t = s → s ≠ .any → Den w (Mx B.X fp) β s (a.tmps.getD t undef) := by
  intro t s hs _
  have := hS.val (.tmp t)
  simp only [Go.Eng.val, Act.eval, hs] at this
  exact this
theorem put_defers (a : Act) (d : Option Tmp) (v : Value) : (a.put d v).defers = a.defers := by cases d <;> rfl

theorem nodefer_pev {ts : List SV} {ks : List KB} {op : Op} {K : SV → Prop} (h : pev P TT ts ks op K) : ∀ c, op ≠ .defer c := fun c hc => by rw [hc] at h; exact h

/-- One operation carried out. -/
theorem evs_sound (hTT : TTok P TT) {o : Oper} {h : Bool} {s : SV} {k1 : List KB} {X : Nat → Prop} (hst : Evs P TT ts ks o.op h s k1) (hM : Mem X w β fp ks) (hT : ∀ x, Den w (Mx X fp) β (val ts x) (a.eval x)) {next : Act → World → Prop}
    (hn : ∀ v w' β' fp', Went X w β fp w' β' fp' k1 → Den w' (Mx X fp') β' s v → next (a.put o.dst v) w') : o.wpIn (wideF rd) n P a w next Q := by
  cases hst with
  | pure _ hc hm hev =>
    obtain ⟨s', v, hK, hr, hd⟩ := pev_sound hTT hev hT hM.kb' hM.apart
    subst hK
    exact wpIn_of_run (nodefer_pev hev) hr (hn v w β fp (Went.refl hM) hd)
  | mem _ _ hc hm hev =>
    refine mev_sound hTT hev hM hT (fun s' k' v w' β' fp' hs' hW hden => ?_)
    obtain ⟨rfl, rfl⟩ := Prod.mk.inj hs'
    exact hn v w' β' fp' hW hden
  | call g args tys _ _ _ ho hev =>
    refine cev_sound hTT ho hev hM hT (fun h' s' k' v w' β' fp' hs' hW hden => ?_)
    obtain ⟨rfl, he⟩ := Prod.mk.inj hs'
    obtain ⟨rfl, rfl⟩ := Prod.mk.inj he
    exact hn v w' β' fp' hW hden

/-! ### Other numbers -/

theorem posN_spec {i : Nat} {ρ : List Nat} : ∀ {p q : Nat}, posN i ρ p = some q → ∃ k, q = p + k ∧ ρ[k]? = some i := by
  induction ρ with
  | nil => intro p q h; cases h
  | cons a l ih =>
    intro p q h
    simp only [posN] at h
    split at h
    · rename_i hb
      cases h
      exact ⟨0, rfl, by rw [beq_of hb]; rfl⟩
    · obtain ⟨k, rfl, hk⟩ := ih h
      exact ⟨k + 1, by omega, by simpa using hk⟩
/-- Where the blocks lie, under their new numbers. -/
def renE (ρ : List Nat) (β : Env) : Env := fun k => (ρ[k]?).bind β
def renF (ρ : List Nat) (fp : Nat → Nat → Prop) : Nat → Nat → Prop := fun k b => ∃ i, ρ[k]? = some i ∧ fp i b
theorem renE_at {ρ : List Nat} {β : Env} {i p : Nat} {L : Loc} (h : posN i ρ 0 = some p) (hL : β i = some L) : renE ρ β p = some L := by
  obtain ⟨k, rfl, hk⟩ := posN_spec h
  rw [Nat.zero_add]
  simp [renE, hk, hL]

theorem renL_get (ρ : List Nat) (l : List SV) (j : Nat) : (renL ρ l)[j]? = (l[j]?).map (renV ρ) := by
  induction l generalizing j with
  | nil => simp [renL]
  | cons a l ih => cases j <;> simp [renL, ih]
theorem renL_length (ρ : List Nat) (l : List SV) : (renL ρ l).length = l.length := by
  induction l with
  | nil => rfl
  | cons a l ih => simp [renL, ih]
theorem renM_get (ρ : List Nat) (l : List (List DV × List SV)) (j : Nat) : (renM ρ l)[j]? = (l[j]?).map (fun p => (p.1, renL ρ p.2)) := by
  induction l generalizing j with
  | nil => simp [renM]
  | cons a l ih => obtain ⟨k, v⟩ := a; cases j <;> simp [renM, ih]
theorem renM_length (ρ : List Nat) (l : List (List DV × List SV)) : (renM ρ l).length = l.length := by
  induction l with
  | nil => rfl
  | cons a l ih => obtain ⟨k, v⟩ := a; simp [renM, ih]

theorem renCs_get (ρ : List Nat) (l : List Col) (j : Nat) : (renCs ρ l)[j]? = (l[j]?).map (renC ρ) := by
  induction l generalizing j with
  | nil => simp [renCs]
  | cons a l ih => cases j <;> simp [renCs, ih]
theorem renCs_length (ρ : List Nat) (l : List Col) : (renCs ρ l).length = l.length := by
  induction l with
  | nil => rfl
  | cons a l ih => simp [renCs, ih]
theorem Den.ren {M : Nat → Prop} (ρ : List Nat) {s : SV} {v : Value} (h : Den w M β s v) : Den w M (renE ρ β) (renV ρ s) v := by
  induction h with
  | d h => exact .d h
  | ptr i off L h =>
    simp only [renV]
    split
    · exact .ptr _ _ L (renE_at (by assumption) h)
    · exact .any _
  | aptr i off len ix L h1 h2 h3 =>
    simp only [renV]
    split
    · exact .aptr _ _ _ _ L h1 h2 (renE_at (by assumption) h3)
    · exact .any _
  | dptr cells off ad u h1 h2 h3 h4 => exact .dptr cells off ad u h1 h2 h3 h4
  | allNil i L h h1 =>
    simp only [renV]
    split
    · exact .allNil _ L (renE_at (by assumption) h) h1
    · exact .any _
  | all i L h h1 =>
    simp only [renV]
    split
    · exact .all _ L (renE_at (by assumption) h) h1
    · exact .any _
  | rowNil i L h h1 =>
    simp only [renV]
    split
    · exact .rowNil _ L (renE_at (by assumption) h) h1
    · exact .any _
  | row i lo n off L h h1 h2 h3 =>
    simp only [renV]
    split
    · exact .row _ lo n off L (renE_at (by assumption) h) h1 h2 h3
    · exact .any _
  | cs i off n c L h h1 =>
    simp only [renV]
    split
    · exact .cs _ off n c L (renE_at (by assumption) h) h1
    · exact .any _
  | rptr i j off sz L h h1 =>
    simp only [renV]
    split
    · exact .rptr _ j off sz L (renE_at (by assumption) h) h1
    · exact .any _
  | agg l vs h1 _ h3 ih =>
    refine .agg _ vs (by rw [renL_length]; exact h1) (fun j s u a b => ?_) h3
    rw [renL_get] at a
    cases hl : l[j]? with
    | none => rw [hl] at a; cases a
    | some s0 => rw [hl] at a; cases a; exact ih j s0 u hl b
  | tup l vs h1 _ ih =>
    refine .tup _ vs (by rw [renL_length]; exact h1) (fun j s u a b => ?_)
    rw [renL_get] at a
    cases hl : l[j]? with
    | none => rw [hl] at a; cases a
    | some s0 => rw [hl] at a; cases a; exact ih j s0 u hl b
  | fn f l vs h1 _ ih =>
    refine .fn f _ vs (by rw [renL_length]; exact h1) (fun j s u a b => ?_)
    rw [renL_get] at a
    cases hl : l[j]? with
    | none => rw [hl] at a; cases a
    | some s0 => rw [hl] at a; cases a; exact ih j s0 u hl b
  | map i L h =>
    simp only [renV]
    split
    · exact .map _ L (renE_at (by assumption) h)
    · exact .any _
  | ap i n off L h =>
    simp only [renV]
    split
    · exact .ap _ n off L (renE_at (by assumption) h)
    · exact .any _
  | npNil i =>
    simp only [renV]
    split
    · exact .npNil _
    · exact .any _
  | np i n L h =>
    simp only [renV]
    split
    · exact .np _ n L (renE_at (by assumption) h)
    · exact .any _
  | yl i L h =>
    simp only [renV]
    split
    · exact .yl _ L (renE_at (by assumption) h)
    · exact .any _
  | v x => exact .v x
  | any x => exact .any x

theorem KBat.ren {M : Nat → Prop} (ρ : List Nat) {L : Loc} {f : Nat → Prop} {k : KB} (h : KBat w M β L f k) : KBat w M (renE ρ β) L f (renK ρ k) := by
  cases h with
  | cells t l vs h0 h1 h3 h4 h5 =>
    refine .cells t _ vs h0 h1 (by rw [renL_length]; exact h3) (fun j s u a b => ?_) h5
    rw [renL_get] at a
    cases hl : l[j]? with
    | none => rw [hl] at a; cases a
    | some s0 => rw [hl] at a; cases a; exact (h4 j s0 u hl b).ren ρ
  | rowNil e sz z f h0 h1 h2 h3 h4 => exact .rowNil e sz z f h0 h1 h2 h3 h4
  | row e sz n z f vs fz h0 h1 h2 hn h3 h4 h5 h6 h7 h8 h9 h10 => exact .row e sz n z f vs fz h0 h1 h2 hn h3 h4 h5 h6 h7 h8 h9 h10
  | map eks ka ea l es clock h0 h1 h2 h3 =>
    refine .map eks ka ea _ es clock h0 h1 (by rw [renM_length]; exact h2) (fun j p e hp he => ?_)
    rw [renM_get] at hp
    cases hl : l[j]? with
    | none => rw [hl] at hp; cases hp
    | some p0 =>
      rw [hl] at hp
      cases hp
      obtain ⟨kc, vc, a1, a2, a3, a4, a5, a6, a7, a8, a9, a10, a11⟩ := (h3 j p0 e hl he).ex
      refine ⟨kc, vc, a1, a2, a3, by simp [renL_length, a4], a5, a6, a7, a8, a9, fun q s u hs hu => ?_, a11⟩
      simp only [renL_get] at hs
      cases hq : p0.2[q]? with
      | none => rw [hq] at hs; cases hs
      | some s0 => rw [hq] at hs; cases hs; exact (a10 q s0 u hq hu).ren ρ
  | arena t dom cols h0 h1 h2 =>
    refine .arena t dom _ h0 h1 (fun x hx => ?_)
    obtain ⟨vs, a1, a2, a3, a4⟩ := h2 x hx
    refine ⟨vs, a1, by rw [renCs_length]; exact a2, fun j c u hc hu => ?_, a4⟩
    rw [renCs_get] at hc
    cases hl : cols[j]? with
    | none => rw [hl] at hc; cases hc
    | some c0 =>
      rw [hl] at hc
      cases hc
      have := (a3 j c0 u hl hu).ren ρ
      cases c0 with
      | np i f =>
        simp only [Col.at, renV] at this
        cases hp : posN i ρ 0 with
        | none => rw [hp] at this; simp only [renC, hp, Col.at]; exact this
        | some p => rw [hp] at this; simp only [renC, hp, Col.at]; exact this
      | _ => exact this
  | obj φ h1 h2 => exact .obj φ h1 h2
  | loop l ps asg body st r h0 h1 h2 h3 h4 h5 h6 h7 =>
    refine .loop _ ps asg body st r h0 h1 (by rw [renL_length]; exact h2) (fun j s u a b => ?_) h4 h5 h6 h7
    rw [renL_get] at a
    cases hl : l[j]? with
    | none => rw [hl] at a; cases a
    | some s0 => rw [hl] at a; cases a; exact (h3 j s0 u hl b).ren ρ

theorem okN_spec {m : Nat} {ρ : List Nat} (h : okN m ρ = true) : (∀ (k i : Nat), ρ[k]? = some i → i < m) ∧ ∀ (j k i : Nat), ρ[j]? = some i → ρ[k]? = some i → j = k := by
  induction ρ with
  | nil => exact ⟨fun k i h => by simp at h, fun j k i h => by simp at h⟩
  | cons a l ih =>
    simp only [okN] at h
    split at h
    · rename_i hm hb
      obtain ⟨h1, h2⟩ := ih h
      have hnot := notMem hm
      refine ⟨fun k i hk => ?_, fun j k i hj hk => ?_⟩
      · cases k with
        | zero => simp at hk; subst hk; exact ble_of hb
        | succ k => exact h1 k i (by simpa using hk)
      · cases j <;> cases k
        · rfl
        · simp at hj hk; subst hj; exact absurd (List.mem_of_getElem? hk) hnot
        · simp at hj hk; subst hk; exact absurd (List.mem_of_getElem? hj) hnot
        · rename_i j k
          have := h2 j k i (by simpa using hj) (by simpa using hk)
          omega
    · cases h
theorem keeps_spec {n i : Nat} {ρ : List Nat} (h : keeps n i ρ = true) : ∀ k, k < n → ρ[k]? = some (i + k) := by
  induction n generalizing i ρ with
  | zero => intro k hk; omega
  | succ n ih =>
    cases ρ with
    | nil => simp [keeps] at h
    | cons a l =>
      simp only [keeps] at h
      split at h
      · rename_i hb
        intro k hk
        cases k with
        | zero => simp [beq_of hb]
        | succ k => have := ih h k (by omega); simp [this]; omega
      · cases h
theorem renB_get (ρ : List Nat) (ks : List KB) (l : List Nat) (j : Nat) : (renB ρ ks l)[j]? = (l[j]?).map (fun o => renK ρ (getB ks o)) := by
  induction l generalizing j with
  | nil => simp [renB]
  | cons a l ih => cases j <;> simp [renB, ih]
theorem renB_length (ρ : List Nat) (ks : List KB) (l : List Nat) : (renB ρ ks l).length = l.length := by
  induction l with
  | nil => rfl
  | cons a l ih => simp [renB, ih]

/-- The known blocks under other numbers; the others are forgotten. -/
theorem Went.ren {X : Nat → Prop} {w0 : World} {β0 : Env} {fp0 : Nat → Nat → Prop} {nb : Nat} (h : Went X w0 β0 fp0 w β fp ks) (hnb : ∀ i, nb ≤ i → β0 i = none) (ρ : List Nat) (h1 : okN ks.length ρ = true) (h2 : keeps nb 0 ρ = true) :
    Went X w0 β0 fp0 w (renE ρ β) (renF ρ fp) (renB ρ ks ρ) := by
  obtain ⟨o1, o2⟩ := okN_spec h1
  have hk := keeps_spec h2
  have hM : ∀ b, Mx X (renF ρ fp) b → Mx X fp b := fun b hm => hm.imp id (fun ⟨k, i, _, hb⟩ => ⟨i, hb⟩)
  refine ⟨⟨⟨h.mem.xa, fun k b ⟨i, _, hb⟩ => h.mem.xb i b hb, fun j k b ⟨i, hi, hb⟩ ⟨i', hi', hb'⟩ => ?_, fun k b ⟨i, _, hb⟩ => h.mem.kw i b hb, fun k b ⟨i, hi, hb⟩ => ?_, fun k L kb hkb hne hL => ?_⟩, fun k hk' => ?_, fun k t dom cols hkb => ?_⟩, h.st, fun i L hL => ?_, fun k b ⟨i, _, hb⟩ => h.own i b hb⟩
  · have := h.mem.dis i i' b hb hb'
    subst this
    exact o2 j k i hi hi'
  · obtain ⟨L, hL⟩ := h.mem.kn i b hb
    exact ⟨L, by simp [renE, hi, hL]⟩
  · rw [renB_get] at hkb
    cases hi : ρ[k]? with
    | none => rw [hi] at hkb; cases hkb
    | some i =>
      rw [hi] at hkb
      simp only [Option.map_some] at hkb
      cases hkb
      have hL' : β i = some L := by simpa [renE, hi] using hL
      have hil := o1 k i hi
      have hgi : ks[i]? = some (getB ks i) := by rw [getB_eq, List.getElem?_eq_getElem hil]; rfl
      have hne' : getB ks i ≠ .gone := fun e => by rw [e] at hne; exact hne rfl
      have hb := (h.mem.kb i L _ hgi hne' hL').ren ρ
      have hfp : renF ρ fp k = fp i := by
        funext b
        simp only [renF, hi]
        simp
      rw [hfp]
      exact hb.mono (Step.refl _ _) (fun b _ e => hM b e) (Ext.refl _) (fun _ _ => rfl)
  · rw [renB_length] at hk'
    simp [renE, List.getElem?_eq_none hk']
  · rw [renB_get] at hkb
    cases hi : ρ[k]? with
    | none => rw [hi] at hkb; cases hkb
    | some i =>
      rw [hi] at hkb
      simp only [Option.map_some, Option.some.injEq] at hkb
      have hil := o1 k i hi
      have hgi : ks[i]? = some (getB ks i) := by rw [getB_eq, List.getElem?_eq_getElem hil]; rfl
      generalize getB ks i = kb at hkb hgi
      cases kb <;> simp [renK] at hkb
      obtain ⟨L, hL⟩ := h.mem.ka i _ _ _ hgi
      exact ⟨L, by simp [renE, hi, hL]⟩
  · have hi : i < nb := by
      rcases Nat.lt_or_ge i nb with e | e
      · exact e
      · rw [hnb i e] at hL; cases hL
    have hr := hk i hi
    rw [Nat.zero_add] at hr
    simp [renE, hr, h.ext i L hL]

theorem SubL_length {l m : List SV} (h : SubL l m) : l.length = m.length := by
  induction l generalizing m with
  | nil => cases m with
    | nil => rfl
    | cons => exact h.elim
  | cons a l ih => cases m with
    | nil => exact h.elim
    | cons b m => simp [ih h.2]
theorem SubL_get {l m : List SV} (h : SubL l m) (j : Nat) (s : SV) (hs : m[j]? = some s) : ∃ s0, l[j]? = some s0 ∧ SubV s0 s := by
  induction l generalizing m j with
  | nil => cases m with
    | nil => simp at hs
    | cons => exact h.elim
  | cons a l ih => cases m with
    | nil => exact h.elim
    | cons b m =>
      cases j with
      | zero => simp at hs; subst hs; exact ⟨a, rfl, h.1⟩
      | succ j => exact ih h.2 j (by simpa using hs)
theorem SubV_den {s0 s : SV} (h : SubV s0 s) {v : Value} {M : Nat → Prop} (hd : Den w M β s0 v) : Den w M β s v := by
  unfold SubV at h
  split at h
  · exact .any _
  · split at h
    · obtain ⟨rfl, rfl, rfl⟩ := h
      cases hd with
      | ap _ n _ L hL => exact .np _ n L hL
    · subst h
      cases hd
      exact .npNil _
    · exact h ▸ hd
  · exact h ▸ hd
theorem SubB_length {l m : List KB} (h : SubB l m) : l.length = m.length := by
  induction l generalizing m with
  | nil => cases m with
    | nil => rfl
    | cons => exact h.elim
  | cons a l ih => cases m with
    | nil => exact h.elim
    | cons b m => simp [ih h.2]
theorem SubB_get {l m : List KB} (h : SubB l m) (j : Nat) (k : KB) (hk : m[j]? = some k) : ∃ k0, l[j]? = some k0 ∧ SubK k0 k := by
  induction m generalizing l j with
  | nil => simp at hk
  | cons b m ih => cases l with
    | nil => exact h.elim
    | cons a l =>
      cases j with
      | zero => simp at hk; subst hk; exact ⟨a, rfl, h.1⟩
      | succ j => exact ih h.2 j (by simpa using hk)

theorem SubC_length {dom : Nat → Prop} {l m : List Col} (h : SubC dom l m) : l.length = m.length := by
  induction l generalizing m with
  | nil => cases m with
    | nil => rfl
    | cons => exact h.elim
  | cons a l ih => cases m with
    | nil => exact h.elim
    | cons b m => simp [ih h.2]
theorem SubC_get {dom : Nat → Prop} {l m : List Col} (h : SubC dom l m) (j : Nat) (c : Col) (hc : m[j]? = some c) : ∃ c0, l[j]? = some c0 ∧ ∀ n, dom n → c0.at n = c.at n := by
  induction m generalizing l j with
  | nil => simp at hc
  | cons b m ih => cases l with
    | nil => exact h.elim
    | cons a l =>
      cases j with
      | zero => simp at hc; subst hc; exact ⟨a, rfl, h.1⟩
      | succ j => exact ih h.2 j (by simpa using hc)
theorem SubK_at {M : Nat → Prop} {L : Loc} {f : Nat → Prop} {k0 k : KB} (h : SubK k0 k) (hne : k ≠ .gone) (hb : KBat w M β L f k0) : KBat w M β L f k := by
  unfold SubK at h
  split at h
  · exact absurd rfl hne
  · rename_i t l t' l'
    obtain ⟨rfl, hsl⟩ := h
    cases hb with
    | cells _ _ vs h0 h1 h3 h4 h5 =>
      refine .cells t l' vs h0 h1 (by rw [← SubL_length hsl]; exact h3) (fun j s u hs hu => ?_) h5
      obtain ⟨s0, hs0, hsv⟩ := SubL_get hsl j s hs
      exact SubV_den hsv (h4 j s0 u hs0 hu)
  · rename_i e sz n z f e' sz' n' z' f'
    obtain ⟨rfl, rfl, rfl, hz, hf⟩ := h
    cases hb with
    | rowNil _ _ _ _ h0 h1 h2 h3 h4 => exact .rowNil e sz z' f' h0 h1 h2 h3 (by cases z <;> cases z' <;> simp [SubZ] at hz h4 ⊢)
    | row _ _ _ _ _ vs fz h0 h1 h2 hn h3 h4 h5 h6 h7 h8 h9 h10 =>
      exact .row e sz n z' f' vs fz h0 h1 h2 hn (fun ez => h3 (by subst ez; cases z <;> simp [SubZ] at hz ⊢)) h4 h5 h6 h7 (fun k hk => hf k hk ▸ h8 k hk) (fun k j d u hk hd hu => h9 k j d u hk (by rw [hf k hk]; exact hd) hu) h10
  · obtain ⟨⟨rfl, rfl, rfl⟩, hl⟩ := h
    cases hl
    exact hb
  · rename_i t dom cols t' dom' cols'
    obtain ⟨rfl, hdom, hc⟩ := h
    cases hb with
    | arena _ _ _ h0 h1 h2 =>
      refine .arena t dom' cols' (fun x => (h0 x).trans (hdom _)) (fun e => h1 ((hdom _).2 e)) (fun x hx => ?_)
      obtain ⟨vs, a1, a2, a3, a4⟩ := h2 x ((hdom _).2 hx)
      refine ⟨vs, a1, by rw [a2, SubC_length hc], fun j c u hcj hu => ?_, a4⟩
      obtain ⟨c0, hc0, he⟩ := SubC_get hc j c hcj
      rw [← he _ ((hdom _).2 hx)]
      exact a3 j c0 u hc0 hu
  · rename_i φ φ'
    cases hb with
    | obj _ h1 h2 =>
      obtain ⟨a, b⟩ := h w M L f h2
      exact .obj φ' a b
  · rename_i l ps a b st l' ps' a' b' st'
    obtain ⟨hsl, rfl, rfl, rfl, rfl⟩ := h
    cases hb with
    | loop _ _ _ _ _ r h0 h1 h2 h3 h4 h5 h6 h7 =>
      refine .loop l' ps a b st r h0 h1 (by rw [← SubL_length hsl]; exact h2) (fun j s u hs hu => ?_) h4 h5 h6 h7
      obtain ⟨s0, hs0, hsv⟩ := SubL_get hsl j s hs
      exact SubV_den hsv (h3 j s0 u hs0 hu)
  · exact h.elim

theorem Went.less {X : Nat → Prop} {w0 : World} {β0 : Env} {fp0 : Nat → Nat → Prop} {ks' : List KB} (h : Went X w0 β0 fp0 w β fp ks) (hs : SubB ks ks') : Went X w0 β0 fp0 w β fp ks' := by
  refine ⟨⟨⟨h.mem.xa, h.mem.xb, h.mem.dis, h.mem.kw, h.mem.kn, fun i L k hk hne hL => ?_⟩, fun i hi => h.mem.kl i (by rw [SubB_length hs]; exact hi), fun i t dom cols hi => ?_⟩, h.st, h.ext, h.own⟩
  · obtain ⟨k0, hk0, hsk⟩ := SubB_get hs i k hk
    have hne0 : k0 ≠ .gone := fun e => by
      subst e
      unfold SubK at hsk
      split at hsk
      · exact hne rfl
      all_goals simp_all
    exact SubK_at hsk hne (h.mem.kb i L k0 hk0 hne0 hL)
  · obtain ⟨k0, hk0, hsk⟩ := SubB_get hs i _ hi
    unfold SubK at hsk
    cases k0 <;> simp at hsk
    exact h.mem.ka i _ _ _ hk0

theorem Sat.weaken {nb : Nat} {ρ : List Nat} {ts' : List SV} {ks' : List KB} (h : Sat B w β fp ts ks a) (hnb : ∀ i, nb ≤ i → B.β0 i = none) (hs : Subs nb ρ ts ks ts' ks') : ∃ β' fp', Sat B w β' fp' ts' ks' a := by
  unfold Subs at hs
  split at hs
  · rename_i h1 h2
    rw [lenB_eq] at h1
    obtain ⟨hl, hk⟩ := hs
    have hW := h.went.ren hnb ρ h1 h2
    have hM : ∀ b, Mx B.X (renF ρ fp) b → Mx B.X fp b := fun b hm => hm.imp id (fun ⟨k, i, _, hb⟩ => ⟨i, hb⟩)
    refine ⟨renE ρ β, renF ρ fp, hW.less hk, h.df.mono (Step.refl _ _) (fun b _ e => hM b e), by rw [h.len, ← SubL_length hl, renL_length], fun t s v hs hv => ?_⟩
    obtain ⟨s0, hs0, hsv⟩ := SubL_get hl t s hs
    rw [renL_get] at hs0
    cases hq : ts[t]? with
    | none => rw [hq] at hs0; cases hs0
    | some s1 =>
      rw [hq] at hs0
      cases hs0
      exact SubV_den hsv (((h.tm t s1 v hq hv).mono (Step.refl _ _) (fun b _ e => hM b e) (Ext.refl _)).ren ρ)
  · exact hs.elim

/-! ### A loop -/

/-- The loop's next round, and all that follows. -/
def Again (F : Fence) (n : Nat) (P : Program) (c : Code) (Q : Exit → Act → World → Prop) (a : Act) (w : World) : Prop :=
  ∀ (b : Frame) (k : List Item) (cs : List Frame), b.roundOf = F.round → F.fn b.fn → F.room (cs.length + 1 + n) →
    ∃ e a' w', Q e a' w' ∧ ArrivesIn (Machine.fenced P F) P (lone (b.atR a (.code c :: .inLoop c :: k)) cs w) b k cs e a' w'

theorem wpIn_of_again {F : Fence} {c : Code} (h : Again F n P c Q a w) : (Code.loop c).wpIn F n P Q a w := by
  intro b k cs hro hb hr
  obtain ⟨e, a', w', hq, harr⟩ := h b k cs hro hb hr
  exact ⟨e, a', w', hq, .of_steps (.one (fenced_calm hb hr rfl) stepR_loop) harr⟩

theorem again_round {F : Fence} {c : Code} (h : c.wpIn F n P (Exit.then (fun a' w' => Again F n P c Q a' w') Q) a w) : Again F n P c Q a w := by
  intro b k cs hro hb hr
  obtain ⟨e, a₁, w₁, hq, harr⟩ := h b (.inLoop c :: k) cs hro hb hr
  cases e with
  | normal =>
    obtain ⟨e₂, a₂, w₂, hq₂, harr₂⟩ := hq b k cs hro hb hr
    exact ⟨e₂, a₂, w₂, hq₂, .of_steps (StepsIn.trans harr (.one (fenced_calm hb hr rfl) stepR_inLoop)) harr₂⟩
  | exit id => exact ⟨_, a₁, w₁, hq, .pass (x := .inLoop c) rfl (fun _ _ => .inl (by simp)) harr⟩
  | goto l => exact ⟨_, a₁, w₁, hq, .pass (x := .inLoop c) rfl (fun _ _ => .inl (by simp)) harr⟩
  | ret => exact ⟨_, a₁, w₁, hq, .pass (x := .inLoop c) rfl (fun _ _ => .inl (by simp)) harr⟩
  | panic ch => exact ⟨_, a₁, w₁, hq, .pass (x := .inLoop c) rfl (fun _ _ => .inl (by simp)) harr⟩
  | outgrown => exact ⟨_, a₁, w₁, hq, .pass (x := .inLoop c) rfl (fun _ _ => .inl (by simp)) harr⟩

theorem again_ix {ι : Type} {F : Fence} {c : Code} (Fit : ι → Act → World → Prop) (μ : ι → Nat) (i : ι) (h₀ : Fit i a w)
    (round : ∀ i a w, Fit i a w → c.wpIn F n P (Exit.then (fun a' w' => ∃ j, Fit j a' w' ∧ μ j < μ i) Q) a w) : Again F n P c Q a w := by
  have key : ∀ m i a w, μ i = m → Fit i a w → Again F n P c Q a w := by
    intro m
    induction m using Nat.strongRecOn with
    | _ m ih =>
      intro i a w hn hI
      refine again_round (wpIn_mono (round i a w hI) (fun e a1 w1 he => ?_))
      cases e with
      | normal =>
        obtain ⟨j, hI₁, hlt⟩ := he
        exact ih (μ j) (hn ▸ hlt) j a1 w1 rfl hI₁
      | _ => exact he
  exact key _ i a w rfl h₀

end
end Go.Eng
