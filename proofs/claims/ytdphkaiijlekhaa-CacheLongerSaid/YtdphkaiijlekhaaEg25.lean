/-
  The engine, part 25: contracts out of `run`.
-/
import Derived.Test.YtdphkaiijlekhaaEg24
namespace Go.Eng
open Go Go.RowKit

/-- Two data that the same values read as. -/
def DEq : DV → DV → Prop
  | .sl b n sz f, .sl b' n' sz' f' => b = b' ∧ n = n' ∧ (n = 0 ∨ sz = sz') ∧ ∀ i, i < n → f i = f' i
  | .bool b, .tt => b = true
  | .bool b, .ff => b = false
  | .tt, .bool b => b = true
  | .ff, .bool b => b = false
  | x, y => x = y
def wdt : DV → Nat
  | .sl _ _ sz _ => sz
  | _ => 0
/-- A value of the function's own, handed out as data. -/
def Conv (ks : List KB) (s t : SV) : Prop :=
  match t with
  | .any => True
  | .d y => match s with
    | .d x => DEq x y
    | .cs i off n c => 0 < wdt y ∧ srcK ks (wdt y) (.cs i off n c) (fun k g _ => DEq (.sl false k (wdt y) g) y)
    | s => dvK ks s (fun x _ => DEq x y)
  | t => s = t ∧ closed t = true
def ConvL (ks : List KB) : List SV → List SV → Prop
  | [], [] => True
  | a :: l, b :: m => Conv ks a b ∧ ConvL ks l m
  | _, _ => False
/-- One result, a struct's cells one by one. -/
def Conv1 (ks : List KB) : SV → SV → Prop
  | .agg l, .agg m => ConvL ks l m
  | a, b => Conv ks a b
def Conv1L (ks : List KB) : List SV → List SV → Prop
  | [], [] => True
  | a :: l, b :: m => Conv1 ks a b ∧ Conv1L ks l m
  | _, _ => False
/-- All results. -/
def ResOk (ks : List KB) (vs : List SV) (res : SV) : Prop :=
  match vs with
  | [v] => Conv1 ks v res
  | vs => match res with
    | .tup l => Conv1L ks vs l
    | _ => False

section
variable {P : Program} {TT : Nat → Option TI} {IN : Nat → Option Inl} {X : Nat → Prop} {w : World} {β : Env} {fp : Nat → Nat → Prop} {ks : List KB}

theorem DEq_rd {x y : DV} (h : DEq x y) {M : Nat → Prop} {v : Value} (hr : Rd w M x v) : Rd w M y v := by
  unfold DEq at h
  split at h
  · obtain ⟨rfl, rfl, hsz, hf⟩ := h
    rename_i b n sz f sz' f'
    rcases Nat.eq_zero_or_pos n with h0 | h0
    · subst h0; exact hr.width
    · rcases hsz with e | rfl
      · omega
      · exact hr.congr hf
  · subst h; cases hr; exact .tt
  · subst h; cases hr; exact .ff
  · subst h; cases hr; exact .bool true
  · subst h; cases hr; exact .bool false
  · subst h; exact hr

/-- Everything given up. -/
theorem gone_all (h : Mem X w β fp ks) : ∀ b, X b → Mx X (fpGone (List.range ks.length) fp) b := fun b hb => .inl hb
theorem all_gone (h : Mem X w β fp ks) : ∀ b, Mx X (fpGone (List.range ks.length) fp) b → X b := fun b hb => hb.elim id (fun ⟨i, hi, hfi⟩ => by
  have : i < ks.length := by
    rcases Nat.lt_or_ge i ks.length with e | e
    · exact e
    · exact absurd hfi (h.out e b)
  exact absurd (List.mem_range.2 this) hi)

theorem Conv_den (h : Mem X w β fp ks) {s t : SV} {v : Value} (hc : Conv ks s t) (hd : Den w (Mx X fp) β s v) : Den w X noE t v := by
  have hsub : ∀ {d : DV}, Rd w (Mx X (fpGone (List.range ks.length) fp)) d v → Rd w X d v := fun hr => rd_less hr (gone_all h)
  unfold Conv at hc
  split at hc
  · exact .any _
  · rename_i y
    split at hc
    · rename_i x
      exact .d (DEq_rd hc (rd_less (den_data hd) (fun b hb => .inl hb)))
    · rename_i i off n c
      obtain ⟨hpos, hc⟩ := hc
      obtain ⟨k, g, fr, hk, h1, h2⟩ := cs_rd h.toMem0 hc hd
      exact .d (DEq_rd hk (hsub (h2 _ (fun i hi => List.mem_range.2 (h1 i hi)))))
    · rename_i hns1 hns2
      obtain ⟨d, fr, hk, h1, h2⟩ := dvK_spec h.toMem0 hc hd
      exact .d (DEq_rd hk (hsub (h2 _ (fun i hi => List.mem_range.2 (h1 i hi)))))
  · obtain ⟨rfl, hcl⟩ := hc
    exact (den_less hd (fun b hb => .inl hb)).closed hcl _

theorem ConvL_get {l m : List SV} (h : ConvL ks l m) : l.length = m.length ∧ ∀ (j : Nat) (s : SV), m[j]? = some s → ∃ s0, l[j]? = some s0 ∧ Conv ks s0 s := by
  induction l generalizing m with
  | nil => cases m with
    | nil => exact ⟨rfl, fun j s hs => by simp at hs⟩
    | cons => exact h.elim
  | cons a l ih => cases m with
    | nil => exact h.elim
    | cons b m =>
      obtain ⟨h1, h2⟩ := ih h.2
      refine ⟨by simp [h1], fun j s hs => ?_⟩
      cases j with
      | zero => simp at hs; subst hs; exact ⟨a, rfl, h.1⟩
      | succ j => exact h2 j s (by simpa using hs)
theorem Conv1L_get {l m : List SV} (h : Conv1L ks l m) : l.length = m.length ∧ ∀ (j : Nat) (s : SV), m[j]? = some s → ∃ s0, l[j]? = some s0 ∧ Conv1 ks s0 s := by
  induction l generalizing m with
  | nil => cases m with
    | nil => exact ⟨rfl, fun j s hs => by simp at hs⟩
    | cons => exact h.elim
  | cons a l ih => cases m with
    | nil => exact h.elim
    | cons b m =>
      obtain ⟨h1, h2⟩ := ih h.2
      refine ⟨by simp [h1], fun j s hs => ?_⟩
      cases j with
      | zero => simp at hs; subst hs; exact ⟨a, rfl, h.1⟩
      | succ j => exact h2 j s (by simpa using hs)
theorem Conv1_den (h : Mem X w β fp ks) {s t : SV} {v : Value} (hc : Conv1 ks s t) (hd : Den w (Mx X fp) β s v) : Den w X noE t v := by
  unfold Conv1 at hc
  split at hc
  · rename_i l m
    obtain ⟨hl, hg⟩ := ConvL_get hc
    cases hd with
    | agg _ vs h1 h2 h3 =>
      refine .agg m vs (by omega) (fun j s u hs hu => ?_) h3
      obtain ⟨s0, hs0, hc⟩ := hg j s hs
      exact Conv_den h hc (h2 j s0 u hs0 hu)
  · exact Conv_den h hc hd

/-- The end of a function whose contract is over data. -/
def endD (TT : Nat → Option TI) (rs : List ResultVar) (res : SV) (e : Exit) (ts : List SV) (ks : List KB) : Prop :=
  match e with
  | .normal => resK TT ts ks rs (fun vs => ResOk ks vs res)
  | .ret => resK TT ts ks rs (fun vs => ResOk ks vs res)
  | _ => False

/-- A function's contract out of `run`. -/
theorem fnOk_of_run (hTT : TTok P TT) (hIN : INok P IN) (hmix : P.follows .mixedOrders = true) {f : FuncId} {fn : Func} {c : Code} (m : Nat) (hf : P.funcs[f]? = some fn) (hb : fn.body = some c) (hent : ∀ (args : Array Value) (w : World), (callFunc f args).run P w = .ok (.enter f args) w)
    {args : List SV} {res : SV} (hcl : closedL args = true) (k : Nat) (hk : fn.ntmps = args.length + k) (h : run P TT IN m ⟨0, none⟩ [.code c] (args ++ anys k) [] (endD TT fn.results.toList res)) : FnOk P f args res := by
  refine ⟨hent, fun M w vs hM hl hd => ?_⟩
  refine (callsIn_wide (n := 0)).1 (callsIn_of_wp_marks hf hb trivial ?_ rfl)
  have hM0 : Mem M w noE (fun _ _ => False) [] := ⟨⟨hM, fun _ _ h => h.elim, fun _ _ _ h => h.elim, fun _ _ h => h.elim, fun _ _ h => h.elim, fun i L k hk => by simp at hk⟩, fun _ _ => rfl, fun i t dom cols hi => by simp at hi⟩
  have hS := enter_sat hM0 hl (fun j s u hs hu => (hd j s u hs hu).mono (M' := Mx M (fun _ _ => False)) (Step.refl _ _) (fun b _ hm => hm.elim id (fun ⟨_, e⟩ => e.elim)) (Ext.refl _)) (k := k) (m := fn.ntmps) hk
  have := run_sound hTT hIN hmix m ⟨M, w, noE, fun _ _ => False⟩ ⟨0, none⟩ none 0 (bodyPostM (wideF none) 0 P fn (fun e w' => ∃ r, e = .returned r ∧ Step (fun _ => False) w w' ∧ Den w' M noE res r)) _ (fun _ _ => rfl) rfl (fun e ts2 ks2 a2 w2 β2 fp2 hK hS2 => by
    have fin : resK TT ts2 ks2 fn.results.toList (fun vs => ResOk ks2 vs res) → LeavesInM (wideF none) 0 P fn a2.tmps (fun e w' => ∃ r, e = .returned r ∧ Step (fun _ => False) w w' ∧ Den w' M noE res r) a2.defers .returning w2 := fun hK => by
      refine leave_marks (a := a2) (fun w3 hS3 => ?_) a2.defers w2 hS2
      obtain ⟨ss, us, v, hres, e1, e3, hrun, rfl, hden⟩ := results_spec (P := P) hTT hS3 hK
      refine ⟨_, hrun, _, rfl, hS3.went.st.mono (fun b _ hb => by obtain ⟨i, hi⟩ := hb; exact hi), ?_⟩
      unfold ResOk at hres
      split at hres
      · rename_i s
        have hu1 : us.length = 1 := by rw [← e1]; rfl
        match us, hu1, e3 with
        | [u], _, e3 => exact Conv1_den hS3.went.mem hres (e3 0 s u rfl rfl)
      · rename_i hne
        split at hres
        · obtain ⟨c1, c2⟩ := Conv1L_get hres
          have hu1 : ¬ us.toArray.size = 1 := fun e => by
            have : ss.length = 1 := by rw [e1]; simpa using e
            match ss, this with
            | [s], _ => exact hne s rfl
          rw [dif_neg hu1]
          refine .tup _ us (by omega) (fun j s u hs hu => ?_)
          obtain ⟨s0, hs0, hc⟩ := c2 j s hs
          exact Conv1_den hS3.went.mem hc (e3 j s0 u hs0 hu)
        · exact hres.elim
    cases e with
    | normal => exact fin hK
    | ret => exact fin hK
    | _ => exact hK.elim) [.code c] _ _ _ _ _ _ h trivial hS
  exact wpIn_mono this (fun e a' w' he => he)

/-- What a function over known blocks leaves, under other numbers. -/
def FinOk (nb : Nat) (R : SV → List KB → Prop) (vs : List SV) (ks : List KB) : Prop :=
  ∃ ρ s' ks', okN (lenB ks) ρ = true ∧ keeps nb 0 ρ = true ∧ SubV (renV ρ (retV vs)) s' ∧ SubB (renB ρ ks ρ) ks' ∧ R s' ks'
/-- The end of a function whose contract is over known blocks. -/
def endM (TT : Nat → Option TI) (rs : List ResultVar) (nb : Nat) (R : SV → List KB → Prop) (e : Exit) (ts : List SV) (ks : List KB) : Prop :=
  match e with
  | .normal => resK TT ts ks rs (fun vs => FinOk nb R vs ks)
  | .ret => resK TT ts ks rs (fun vs => FinOk nb R vs ks)
  | _ => False

theorem cOk_of_run (hTT : TTok P TT) (hIN : INok P IN) (hmix : P.follows .mixedOrders = true) {f : FuncId} {fn : Func} {c : Code} (m : Nat) (hf : P.funcs[f]? = some fn) (hb : fn.body = some c) (hent : ∀ (args : Array Value) (w : World), (callFunc f args).run P w = .ok (.enter f args) w)
    {args : List SV} {ks : List KB} {R : SV → List KB → Prop} (k : Nat) (hk : fn.ntmps = args.length + k) (h : run P TT IN m ⟨ks.length, none⟩ [.code c] (args ++ anys k) ks (endM TT fn.results.toList ks.length R)) : COk P f args ks R := by
  refine ⟨hent, fun X w β fp vs hM hl hd => ?_⟩
  refine (callsIn_wide (n := 0)).1 (callsIn_of_wp_marks hf hb trivial ?_ rfl)
  have hS := enter_sat hM hl hd (k := k) (m := fn.ntmps) hk
  have := run_sound hTT hIN hmix m ⟨X, w, β, fp⟩ ⟨ks.length, none⟩ none 0 (bodyPostM (wideF none) 0 P fn (fun e w' => ∃ r s ks' β' fp', e = .returned r ∧ R s ks' ∧ Went X w β fp w' β' fp' ks' ∧ Den w' (Mx X fp') β' s r)) _ hM.kl rfl (fun e ts2 ks2 a2 w2 β2 fp2 hK hS2 => by
    have fin : resK TT ts2 ks2 fn.results.toList (fun vs => FinOk ks.length R vs ks2) → LeavesInM (wideF none) 0 P fn a2.tmps (fun e w' => ∃ r s ks' β' fp', e = .returned r ∧ R s ks' ∧ Went X w β fp w' β' fp' ks' ∧ Den w' (Mx X fp') β' s r) a2.defers .returning w2 := fun hK => by
      refine leave_marks (a := a2) (fun w3 hS3 => ?_) a2.defers w2 hS2
      obtain ⟨ss, us, v, ⟨ρ, s', ks', o1, o2, hsv, hsb, hR⟩, e1, e3, hrun, _, hden⟩ := results_spec (P := P) hTT hS3 hK
      rw [lenB_eq] at o1
      have hW := (hS3.went.ren hM.kl ρ o1 o2).less hsb
      have hMx : ∀ b, Mx X (renF ρ fp2) b → Mx X fp2 b := fun b hm => hm.imp id (fun ⟨k, i, _, hb⟩ => ⟨i, hb⟩)
      exact ⟨v, hrun, v, s', ks', _, _, rfl, hR, hW, SubV_den hsv ((den_less hden hMx).ren ρ)⟩
    cases e with
    | normal => exact fin hK
    | ret => exact fin hK
    | _ => exact hK.elim) [.code c] _ _ _ _ _ _ h trivial hS
  exact wpIn_mono this (fun e a' w' he => he)

end
end Go.Eng
