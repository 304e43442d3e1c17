/-
  hardtackref01.Split, Make, Check. No conditions. hardtackref01.Fold, Same. Conditions: lengths. hardtackref04: Parts, first, split, texts, Check. Conditions: data of no more than 100000 bytes. hardtackref04.Names, Fold. Conditions: data shorter than 100000. hardtackref05.Check, hardtackref06.Check. Conditions: data of no more than 100000 bytes. hardtackref13.Find. Conditions: fewer than 100000 records, of data shorter than that. hardtackref13.Of. Conditions: fewer than 100000 records, of data shorter than that. What sets.Find and Of answer is what the document says. Plain lemmas. hardtacklaw13.Small, sets.Cap, hardtacklaw13.lives. No conditions.
-/
import Derived.Test.YtdphkaiijlekhaaB1
import Derived.Test.YtdphkaiijlekhaaS2
set_option linter.unusedVariables false
set_option linter.unusedSimpArgs false
namespace Go.Proofs.Ytdphkaiijlekhaa
open Go Go.Eng
/-- Labels, out of bytes. -/
def splitN : Nat → List UInt8 → Option (List (List UInt8))
  | 0, _ => none
  | m + 1, r => if r.length = 0 then none else if bt r 0 = 0 then (if r.length = 1 then some [] else none) else
      if bt r 0 > 63 ∨ 1 + bt r 0 > r.length then none else (splitN m (r.drop (1 + bt r 0))).map (fun ls => (r.drop 1).take (bt r 0) :: ls)
def labelsOf (s : List UInt8) : Option (List (List UInt8)) := if s.length > 255 then none else splitN (s.length + 1) s
def splitR : Option (List (List UInt8)) → SV
  | none => .tup [.any, .d .ff]
  | some l => .tup [.d (.sl false l.length 1 (strs l)), .d .tt]
structure SpSt where
  at_ : Nat
  l : List (List UInt8)
  m : Nat
set_option maxRecDepth 100000 in
set_option maxHeartbeats 4000000 in
theorem r1split_ok (s : List UInt8) : FnOk Try.prog 137 [.d (.str s)] (splitR (labelsOf s)) := by
  refine fnOk_of_run (TT := TT) (IN := lookI []) TT_ok INok_nil mixed 1000 Try.func137 rfl (enters Try.func137 (by kernel_rfl) rfl) rfl 52 (by kernel_rfl) ?_
  conv => whnf
  refine ⟨fun h1 => ?_, fun h1 => ?_⟩
  · have h1 : (s.length : Int) > 255 := of_decide_eq_true h1
    have e : labelsOf s = none := by unfold labelsOf; rw [if_pos (by omega)]
    rw [e]
    conv => whnf
    repeat' (first | exact True.intro | exact rfl | exact ⟨rfl, rfl, .inr rfl, fun _ _ => rfl⟩ | exact ⟨rfl, rfl, .inl rfl, fun i hi => absurd hi (Nat.not_lt_zero _)⟩ | refine And.intro ?_ ?_)
  have h1 : ¬ (s.length : Int) > 255 := of_decide_eq_false h1
  have e : labelsOf s = splitN (s.length + 1) s := by unfold labelsOf; rw [if_neg (by omega)]
  have hw : ∀ n : Int, -9223372036854775808 ≤ n ∧ n ≤ 9223372036854775807 → IntKind.i64.wrap n = n := fun n h => w64_in n h
  conv => whnf
  refine .csT 4 0 9 1 (fun _ => []) rfl rfl ?_
  refine .inv SpSt (fun x => x.at_ ≤ s.length ∧ s.length < x.at_ + x.m ∧ x.l.length ≤ x.at_ ∧ (splitN x.m (s.drop x.at_)).map (x.l ++ ·) = splitN (s.length + 1) s) (fun x => [(4, .all 1), (5, .d (.int .i64 x.at_))]) (fun x => [(1, .row 9 1 x.l.length .no (strs x.l))]) (fun x => s.length - x.at_) ⟨⟨0, [], s.length + 1⟩, [0, 1], ⟨Nat.zero_le _, by show s.length < 0 + (s.length + 1); omega, Nat.zero_le _, by simp⟩, ?_⟩ ?_
  · conv => whnf
    repeat' (first | exact True.intro | exact rfl | (intro i hi; exact absurd hi (Nat.not_lt_zero _)) | exact fun _ _ => rfl | refine And.intro ?_ ?_)
  intro x hx
  obtain ⟨hk, hm, hll, hrest⟩ := hx
  conv => whnf
  generalize x.at_ = k at hk hm hll hrest ⊢
  generalize x.l = l at hll hrest ⊢
  generalize x.m = m at hm hrest ⊢
  have hdl : (s.drop k).length = s.length - k := by simp
  have hd0 : bt (s.drop k) 0 = bt s k := by rw [bt_drop]; rfl
  have hbl := bt_lt s k
  obtain ⟨m', rfl⟩ : ∃ m', m = m' + 1 := ⟨m - 1, by omega⟩
  conv at hrest => lhs; unfold splitN
  rw [hdl, hd0] at hrest
  refine ⟨fun c0 => ?_, fun c0 => ?_⟩
  · have c0' : k < s.length := (by have h : (k : Int) < s.length := of_decide_eq_true c0; omega)
    rw [if_neg (by omega)] at hrest
    conv => whnf
    refine ⟨by omega, ?_⟩
    conv => whnf
    rw [bt_eq, hw _ (by omega)]
    refine ⟨fun c1 => ?_, fun c1 => ?_⟩
    · have c1 : bt s k = 0 := by have h : (bt s k : Int) = 0 := by simpa using c1
                                 omega
      rw [if_pos c1] at hrest
      conv => whnf
      rw [hw ((s.length : Int) - 1) (by omega)]
      by_cases hz : s.length - k = 1
      · rw [if_pos hz] at hrest
        rw [e, ← hrest]
        conv => whnf
        refine ⟨?_, ?_, True.intro⟩
        · exact ⟨rfl, by simp, .inr rfl, fun i hi => by simp⟩
        · show ((k : Int) == (s.length : Int) - 1) = true
          simp
          omega
      · rw [if_neg hz] at hrest
        rw [e, ← hrest]
        conv => whnf
        refine ⟨True.intro, ?_, True.intro⟩
        show ((k : Int) == (s.length : Int) - 1) = false
        simp
        omega
    have c1 : bt s k ≠ 0 := by have h : (bt s k : Int) ≠ 0 := by simpa using c1
                               omega
    rw [if_neg c1] at hrest
    conv => whnf
    refine ⟨fun c2 => ?_, fun c2 => ?_⟩
    · have c2 : (bt s k : Int) > 63 := of_decide_eq_true c2
      rw [if_pos (.inl (by omega))] at hrest
      rw [e, ← hrest]
      conv => whnf
      exact ⟨True.intro, rfl, True.intro⟩
    have c2 : ¬ (bt s k : Int) > 63 := of_decide_eq_false c2
    conv => whnf
    rw [hw ((k : Int) + 1) (by omega), hw ((k : Int) + 1 + bt s k) (by omega)]
    refine ⟨fun c3 => ?_, fun c3 => ?_⟩
    · have c3 : (k : Int) + 1 + bt s k > s.length := of_decide_eq_true c3
      rw [if_pos (.inr (by omega))] at hrest
      rw [e, ← hrest]
      conv => whnf
      exact ⟨True.intro, rfl, True.intro⟩
    have c3 : ¬ (k : Int) + 1 + bt s k > s.length := of_decide_eq_false c3
    rw [if_neg (by omega)] at hrest
    conv => whnf
    rw [hw ((k : Int) + 1) (by omega), hw ((k : Int) + 1 + bt s k) (by omega)]
    refine ⟨by omega, ?_⟩
    conv => whnf
    refine ⟨by omega, ?_⟩
    conv => whnf
    rw [hw (1 + (bt s k : Int)) (by omega), hw ((k : Int) + (1 + bt s k)) (by omega), show (k : Int) + (1 + (bt s k : Int)) = ((k + (1 + bt s k) : Nat) : Int) by omega]
    refine ⟨⟨k + (1 + bt s k), l ++ [(s.drop (k + 1)).take (bt s k)], m'⟩, [0, 3], ⟨by show k + (1 + bt s k) ≤ _; omega, by show s.length < k + (1 + bt s k) + m'; omega, by show (l ++ [_]).length ≤ k + (1 + bt s k); rw [List.length_append]; show l.length + 1 ≤ _; omega, ?_⟩, by show s.length - (k + (1 + bt s k)) < s.length - k; omega, ?_⟩
    · rw [← hrest, List.drop_drop, List.drop_drop]
      simp [Function.comp_def]
    conv => whnf
    repeat' (first | exact True.intro | exact rfl | refine And.intro ?_ ?_)
    · simp
    · refine strs_cat _ _ _ ?_
      show [DV.str _] = [DV.str _]
      congr 2
      unfold sub
      rw [show ((k : Int) + 1 + (bt s k : Int)).toNat - ((k : Int) + 1).toNat = bt s k by omega, show ((k : Int) + 1).toNat = k + 1 by omega]
  · have c0' : k = s.length := (by have h : ¬ (k : Int) < s.length := of_decide_eq_false c0; omega)
    rw [if_pos (by omega)] at hrest
    rw [e, ← hrest]
    conv => whnf
    exact ⟨True.intro, rfl, True.intro⟩
theorem mk_len_cons0 (l : List UInt8) (ls : List (List UInt8)) : (mk (l :: ls)).length = 1 + l.length + (mk ls).length := by simp [mk, lab_len]
/-- What is split is a name. -/
theorem splitN_mk : ∀ (m : Nat) (r : List UInt8) (ls : List (List UInt8)), splitN m r = some ls → (∀ l ∈ ls, okL l) ∧ r = mk ls
  | 0, _, _, h => by cases h
  | m + 1, r, ls, h => by
    unfold splitN at h
    split at h
    · cases h
    · rename_i h0
      split at h
      · rename_i h1
        split at h
        · rename_i h2
          cases h
          refine ⟨fun l hl => (by cases hl), ?_⟩
          match r, h2 with
          | [b], _ =>
            have : b.toNat = 0 := by simpa [bt] using h1
            rw [mk, UInt8.toNat_inj.1 (show b.toNat = (0 : UInt8).toNat from this)]
        · cases h
      · rename_i h1
        split at h
        · cases h
        · rename_i h2
          obtain ⟨ks, hk, rfl⟩ := Option.map_eq_some_iff.1 h
          obtain ⟨a1, a2⟩ := splitN_mk m _ ks hk
          have hlen : ((r.drop 1).take (bt r 0)).length = bt r 0 := by simp; omega
          refine ⟨fun l hl => ?_, ?_⟩
          · rcases List.mem_cons.1 hl with rfl | hl
            · unfold okL; omega
            · exact a1 l hl
          · rw [mk, ← a2]
            unfold lab
            rw [hlen]
            match r, h0 with
            | b :: r, _ =>
              have e : bt (b :: r) 0 = b.toNat := by simp [bt]
              rw [e]
              simp [show 1 + b.toNat = b.toNat + 1 by omega]
theorem splitN_of : ∀ (ls : List (List UInt8)) (m : Nat), (∀ l ∈ ls, okL l) → (mk ls).length ≤ m → splitN m (mk ls) = some ls
  | [], m, _, hm => by
    cases m with
    | zero => have : (mk []).length = 1 := rfl
              omega
    | succ m => rfl
  | l :: ls, m, h, hm => by
    have hl := h l (List.mem_cons_self ..)
    have hlen := mk_len_cons0 l ls
    have hp := mk_pos ls
    cases m with
    | zero => omega
    | succ m =>
      have hb : bt (mk (l :: ls)) 0 = l.length := bt_lab l (mk ls) hl
      have h1 := hl.1
      have h2 := hl.2
      unfold splitN
      rw [if_neg (by omega), hb, if_neg (by omega), if_neg (by omega)]
      have hd : (mk (l :: ls)).drop (1 + l.length) = mk ls := drop_lab l (mk ls)
      rw [hd, splitN_of ls m (fun x hx => h x (List.mem_cons_of_mem _ hx)) (by omega)]
      show some ((((mk (l :: ls)).drop 1).take l.length) :: ls) = _
      have : ((mk (l :: ls)).drop 1) = l ++ mk ls := rfl
      rw [this, List.take_left]
theorem labelsOf_mk {s : List UInt8} {ls : List (List UInt8)} (h : labelsOf s = some ls) : s.length ≤ 255 ∧ (∀ l ∈ ls, okL l) ∧ s = mk ls := by
  unfold labelsOf at h
  split at h
  · cases h
  · exact ⟨by omega, splitN_mk _ _ _ h⟩
theorem labelsOf_of {ls : List (List UInt8)} (h : ∀ l ∈ ls, okL l) (hl : (mk ls).length ≤ 255) : labelsOf (mk ls) = some ls := by
  unfold labelsOf
  rw [if_neg (by omega)]
  exact splitN_of ls _ h (by omega)
theorem isName_labels (s : List UInt8) : isName s ↔ (labelsOf s).isSome = true := by
  rw [isName_iff]
  constructor
  · rintro ⟨h1, ls, h2, rfl⟩
    rw [labelsOf_of h2 h1]
    rfl
  · intro h
    obtain ⟨ls, hls⟩ := Option.isSome_iff_exists.1 h
    obtain ⟨h1, h2, h3⟩ := labelsOf_mk hls
    exact ⟨h1, ls, h2, h3⟩
set_option maxRecDepth 100000 in
theorem r1check_ok (s : List UInt8) : FnOk Try.prog 87 [.d (.str s)] (.d (.int .i64 (if isName s then 0 else 2))) := by
  refine fnOk_of_run (TT := TT) (IN := lookI []) TT_ok INok_nil mixed 1000 Try.func87 rfl (enters Try.func87 (by kernel_rfl) rfl) rfl 11 (by kernel_rfl) ?_
  conv => whnf
  refine .one (.data _ (r1split_ok s) rfl (by cases labelsOf s <;> rfl) ?_)
  have hn := isName_labels s
  cases hl : labelsOf s with
  | none =>
    have : ¬ isName s := fun h => by rw [hn, hl] at h; cases h
    rw [if_neg this]
    conv => whnf
    try exact rfl
  | some ls =>
    have : isName s := hn.2 (by rw [hl]; rfl)
    rw [if_pos this]
    conv => whnf
    try exact rfl
set_option maxRecDepth 100000 in
set_option maxHeartbeats 4000000 in
theorem len_byte {q : List UInt8} (h : q.length ≤ 255) : toBytes [IntKind.u8.wrap (q.length : Int)] = [UInt8.ofNat q.length] := by
  show [UInt8.ofNat (IntKind.u8.wrap (q.length : Int)).toNat] = _
  have : (IntKind.u8.wrap (q.length : Int)).toNat = q.length := by rw [IntKind.wrap_u8]; omega
  rw [this]
theorem labs_all {l : List (List UInt8)} (hs : ∀ x ∈ l, x.length ≤ 255) : (labs l).length ≤ 256 * l.length := by
  induction l with
  | nil => exact Nat.le_refl _
  | cons a l ih =>
    have h1 := hs a (List.mem_cons_self ..)
    have h2 := ih (fun x hx => hs x (List.mem_cons_of_mem _ hx))
    show (lab a ++ labs l).length ≤ 256 * (l.length + 1)
    rw [List.length_append, lab_len]
    omega
theorem r1make_ok (z : Bool) (l : List (List UInt8)) (hl : l.length ≤ 100000) (hs : ∀ x ∈ l, x.length ≤ 255) : FnOk Try.prog 167 [.d (.sl z l.length 1 (strs l))] (.d (.str (mk l))) := by
  refine fnOk_of_run (TT := TT) (IN := lookI []) TT_ok INok_nil mixed 1000 Try.func167 rfl (enters Try.func167 (by kernel_rfl) rfl) rfl 23 (by kernel_rfl) ?_
  conv => whnf
  refine .inv Nat (fun i => i ≤ l.length) (fun i => [(3, .d (.str (labs (l.take i)))), (8, .d (.int .i64 i))]) (fun _ => []) (fun i => l.length - i) ⟨0, [], Nat.zero_le _, ?_⟩ ?_
  · conv => whnf
    repeat' (first | exact True.intro | exact rfl | exact fun _ => Iff.rfl | exact fun _ _ => rfl | exact renM_ent rfl _ | refine And.intro ?_ ?_)
  intro i hi
  conv => whnf
  have hll := labs_all (l := l.take i) (fun x hx => hs x (List.mem_of_mem_take hx))
  have htl : (l.take i).length ≤ l.length := by rw [List.length_take]; omega
  refine ⟨fun c1 => ?_, fun c1 => ?_⟩
  · have c1 : (i : Int) < l.length := of_decide_eq_true c1
    have hil : i < l.length := by omega
    obtain ⟨q, hq⟩ : ∃ q, l[i]?.getD [] = q := ⟨_, rfl⟩
    have hq2 : l[i]? = some q := by rw [← hq, List.getElem?_eq_getElem hil]; rfl
    have htk : l.take (i + 1) = l.take i ++ [q] := by rw [List.take_add_one, hq2]; rfl
    have hql := hs q (List.mem_of_getElem? hq2)
    have hw1 : IntKind.i64.wrap ((i : Int) + 1) = ((i + 1 : Nat) : Int) := by rw [w64_in _ (by omega)]; omega
    conv => whnf
    refine ⟨by omega, ?_⟩
    conv => whnf
    rw [Int.toNat_natCast, hq, len_byte hql]
    refine ⟨by simp only [List.length_cons, List.length_nil]; omega, ?_⟩
    conv => whnf
    refine ⟨by simp only [List.length_append, List.length_cons, List.length_nil]; omega, ?_⟩
    conv => whnf
    refine ⟨i + 1, [], hil, by omega, ?_⟩
    conv => whnf
    rw [hw1]
    have hcat : labs (l.take i) ++ ([UInt8.ofNat q.length] ++ q) = labs (l.take (i + 1)) := by rw [htk, labs_snoc]; rfl
    rw [hcat]
    repeat' (first | exact True.intro | exact rfl | exact fun _ => Iff.rfl | exact fun _ _ => rfl | exact renM_ent rfl _ | refine And.intro ?_ ?_)
  · have c1 : ¬ (i : Int) < l.length := of_decide_eq_false c1
    rw [List.take_of_length_le (by omega)] at hll ⊢
    conv => whnf
    refine ⟨by show (labs l).length + 1 ≤ _; omega, ?_⟩
    conv => whnf
    exact congrArg DV.str (labs_mk l)
end Go.Proofs.Ytdphkaiijlekhaa
namespace Go.Proofs.Ytdphkaiijlekhaa
open Go Go.Eng
set_option maxRecDepth 100000
set_option maxHeartbeats 2000000 in
theorem r1fold_ok (s : List UInt8) (hs : s.length < 9223372036854775808) : FnOk Try.prog 118 [.d (.str s)] (.d (.str (fold s))) := by
  refine fnOk_of_run (TT := TT) (IN := lookI []) TT_ok INok_nil mixed 1000 Try.func118 rfl (enters Try.func118 (by kernel_rfl) rfl) rfl 28 (by kernel_rfl) ?_
  conv => whnf
  refine .inv Nat (fun k => k ≤ s.length) (fun k => [(10, .d (.int .i64 k))]) (fun k => [(0, .row 5 1 s.length .no (fun j => [.int .u8 (mix s k j)]))]) (fun k => s.length - k) ⟨0, [0], by omega, ?_⟩ ?_
  · conv => whnf
    repeat' (first | exact True.intro | exact rfl | refine And.intro ?_ ?_)
    intro i hi
    simp [mix, bt_eq]
  intro k hk
  have hk1 : k < s.length → IntKind.i64.wrap ((k : Int) + 1) = ((k + 1 : Nat) : Int) := fun _ => by rw [w64_in _ (by omega)]; omega
  conv => whnf
  refine ⟨fun hlt => ?_, fun hge => ?_⟩
  · have hlt' : k < s.length := by simpa using hlt
    conv => whnf
    refine ⟨by simp; omega, ?_⟩
    have hmk : mix s k (Int.toNat (k : Int)) = (bt s k : Int) := by simp [mix]
    have hb := bt_lt s k
    conv => whnf
    have stay : ¬ (65 ≤ bt s k ∧ bt s k ≤ 90) → ∀ i, i < s.length → [DV.int IntKind.u8 (mix s k i)] = [DV.int IntKind.u8 (mix s (k + 1) i)] := fun hn i hi => by
      unfold mix
      by_cases e : i = k
      · subst e
        rw [if_neg (by omega), if_pos (by omega), low_nat, if_neg (by unfold bt at hn; exact hn)]
        rfl
      · by_cases e2 : i < k
        · rw [if_pos e2, if_pos (by omega)]
        · rw [if_neg e2, if_neg (by omega)]
    rw [hmk]
    refine ⟨fun h1 => ?_, fun h1 => ?_⟩
    · conv => whnf
      refine ⟨fun h2 => ?_, fun h2 => ?_⟩
      · conv => whnf
        refine ⟨by simp; omega, ?_⟩
        conv => whnf
        refine ⟨k + 1, [0], by omega, by show s.length - (k + 1) < s.length - k; omega, ?_⟩
        conv => whnf
        repeat' (first | exact True.intro | exact rfl | refine And.intro ?_ ?_)
        all_goals first
          | exact congrArg SV.d (congrArg (DV.int _) (hk1 hlt'))
          | exact stay (by simp at h1 h2; omega)
          | (intro i hi
             show oneF _ _ _ _ i = _
             unfold oneF mix
             simp at h1 h2
             by_cases e : i = k
             · subst e
               simp only [Int.toNat_natCast, if_true, putD, List.set_cons_zero]
               rw [if_pos (by omega), low_nat, if_pos (by unfold bt at h1 h2; omega), IntKind.wrap_u8]
               unfold bt at *
               congr 2
               omega
             · rw [if_neg (by simpa using e)]
               show [DV.int _ _] = [DV.int _ _]
               by_cases e2 : i < k
               · rw [if_pos e2, if_pos (by omega)]
               · rw [if_neg e2, if_neg (by omega)])
      · conv => whnf
        refine ⟨k + 1, [0], by omega, by show s.length - (k + 1) < s.length - k; omega, ?_⟩
        conv => whnf
        repeat' (first | exact True.intro | exact rfl | refine And.intro ?_ ?_)
        all_goals first
          | exact congrArg SV.d (congrArg (DV.int _) (hk1 hlt'))
          | exact stay (by simp at h1 h2; omega)
          | (intro i hi
             show oneF _ _ _ _ i = _
             unfold oneF mix
             simp at h1 h2
             by_cases e : i = k
             · subst e
               simp only [Int.toNat_natCast, if_true, putD, List.set_cons_zero]
               rw [if_pos (by omega), low_nat, if_pos (by unfold bt at h1 h2; omega), IntKind.wrap_u8]
               unfold bt at *
               congr 2
               omega
             · rw [if_neg (by simpa using e)]
               show [DV.int _ _] = [DV.int _ _]
               by_cases e2 : i < k
               · rw [if_pos e2, if_pos (by omega)]
               · rw [if_neg e2, if_neg (by omega)])
    · conv => whnf
      refine ⟨k + 1, [0], by omega, by show s.length - (k + 1) < s.length - k; omega, ?_⟩
      conv => whnf
      repeat' (first | exact True.intro | exact rfl | refine And.intro ?_ ?_)
      all_goals first
        | exact congrArg SV.d (congrArg (DV.int _) (hk1 hlt'))
        | exact stay (by simp at h1; omega)
        | (intro i hi
           show oneF _ _ _ _ i = _
           unfold oneF mix
           simp at h1
           by_cases e : i = k
           · subst e
             simp only [Int.toNat_natCast, if_true, putD, List.set_cons_zero]
             rw [if_pos (by omega), low_nat, if_pos (by unfold bt at h1; omega), IntKind.wrap_u8]
             unfold bt at *
             congr 2
             omega
           · rw [if_neg (by simpa using e)]
             show [DV.int _ _] = [DV.int _ _]
             by_cases e2 : i < k
             · rw [if_pos e2, if_pos (by omega)]
             · rw [if_neg e2, if_neg (by omega)])
  · have hke : k = s.length := by simp at hge; omega
    subst hke
    conv => whnf
    refine ⟨fun i _ => ⟨_, rfl⟩, ?_⟩
    conv => whnf
    refine congrArg DV.str ?_
    unfold bytesOf fold
    apply List.ext_getElem?
    intro i
    rw [List.getElem?_map, List.getElem?_map]
    by_cases hi : i < s.length
    · rw [List.getElem?_range hi, List.getElem?_eq_getElem hi]
      simp [mix, hi]
    · rw [List.getElem?_eq_none (by simp; omega), List.getElem?_eq_none (by omega)]
      rfl
set_option maxHeartbeats 4000000 in
theorem r1same_ok (a b : List UInt8) : FnOk Try.prog 66 [.d (.str a), .d (.str b)] (.d (.bool (sameN a b))) := by
  refine fnOk_of_run (TT := TT) (IN := lookI []) TT_ok INok_nil mixed 1000 Try.func66 rfl (enters Try.func66 (by kernel_rfl) rfl) rfl 18 (by kernel_rfl) ?_
  conv => whnf
  refine .one (.data _ (r1check_ok a) rfl rfl ?_)
  by_cases ha : isName a
  · rw [if_pos ha]
    conv => whnf
    refine brT rfl ?_
    conv => whnf
    refine .one (.data _ (r1check_ok b) rfl rfl ?_)
    by_cases hb : isName b
    · rw [if_pos hb]
      conv => whnf
      refine brT rfl ?_
      conv => whnf
      refine .one (.data _ (r1fold_ok a (isName_short ha)) rfl rfl ?_)
      conv => whnf
      refine .one (.data _ (r1fold_ok b (isName_short hb)) rfl rfl ?_)
      rw [show sameN a b = (fold a == fold b) by unfold sameN; rw [decide_eq_true ha, decide_eq_true hb]; rfl]
      conv => whnf
      try exact rfl
    · rw [if_neg hb, show sameN a b = false by unfold sameN; rw [decide_eq_false hb, Bool.false_and, Bool.and_false]]
      conv => whnf
      refine brF rfl ?_
      conv => whnf
      repeat (first | (refine brF rfl ?_; conv => whnf))
      try exact rfl
  · rw [if_neg ha, show sameN a b = false by unfold sameN; rw [decide_eq_false ha, Bool.false_and]]
    conv => whnf
    refine brF rfl ?_
    conv => whnf
    repeat (first | (refine brF rfl ?_; conv => whnf))
    try exact rfl
end Go.Proofs.Ytdphkaiijlekhaa
namespace Go.Proofs.Ytdphkaiijlekhaa
open Go Go.Eng
/-- A name that begins bytes is the one that first finds. -/
theorem firstF_at (s t : List UInt8) : ∀ (ls pre : List (List UInt8)) (m : Nat), (∀ l ∈ pre, okL l) → (∀ l ∈ ls, okL l) → s = labs pre ++ (mk ls ++ t) → (labs pre ++ mk ls).length ≤ 255 → 256 ≤ m + (labs pre).length →
    firstF s m (labs pre).length = (labs pre ++ mk ls).length
  | [], pre, m, hp, _, hs, hl, hm => by
    cases m with
    | zero => rw [List.length_append] at hl; omega
    | succ m =>
      have hl1 : (labs pre ++ mk []).length = (labs pre).length + 1 := by rw [List.length_append]; rfl
      have hb : bt s (labs pre).length = 0 := by
        rw [hs]
        unfold bt
        rw [List.getElem?_append_right (Nat.le_refl _), Nat.sub_self]
        rfl
      have hsl : (labs pre).length < s.length := by rw [hs, List.length_append]; have := mk_pos []; rw [List.length_append]; omega
      have htk : s.take ((labs pre).length + 1) = mk pre := by
        have : labs pre ++ (mk [] ++ t) = (labs pre ++ [0]) ++ t := by simp [mk]
        rw [hs, this, List.take_left' (by simp)]
        exact labs_mk pre
      unfold firstF
      rw [if_pos ⟨hsl, by omega⟩, if_pos hb, htk, if_pos ((isName_iff _).2 ⟨by rw [← labs_mk]; simpa [mk] using hl, pre, hp, rfl⟩), hl1]
  | l :: ls, pre, m, hp, hls, hs, hl, hm => by
    have hol := hls l (List.mem_cons_self ..)
    have h1 := hol.1
    have hml := mk_len_cons0 l ls
    have hmp := mk_pos ls
    have hll : (labs (pre ++ [l])).length = (labs pre).length + 1 + l.length := by rw [labs_snoc, List.length_append, lab_len]; omega
    rw [List.length_append] at hl
    cases m with
    | zero => omega
    | succ m =>
      have hb : bt s (labs pre).length = l.length := by
        have := bt_drop s (labs pre).length 0
        rw [Nat.add_zero] at this
        rw [← this, hs, List.drop_left]
        show bt (lab l ++ mk ls ++ t) 0 = _
        rw [List.append_assoc]
        exact bt_lab l _ hol
      have hsl : (labs pre).length < s.length := by rw [hs, List.length_append, List.length_append]; omega
      have hcat : labs (pre ++ [l]) ++ mk ls = labs pre ++ mk (l :: ls) := by rw [labs_snoc, List.append_assoc]; rfl
      unfold firstF
      rw [if_pos ⟨hsl, by omega⟩, if_neg (by rw [hb]; omega), hb, ← hll]
      rw [firstF_at s t ls (pre ++ [l]) m (fun x hx => by
        rcases List.mem_append.1 hx with hx | hx
        · exact hp x hx
        · rw [List.mem_singleton.1 hx]; exact hol) (fun x hx => hls x (List.mem_cons_of_mem _ hx)) (by
        rw [hs, ← List.append_assoc, ← List.append_assoc, hcat]) (by rw [hcat, List.length_append]; exact hl) (by omega), hcat]
theorem firstN_of {s : List UInt8} {k : Nat} (hk : k ≤ s.length) (h : isName (s.take k)) : firstN s = k := by
  obtain ⟨h1, ls, h2, h3⟩ := (isName_iff _).1 h
  have hlen : (mk ls).length = k := by rw [← h3, List.length_take]; omega
  have h1 : (mk ls).length ≤ 255 := by rw [← h3]; exact h1
  have := firstF_at s (s.drop k) ls [] 256 (fun l hl => by cases hl) h2 (by show s = [] ++ (mk ls ++ s.drop k); rw [← h3]; simp) (by show ([] ++ mk ls).length ≤ 255; simp; omega) (by omega)
  unfold firstN
  have e : ([] ++ mk ls : List UInt8).length = k := by simpa using hlen
  exact this.trans e
theorem firstN_none {s : List UInt8} (h : ∀ k, k ≤ s.length → k ≤ 255 → ¬ isName (s.take k)) : firstN s = 0 := by
  have hl := firstN_le s
  cases hf : firstN s with
  | zero => rfl
  | succ n =>
    have := firstF_name s 256 0 (by show firstN s ≠ 0; omega)
    exact absurd this (h _ hl.1 hl.2)
def partsR : Option (Nat × Nat × Nat) → SV
  | some p => .tup [.d (.int .i64 (2 * p.1 : Nat)), .d (.int .i64 p.2.1), .d (.int .i64 (4 * p.2.2 : Nat)), .d .tt]
  | none => .tup [.d (.int .i64 0), .d (.int .i64 0), .d (.int .i64 0), .d .ff]
set_option maxHeartbeats 4000000 in
theorem r4parts_ok (t : Int) : FnOk Try.prog 158 [.d (.int .u16 t)] (partsR (formOf t)) := by
  refine fnOk_of_run (TT := TT) (IN := lookI []) TT_ok INok_nil mixed 1000 Try.func158 rfl (enters Try.func158 (by kernel_rfl) rfl) rfl 16 (by kernel_rfl) ?_
  have fin1 : t = 2 ∨ t = 5 ∨ t = 12 → formOf t = some (0, 1, 0) := fun h => by unfold formOf; rw [if_pos h]
  conv => whnf
  refine ⟨fun h1 => ?_, fun h1 => ?_⟩
  · rw [fin1 (.inl (by simpa using h1))]
    conv => whnf
    try (refine brT h1 ?_; conv => whnf)
    repeat' (first | exact True.intro | exact rfl | exact ⟨rfl, rfl, .inr rfl, fun _ _ => rfl⟩ | exact ⟨rfl, rfl, .inl rfl, fun i hi => absurd hi (Nat.not_lt_zero _)⟩ | refine And.intro ?_ ?_)
  simp only [beq_eq_false_iff_ne, ne_eq] at h1
  conv => whnf
  refine ⟨fun h2 => ?_, fun h2 => ?_⟩
  · rw [fin1 (.inr (.inl (by simpa using h2)))]
    conv => whnf
    try (refine brT h2 ?_; conv => whnf)
    repeat' (first | exact True.intro | exact rfl | exact ⟨rfl, rfl, .inr rfl, fun _ _ => rfl⟩ | exact ⟨rfl, rfl, .inl rfl, fun i hi => absurd hi (Nat.not_lt_zero _)⟩ | refine And.intro ?_ ?_)
  simp only [beq_eq_false_iff_ne, ne_eq] at h2
  conv => whnf
  refine ⟨fun h3 => ?_, fun h3 => ?_⟩
  · rw [fin1 (.inr (.inr (by simpa using h3)))]
    conv => whnf
    try (refine brT h3 ?_; conv => whnf)
    repeat' (first | exact True.intro | exact rfl | exact ⟨rfl, rfl, .inr rfl, fun _ _ => rfl⟩ | exact ⟨rfl, rfl, .inl rfl, fun i hi => absurd hi (Nat.not_lt_zero _)⟩ | refine And.intro ?_ ?_)
  simp only [beq_eq_false_iff_ne, ne_eq] at h3
  conv => whnf
  refine ⟨fun h4 => ?_, fun h4 => ?_⟩
  · have : formOf t = some (1, 1, 0) := by unfold formOf; simp at h4; simp [h4]
    rw [this]
    conv => whnf
    repeat' (first | exact True.intro | exact rfl | exact ⟨rfl, rfl, .inr rfl, fun _ _ => rfl⟩ | exact ⟨rfl, rfl, .inl rfl, fun i hi => absurd hi (Nat.not_lt_zero _)⟩ | refine And.intro ?_ ?_)
  simp only [beq_eq_false_iff_ne, ne_eq] at h4
  conv => whnf
  refine ⟨fun h5 => ?_, fun h5 => ?_⟩
  · have : formOf t = some (3, 1, 0) := by unfold formOf; simp at h5; simp [h5]
    rw [this]
    conv => whnf
    repeat' (first | exact True.intro | exact rfl | exact ⟨rfl, rfl, .inr rfl, fun _ _ => rfl⟩ | exact ⟨rfl, rfl, .inl rfl, fun i hi => absurd hi (Nat.not_lt_zero _)⟩ | refine And.intro ?_ ?_)
  simp only [beq_eq_false_iff_ne, ne_eq] at h5
  conv => whnf
  refine ⟨fun h6 => ?_, fun h6 => ?_⟩
  · have : formOf t = some (0, 2, 5) := by unfold formOf; simp at h6; simp [h6]
    rw [this]
    conv => whnf
    repeat' (first | exact True.intro | exact rfl | exact ⟨rfl, rfl, .inr rfl, fun _ _ => rfl⟩ | exact ⟨rfl, rfl, .inl rfl, fun i hi => absurd hi (Nat.not_lt_zero _)⟩ | refine And.intro ?_ ?_)
  simp only [beq_eq_false_iff_ne, ne_eq] at h6
  have : formOf t = none := by unfold formOf; simp [h1, h2, h3, h4, h5, h6]
  rw [this]
  conv => whnf
  repeat' (first | exact True.intro | exact rfl | exact ⟨rfl, rfl, .inr rfl, fun _ _ => rfl⟩ | exact ⟨rfl, rfl, .inl rfl, fun i hi => absurd hi (Nat.not_lt_zero _)⟩ | refine And.intro ?_ ?_)
def firstR (s : List UInt8) : SV := if firstN s = 0 then .tup [.any, .d .ff] else .tup [.d (.str (s.take (firstN s))), .d .tt]
set_option maxRecDepth 100000 in
set_option maxHeartbeats 4000000 in
theorem r4first_ok (s : List UInt8) (_hs : s.length ≤ 100000) : FnOk Try.prog 159 [.d (.str s)] (firstR s) := by
  refine fnOk_of_run (TT := TT) (IN := lookI []) TT_ok INok_nil mixed 1000 Try.func159 rfl (enters Try.func159 (by kernel_rfl) rfl) rfl 22 (by kernel_rfl) ?_
  conv => whnf
  refine .inv Nat (fun i => 1 ≤ i ∧ i ≤ 256 ∧ ∀ j, j < i → j ≤ s.length → ¬ isName (s.take j)) (fun i => [(4, .d (.int .i64 i))]) (fun _ => []) (fun i => 256 - i) ⟨1, [], ⟨Nat.le_refl _, by omega, fun j hj _ h => ?_⟩, ?_⟩ ?_
  · have : j = 0 := by omega
    subst this
    have := h.1
    simp at this
  · conv => whnf
    repeat' (first | exact True.intro | exact rfl | exact fun _ => Iff.rfl | exact fun _ _ => rfl | exact renM_ent rfl _ | refine And.intro ?_ ?_)
  intro i hi
  obtain ⟨h1, h2, h3⟩ := hi
  conv => whnf
  have done_ : (s.length < i ∨ 255 < i) → firstR s = .tup [.any, .d .ff] := fun hc => by
    unfold firstR
    rw [if_pos (firstN_none fun k hk hk2 => h3 k (by omega) hk)]
  refine ⟨fun c1 => ?_, fun c1 => ?_⟩
  · have c1 : (i : Int) ≤ s.length := of_decide_eq_true c1
    conv => whnf
    refine ⟨fun c2 => ?_, fun c2 => ?_⟩
    · have c2 : (i : Int) ≤ 255 := of_decide_eq_true c2
      conv => whnf
      refine ⟨by omega, ?_⟩
      have hsub : sub s 0 (i : Int) = s.take i := by unfold sub; simp
      rw [hsub]
      conv => whnf
      refine .one (.data _ (r1check_ok (s.take i)) rfl rfl ?_)
      by_cases hn : isName (s.take i)
      · have e : firstR s = .tup [.d (.str (s.take i)), .d .tt] := by
          unfold firstR
          rw [firstN_of (by omega) hn, if_neg (by omega)]
        rw [if_pos hn, e]
        conv => whnf
        refine brT rfl ?_
        conv => whnf
        refine ⟨by omega, ?_⟩
        rw [hsub]
        conv => whnf
        repeat' (first | exact True.intro | exact rfl | exact ⟨rfl, rfl, .inr rfl, fun _ _ => rfl⟩ | exact ⟨rfl, rfl, .inl rfl, fun i hi => absurd hi (Nat.not_lt_zero _)⟩ | refine And.intro ?_ ?_)
      · rw [if_neg hn]
        conv => whnf
        refine brF rfl ?_
        conv => whnf
        have hw1 : IntKind.i64.wrap ((i : Int) + 1) = ((i + 1 : Nat) : Int) := by rw [w64_in _ (by omega)]; omega
        refine ⟨i + 1, [], ⟨by omega, by omega, fun j hj hjl => ?_⟩, by omega, ?_⟩
        · by_cases hji : j = i
          · rw [hji]; exact hn
          · exact h3 j (by omega) hjl
        conv => whnf
        rw [hw1]
        repeat' (first | exact True.intro | exact rfl | exact fun _ => Iff.rfl | exact fun _ _ => rfl | exact renM_ent rfl _ | refine And.intro ?_ ?_)
    · have c2 : ¬ (i : Int) ≤ 255 := of_decide_eq_false c2
      rw [done_ (.inr (by omega))]
      conv => whnf
      repeat' (first | exact True.intro | exact rfl | exact ⟨rfl, rfl, .inr rfl, fun _ _ => rfl⟩ | exact ⟨rfl, rfl, .inl rfl, fun i hi => absurd hi (Nat.not_lt_zero _)⟩ | refine And.intro ?_ ?_)
  · have c1 : ¬ (i : Int) ≤ s.length := of_decide_eq_false c1
    rw [done_ (.inl (by omega))]
    conv => whnf
    repeat' (first | exact True.intro | exact rfl | exact ⟨rfl, rfl, .inr rfl, fun _ _ => rfl⟩ | exact ⟨rfl, rfl, .inl rfl, fun i hi => absurd hi (Nat.not_lt_zero _)⟩ | refine And.intro ?_ ?_)
def splitP : Option (List UInt8 × List (List UInt8) × List UInt8) → SV
  | none => .tup [.any, .any, .any, .d .ff]
  | some (x, l, r) => .tup [.d (.str x), .d (.sl (Nat.beq l.length 0) l.length 1 (strs l)), .d (.str r), .d .tt]
structure R4St where
  i : Nat
  l : List (List UInt8)
  r : List UInt8
set_option maxRecDepth 100000 in
set_option maxHeartbeats 4000000 in
theorem r4split_ok (t : Int) (p : Nat × Nat × Nat) (hp : formOf t = some p) (s : List UInt8) (hs : s.length ≤ 100000) : FnOk Try.prog 120 [.d (.int .u16 t), .d (.str s)] (splitP (cutF p.1 p.2.1 p.2.2 s)) := by
  refine fnOk_of_run (TT := TT) (IN := lookI []) TT_ok INok_nil mixed 1000 Try.func120 rfl (enters Try.func120 (by kernel_rfl) rfl) rfl 58 (by kernel_rfl) ?_
  obtain ⟨p1, p2, p3⟩ := formOf_le hp
  have hpt := r4parts_ok t
  rw [hp] at hpt
  conv => whnf
  refine .one (.data _ hpt rfl rfl ?_)
  conv => whnf
  refine ⟨fun h1 => ?_, fun h1 => ?_⟩
  · have h1 : (s.length : Int) < (2 * p.1 : Nat) := of_decide_eq_true h1
    have e : cutF p.1 p.2.1 p.2.2 s = none := by unfold cutF; rw [if_pos (by omega)]
    rw [e]
    conv => whnf
    repeat' (first | exact True.intro | exact rfl | exact ⟨rfl, rfl, .inr rfl, fun _ _ => rfl⟩ | exact ⟨rfl, rfl, .inl rfl, fun i hi => absurd hi (Nat.not_lt_zero _)⟩ | refine And.intro ?_ ?_)
  have h1 : ¬ (s.length : Int) < (2 * p.1 : Nat) := of_decide_eq_false h1
  have hcut : cutF p.1 p.2.1 p.2.2 s = (namesF p.2.1 (s.drop (2 * p.1))).bind fun q => if q.2.length = 4 * p.2.2 then some (s.take (2 * p.1), q.1, q.2) else none := by unfold cutF; rw [if_neg (by omega)]
  have hsub0 : sub s ((2 * p.1 : Nat) : Int) (s.length : Int) = s.drop (2 * p.1) := by
    unfold sub
    rw [Int.toNat_natCast, Int.toNat_natCast, List.take_of_length_le (by rw [List.length_drop]; omega)]
  conv => whnf
  refine ⟨by omega, ?_⟩
  rw [hsub0]
  conv => whnf
  refine .nilT 13 9 1 (fun _ => []) _ _ rfl ?_
  refine .inv R4St (fun x => NAt p.2.1 (s.drop (2 * p.1)) x.i x.l x.r) (fun x => [(12, .d (.str x.r)), (13, .all 0), (14, .d (.int .i64 x.i))]) (fun x => [(0, .row 9 1 x.l.length .iff (strs x.l))]) (fun x => p.2.1 - x.i) ⟨⟨0, [], s.drop (2 * p.1)⟩, [0], NAt.zero _ _, ?_⟩ ?_
  · conv => whnf
    repeat' (first | exact True.intro | exact rfl | (intro i hi; exact absurd hi (Nat.not_lt_zero _)) | exact fun _ _ => rfl | refine And.intro ?_ ?_)
  intro x hN
  conv => whnf
  generalize x.i = i at hN ⊢
  generalize x.l = l at hN ⊢
  generalize x.r = r at hN ⊢
  have hlen := hN.len
  have hile := hN.le
  have hsh := hN.short
  rw [List.length_drop] at hsh
  refine ⟨fun c1 => ?_, fun c1 => ?_⟩
  · have c1 : (i : Int) < p.2.1 := of_decide_eq_true c1
    obtain ⟨s1, s2⟩ := hN.step (by omega)
    have hf := r4first_ok r (by omega)
    have hfl := firstN_le r
    conv => whnf
    by_cases h0 : firstN r = 0
    · have e : cutF p.1 p.2.1 p.2.2 s = none := by rw [hcut, s1 h0]; rfl
      have ef : firstR r = .tup [.any, .d .ff] := by unfold firstR; rw [if_pos h0]
      rw [ef] at hf
      refine .one (.data _ hf rfl rfl ?_)
      rw [e]
      conv => whnf
      repeat' (first | exact True.intro | exact rfl | exact ⟨rfl, rfl, .inr rfl, fun _ _ => rfl⟩ | exact ⟨rfl, rfl, .inl rfl, fun i hi => absurd hi (Nat.not_lt_zero _)⟩ | refine And.intro ?_ ?_)
    · have ef : firstR r = .tup [.d (.str (r.take (firstN r))), .d .tt] := by unfold firstR; rw [if_neg h0]
      rw [ef] at hf
      have htl : (r.take (firstN r)).length = firstN r := by rw [List.length_take]; omega
      have hsub1 : sub r ((firstN r : Nat) : Int) (r.length : Int) = r.drop (firstN r) := by
        unfold sub
        rw [Int.toNat_natCast, Int.toNat_natCast, List.take_of_length_le (by rw [List.length_drop]; omega)]
      refine .one (.data _ hf rfl rfl ?_)
      conv => whnf
      refine ⟨by omega, ?_⟩
      conv => whnf
      rw [htl]
      refine ⟨by omega, ?_⟩
      rw [hsub1]
      have hw1 : IntKind.i64.wrap ((i : Int) + 1) = ((i + 1 : Nat) : Int) := by rw [w64_in _ (by omega)]; omega
      conv => whnf
      refine ⟨⟨i + 1, l ++ [r.take (firstN r)], r.drop (firstN r)⟩, [2], s2 h0, by show p.2.1 - (i + 1) < p.2.1 - i; omega, ?_⟩
      conv => whnf
      rw [hw1]
      repeat' (first | exact True.intro | exact rfl | refine And.intro ?_ ?_)
      · simp
      · exact strs_cat _ _ _ rfl
  · have c1 : ¬ (i : Int) < p.2.1 := of_decide_eq_false c1
    have hi : i = p.2.1 := by omega
    subst hi
    have hl := hN.last
    have hsub2 : sub s 0 ((2 * p.1 : Nat) : Int) = s.take (2 * p.1) := by unfold sub; rw [Int.toNat_natCast]; simp
    conv => whnf
    refine ⟨by omega, ?_⟩
    rw [hsub2]
    conv => whnf
    by_cases hr : r.length = 4 * p.2.2
    · have e : cutF p.1 p.2.1 p.2.2 s = some (s.take (2 * p.1), l, r) := by rw [hcut, hl]; show (if r.length = 4 * p.2.2 then _ else _) = _; rw [if_pos hr]
      rw [e]
      conv => whnf
      refine ⟨rfl, ⟨rfl, rfl, .inr rfl, fun _ _ => rfl⟩, rfl, ?_, True.intro⟩
      show ((r.length : Int) == ((4 * p.2.2 : Nat) : Int)) = true
      simp
      omega
    · have e : cutF p.1 p.2.1 p.2.2 s = none := by rw [hcut, hl]; show (if r.length = 4 * p.2.2 then _ else _) = _; rw [if_neg hr]
      rw [e]
      conv => whnf
      refine ⟨True.intro, True.intro, True.intro, ?_, True.intro⟩
      show ((r.length : Int) == ((4 * p.2.2 : Nat) : Int)) = false
      simp
      omega
set_option maxRecDepth 100000 in
set_option maxHeartbeats 4000000 in
theorem r4texts_ok (s : List UInt8) (hs : s.length ≤ 100000) : FnOk Try.prog 157 [.d (.str s)] (.tup [.any, .d (.bool (textsOk s))]) := by
  refine fnOk_of_run (TT := TT) (IN := lookI []) TT_ok INok_nil mixed 1000 Try.func157 rfl (enters Try.func157 (by kernel_rfl) rfl) rfl 30 (by kernel_rfl) ?_
  conv => whnf
  refine .nilT 4 9 1 (fun _ => []) _ _ rfl ?_
  conv => whnf
  refine .inv (Nat × List (List UInt8)) (fun p => TAt s p.1 p.2) (fun p => [(0, .d (.str (s.drop p.1))), (4, .all 0)]) (fun p => [(0, .row 9 1 p.2.length .iff (strs p.2))]) (fun p => s.length - p.1) ⟨(0, []), [0], TAt.zero s, ?_⟩ ?_
  · conv => whnf
    repeat' (first | exact True.intro | exact rfl | refine And.intro ?_ ?_)
    intro i hi
    exact absurd hi (by simp)
  intro p hk
  have hk0 : p.1 ≤ s.length := hk.1
  have hk2 : p.2.length ≤ p.1 := hk.2.1
  have hby := bt_lt s p.1
  have hlen : (s.drop p.1).length = s.length - p.1 := by simp
  conv => whnf
  refine ⟨fun hne => ?_, fun heq => ?_⟩
  · have hlt : p.1 < s.length := by
      rcases Nat.lt_or_ge p.1 s.length with e | e
      · exact e
      · rw [List.drop_eq_nil_of_le e] at hne; simp at hne
    obtain ⟨e1, e2⟩ := TAt.step hk hlt
    have hb0 : byteAt (s.drop p.1) 0 = (bt s p.1 : Int) := by
      rw [show (0 : Int) = ((0 : Nat) : Int) from rfl, bt_eq]
      simp [bt]
    conv => whnf
    refine ⟨by omega, ?_⟩
    have hsz : IntKind.i64.wrap (1 + IntKind.i64.wrap (byteAt (s.drop p.1) 0)) = ((1 + bt s p.1 : Nat) : Int) := by rw [hb0]; simp (disch := omega) only [w64_in]; omega
    conv => whnf
    rw [hsz]
    refine ⟨fun hgt => ?_, fun hle => ?_⟩
    · conv => whnf
      refine ⟨True.intro, ?_, True.intro⟩
      have : textsOk s = false := by unfold textsOk; rw [e1 (by simp at hgt; omega)]
      rw [this]
      exact rfl
    · have hle' : p.1 + 1 + bt s p.1 ≤ s.length := by simp at hle; omega
      conv => whnf
      refine ⟨by omega, ?_⟩
      conv => whnf
      refine ⟨by omega, ?_⟩
      conv => whnf
      refine ⟨by omega, ?_⟩
      conv => whnf
      refine ⟨(p.1 + 1 + bt s p.1, p.2 ++ [(s.drop (p.1 + 1)).take (bt s p.1)]), [2], e2 hle', by show s.length - (p.1 + 1 + bt s p.1) < s.length - p.1; omega, ?_⟩
      conv => whnf
      repeat' (first | exact True.intro | exact rfl | refine And.intro ?_ ?_)
      · refine congrArg SV.d (congrArg DV.str ?_)
        show sub (s.drop p.1) _ _ = s.drop (p.1 + 1 + bt s p.1)
        simp only [sub, Int.toNat_natCast, List.drop_drop]
        rw [List.take_of_length_le (by simp; omega)]
        congr 1
        omega
      · simp
      · refine strs_cat _ _ _ ?_
        show [DV.str _] = [DV.str _]
        congr 2
        simp only [sub, Int.toNat_natCast, List.drop_drop]
        rw [show (1 : Int).toNat = 1 from rfl]
        congr 1
        omega
  · have hke : p.1 = s.length := by
      simp at heq
      omega
    conv => whnf
    refine ⟨True.intro, ?_, True.intro⟩
    have : textsOk s = decide (0 < p.2.length) := by unfold textsOk; rw [TAt.last hk hke]
    rw [this]
    refine congrArg DV.bool ?_
    simp
set_option maxRecDepth 100000 in
set_option maxHeartbeats 4000000 in
theorem r4check_ok (t : Int) (s : List UInt8) (hs : s.length ≤ 100000) : FnOk Try.prog 117 [.d (.int .u16 t), .d (.str s)] (.d (.int .i64 (errno (rcheck t s)))) := by
  refine fnOk_of_run (TT := TT) (IN := lookI []) TT_ok INok_nil mixed 1000 Try.func117 rfl (enters Try.func117 (by kernel_rfl) rfl) rfl 49 (by kernel_rfl) ?_
  conv => whnf
  refine ⟨fun h1 => ?_, fun h1 => ?_⟩
  · have h1 : t = 1 := by simpa using h1
    have hg : rgood t s = ((s.length : Int) == ((4 : Nat) : Int)) := by unfold rgood; rw [if_pos h1, lenEq]
    conv => whnf
    refine ⟨fun k1 => ?_, fun k1 => ?_⟩
    · have hgood : rgood t s = false := by rw [hg]; simpa using k1
      have e : rcheck t s = false := by unfold rcheck; rw [hgood, Bool.and_false]
      rw [e]
      conv => whnf
      exact rfl
    have hgood : rgood t s = true := by rw [hg]; simpa using k1
    conv => whnf
    refine ⟨fun k2 => ?_, fun k2 => ?_⟩
    · have k2 : (s.length : Int) > 4096 := of_decide_eq_true k2
      have e : rcheck t s = false := by unfold rcheck; rw [decide_eq_false (by omega)]; rfl
      rw [e]
      conv => whnf
      exact rfl
    · have k2 : ¬ (s.length : Int) > 4096 := of_decide_eq_false k2
      have e : rcheck t s = true := by unfold rcheck; rw [decide_eq_true (by omega), hgood]; rfl
      rw [e]
      conv => whnf
      exact rfl
  have h1 : ¬ t = 1 := by simpa using h1
  conv => whnf
  refine ⟨fun h2 => ?_, fun h2 => ?_⟩
  · have h2 : t = 28 := by simpa using h2
    have hg : rgood t s = ((s.length : Int) == ((16 : Nat) : Int)) := by unfold rgood; rw [if_neg h1, if_pos h2, lenEq]
    conv => whnf
    refine ⟨fun k1 => ?_, fun k1 => ?_⟩
    · have hgood : rgood t s = false := by rw [hg]; simpa using k1
      have e : rcheck t s = false := by unfold rcheck; rw [hgood, Bool.and_false]
      rw [e]
      conv => whnf
      exact rfl
    have hgood : rgood t s = true := by rw [hg]; simpa using k1
    conv => whnf
    refine ⟨fun k2 => ?_, fun k2 => ?_⟩
    · have k2 : (s.length : Int) > 4096 := of_decide_eq_true k2
      have e : rcheck t s = false := by unfold rcheck; rw [decide_eq_false (by omega)]; rfl
      rw [e]
      conv => whnf
      exact rfl
    · have k2 : ¬ (s.length : Int) > 4096 := of_decide_eq_false k2
      have e : rcheck t s = true := by unfold rcheck; rw [decide_eq_true (by omega), hgood]; rfl
      rw [e]
      conv => whnf
      exact rfl
  have h2 : ¬ t = 28 := by simpa using h2
  conv => whnf
  refine ⟨fun h3 => ?_, fun h3 => ?_⟩
  · have h3 : t = 16 := by simpa using h3
    have hg : rgood t s = textsOk s := by unfold rgood; rw [if_neg h1, if_neg h2, if_pos h3]
    conv => whnf
    refine .one (.data _ (r4texts_ok s hs) rfl rfl ?_)
    conv => whnf
    refine ⟨fun k1 => ?_, fun k1 => ?_⟩
    · have hgood : rgood t s = false := by rw [hg]; simpa using k1
      have e : rcheck t s = false := by unfold rcheck; rw [hgood, Bool.and_false]
      rw [e]
      conv => whnf
      exact rfl
    have hgood : rgood t s = true := by rw [hg]; simpa using k1
    conv => whnf
    refine ⟨fun k2 => ?_, fun k2 => ?_⟩
    · have k2 : (s.length : Int) > 4096 := of_decide_eq_true k2
      have e : rcheck t s = false := by unfold rcheck; rw [decide_eq_false (by omega)]; rfl
      rw [e]
      conv => whnf
      exact rfl
    · have k2 : ¬ (s.length : Int) > 4096 := of_decide_eq_false k2
      have e : rcheck t s = true := by unfold rcheck; rw [decide_eq_true (by omega), hgood]; rfl
      rw [e]
      conv => whnf
      exact rfl
  have h3 : ¬ t = 16 := by simpa using h3
  conv => whnf
  have hpt := r4parts_ok t
  cases hf : formOf t with
  | none =>
    have hgood : rgood t s = true := by unfold rgood; rw [if_neg h1, if_neg h2, if_neg h3, hf]
    rw [hf] at hpt
    refine .one (.data _ hpt rfl rfl ?_)
    conv => whnf
    refine ⟨fun k2 => ?_, fun k2 => ?_⟩
    · have k2 : (s.length : Int) > 4096 := of_decide_eq_true k2
      have e : rcheck t s = false := by unfold rcheck; rw [decide_eq_false (by omega)]; rfl
      rw [e]
      conv => whnf
      exact rfl
    · have k2 : ¬ (s.length : Int) > 4096 := of_decide_eq_false k2
      have e : rcheck t s = true := by unfold rcheck; rw [decide_eq_true (by omega), hgood]; rfl
      rw [e]
      conv => whnf
      exact rfl
  | some p =>
    rw [hf] at hpt
    have hsp := r4split_ok t p hf s hs
    refine .one (.data _ hpt rfl rfl ?_)
    conv => whnf
    cases hc : cutF p.1 p.2.1 p.2.2 s with
    | none =>
      have hgood : rgood t s = false := by unfold rgood; rw [if_neg h1, if_neg h2, if_neg h3, hf]; show (cutF p.1 p.2.1 p.2.2 s).isSome = false; rw [hc]; rfl
      have e : rcheck t s = false := by unfold rcheck; rw [hgood, Bool.and_false]
      rw [hc] at hsp
      refine .one (.data _ hsp rfl rfl ?_)
      rw [e]
      conv => whnf
      repeat (first | (refine brF rfl ?_; conv => whnf) | (refine brT rfl ?_; conv => whnf))
      try exact rfl
    | some q =>
      obtain ⟨x, l, r⟩ := q
      have hgood : rgood t s = true := by unfold rgood; rw [if_neg h1, if_neg h2, if_neg h3, hf]; show (cutF p.1 p.2.1 p.2.2 s).isSome = true; rw [hc]; rfl
      rw [hc] at hsp
      refine .one (.data _ hsp rfl rfl ?_)
      conv => whnf
      refine ⟨fun k2 => ?_, fun k2 => ?_⟩
      · have k2 : (s.length : Int) > 4096 := of_decide_eq_true k2
        have e : rcheck t s = false := by unfold rcheck; rw [decide_eq_false (by omega)]; rfl
        rw [e]
        conv => whnf
        exact rfl
      · have k2 : ¬ (s.length : Int) > 4096 := of_decide_eq_false k2
        have e : rcheck t s = true := by unfold rcheck; rw [decide_eq_true (by omega), hgood]; rfl
        rw [e]
        conv => whnf
        exact rfl
end Go.Proofs.Ytdphkaiijlekhaa
namespace Go.Proofs.Ytdphkaiijlekhaa
open Go Go.Eng
theorem formOf_pos {t : Int} {p : Nat × Nat × Nat} (h : formOf t = some p) : 0 < p.2.1 := by
  unfold formOf at h
  repeat' (split at h)
  all_goals first | (cases h; decide) | cases h
theorem formOf_typ {t : Int} {p : Nat × Nat × Nat} (h : formOf t = some p) : t ≠ 1 ∧ t ≠ 28 ∧ t ≠ 16 := by
  refine ⟨?_, ?_, ?_⟩ <;> (rintro rfl; cases h)
def namesR : Option (List UInt8 × List (List UInt8) × List UInt8) → SV
  | none => nilS
  | some (_, l, _) => .d (.sl (Nat.beq l.length 0) l.length 1 (strs l))
def lookP (t : Int) (s : List UInt8) : Option (List UInt8 × List (List UInt8) × List UInt8) := (lookF t s).map (·.2)
theorem lookP_some {t : Int} {s : List UInt8} {p : Nat × Nat × Nat} (hf : formOf t = some p) (hr : rcheck t s = true) : ∃ q, cutF p.1 p.2.1 p.2.2 s = some q ∧ lookP t s = some q := by
  obtain ⟨n1, n2, n3⟩ := formOf_typ hf
  unfold rcheck rgood at hr
  rw [if_neg n1, if_neg n2, if_neg n3, hf] at hr
  simp only [Bool.and_eq_true, decide_eq_true_eq] at hr
  obtain ⟨q, hq⟩ := Option.isSome_iff_exists.1 hr.2
  refine ⟨q, hq, ?_⟩
  unfold lookP lookF
  rw [if_pos hr.1, hf]
  show Option.map _ ((cutF p.1 p.2.1 p.2.2 s).map _) = _
  rw [hq]; rfl
theorem lookP_bad {t : Int} {s : List UInt8} {p : Nat × Nat × Nat} (hf : formOf t = some p) (hr : rcheck t s = false) : lookP t s = none := by
  obtain ⟨n1, n2, n3⟩ := formOf_typ hf
  unfold rcheck rgood at hr
  rw [if_neg n1, if_neg n2, if_neg n3, hf] at hr
  unfold lookP lookF
  split
  · rename_i h
    rw [decide_eq_true h, Bool.true_and] at hr
    have : cutF p.1 p.2.1 p.2.2 s = none := by
      have hr : (cutF p.1 p.2.1 p.2.2 s).isSome = false := hr
      cases e : cutF p.1 p.2.1 p.2.2 s
      · rfl
      · rw [e] at hr; cases hr
    rw [hf]
    show Option.map _ ((cutF p.1 p.2.1 p.2.2 s).map _) = _
    rw [this]; rfl
  · rfl
theorem lookP_form {t : Int} {s : List UInt8} (hf : formOf t = none) : lookP t s = none := by
  unfold lookP lookF
  rw [hf]; split <;> rfl
set_option maxRecDepth 100000
set_option maxHeartbeats 4000000 in
theorem r4names_ok (t : Int) (s : List UInt8) (hs : s.length ≤ 100000) : FnOk Try.prog 119 [.d (.int .u16 t), .d (.str s)] (namesR (lookP t s)) := by
  refine fnOk_of_run (TT := TT) (IN := lookI []) TT_ok INok_nil mixed 1000 Try.func119 rfl (enters Try.func119 (by kernel_rfl) rfl) rfl 35 (by kernel_rfl) ?_
  have hpt := r4parts_ok t
  cases hf : formOf t with
  | none =>
    rw [hf] at hpt
    rw [lookP_form hf]
    conv => whnf
    refine .one (.data _ hpt rfl rfl ?_)
    conv => whnf
    repeat (first | (refine brT rfl ?_; conv => whnf))
    try exact rfl
    try repeat' (first | exact True.intro | exact rfl | exact ⟨rfl, rfl, .inr rfl, fun _ _ => rfl⟩ | exact ⟨rfl, rfl, .inl rfl, fun i hi => absurd hi (Nat.not_lt_zero _)⟩ | refine And.intro ?_ ?_)
  | some p =>
    rw [hf] at hpt
    conv => whnf
    refine .one (.data _ hpt rfl rfl ?_)
    conv => whnf
    refine .one (.data _ (r4check_ok t s hs) rfl rfl ?_)
    cases hr : rcheck t s with
    | false =>
      rw [lookP_bad hf hr]
      conv => whnf
      repeat (first | (refine brT rfl ?_; conv => whnf))
      try exact rfl
      try repeat' (first | exact True.intro | exact rfl | exact ⟨rfl, rfl, .inr rfl, fun _ _ => rfl⟩ | exact ⟨rfl, rfl, .inl rfl, fun i hi => absurd hi (Nat.not_lt_zero _)⟩ | refine And.intro ?_ ?_)
    | true =>
      obtain ⟨q, hq, hl⟩ := lookP_some hf hr
      rw [hl]
      conv => whnf
      refine brF rfl ?_
      conv => whnf
      have hsp := r4split_ok t p hf s hs
      rw [hq] at hsp
      refine .one (.data _ hsp rfl rfl ?_)
      conv => whnf
      exact ⟨rfl, rfl, .inr rfl, fun _ _ => rfl⟩
theorem rfold_none {t : Int} {s : List UInt8} (h : lookP t s = none) : rfold t s = s := by
  unfold lookP at h
  unfold rfold
  cases e : lookF t s with
  | none => rfl
  | some q => rw [e] at h; cases h
theorem rfold_some {t : Int} {s x r : List UInt8} {l : List (List UInt8)} (h : lookP t s = some (x, l, r)) : rfold t s = x ++ fold l.flatten ++ r := by
  unfold lookP at h
  unfold rfold
  cases e : lookF t s with
  | none => rw [e] at h; cases h
  | some q =>
    rw [e] at h
    obtain ⟨q1, q2⟩ := q
    have h : q2 = (x, l, r) := Option.some.inj h
    subst h
    show x ++ fold (Lib.join l []) ++ r = _
    rw [join_nil]
set_option maxHeartbeats 4000000 in
theorem r4fold_ok (t : Int) (s : List UInt8) (hs : s.length ≤ 100000) : FnOk Try.prog 67 [.d (.int .u16 t), .d (.str s)] (.d (.str (rfold t s))) := by
  refine fnOk_of_run (TT := TT) (IN := lookI []) TT_ok INok_nil mixed 1000 Try.func67 rfl (enters Try.func67 (by kernel_rfl) rfl) rfl 39 (by kernel_rfl) ?_
  conv => whnf
  refine .one (.data _ (r4names_ok t s hs) (by cases lookP t s <;> rfl) (by cases lookP t s <;> rfl) ?_)
  cases hl : lookP t s with
  | none =>
    rw [rfold_none hl]
    conv => whnf
    refine brT rfl ?_
    conv => whnf
    try exact rfl
  | some q =>
    obtain ⟨x, l, r⟩ := q
    have hft : ∃ p, formOf t = some p := by
      cases e : formOf t with
      | none => rw [lookP_form e] at hl; cases hl
      | some p => exact ⟨p, rfl⟩
    obtain ⟨p, hf⟩ := hft
    have hr : rcheck t s = true := by
      cases e : rcheck t s
      · rw [lookP_bad hf e] at hl; cases hl
      · rfl
    obtain ⟨q, hq, hl2⟩ := lookP_some hf hr
    rw [hl] at hl2
    have hqe := Option.some.inj hl2
    subst hqe
    have hcat : l.length = p.2.1 ∧ x.length + (l.flatten.length + r.length) ≤ 100000 := by
      unfold cutF at hq
      split at hq
      · cases hq
      · rename_i h2
        cases e : namesF p.2.1 (s.drop (2 * p.1)) with
        | none => rw [e] at hq; cases hq
        | some w =>
          rw [e] at hq
          simp only [Option.bind_some] at hq
          split at hq
          · simp only [Option.some.injEq, Prod.mk.injEq] at hq
            obtain ⟨rfl, rfl, rfl⟩ := hq
            obtain ⟨e1, e2⟩ := namesF_len _ _ w.1 w.2 e
            refine ⟨e1, ?_⟩
            rw [e2]
            simp; omega
          · cases hq
    have hpos := formOf_pos hf
    have hle100 := (formOf_le hf).2.1
    have hfol : ∀ z : List UInt8, (fold z).length = z.length := fold_len
    rw [rfold_some hl]
    conv => whnf
    refine brF (by cases l with | nil => simp at hcat; omega | cons a l => simp; omega) ?_
    conv => whnf
    have hsp := r4split_ok t p hf s hs
    rw [hq] at hsp
    refine .one (.data _ hsp rfl rfl ?_)
    conv => whnf
    refine .inv Nat (fun i => i ≤ l.length) (fun i => [(29, iV i), (6, .d (.str (x ++ fold (l.take i).flatten)))]) (fun _ => []) (fun i => l.length - i) ⟨0, [], Nat.zero_le _, ?_⟩ ?_
    · conv => whnf
      rw [show x ++ fold (l.take 0).flatten = x by simp [fold]]
      repeat' (first | exact True.intro | exact rfl | exact fun _ => Iff.rfl | exact fun _ _ => rfl | exact renM_ent rfl _ | refine And.intro ?_ ?_)
    intro i hi
    conv => whnf
    refine ⟨fun c5 => ?_, fun c5 => ?_⟩
    · have c5' : i < l.length := (by have h : (i : Int) < l.length := of_decide_eq_true c5; omega)
      have hw1 : IntKind.i64.wrap ((i : Int) + 1) = ((i + 1 : Nat) : Int) := by rw [w64_in _ (by omega)]; omega
      obtain ⟨y, hy⟩ : ∃ y, l[i]?.getD [] = y := ⟨_, rfl⟩
      have hly : l[i] = y := by rw [← hy, List.getElem?_eq_getElem c5']; rfl
      have htk : (l.take (i + 1)).flatten = (l.take i).flatten ++ y := by
        rw [List.take_add_one, List.getElem?_eq_getElem c5', hly]; simp
      have hle : (l.take i).flatten.length + y.length ≤ 100000 := by
        have h1 : l.flatten = (l.take (i + 1)).flatten ++ (l.drop (i + 1)).flatten := by rw [← List.flatten_append, List.take_append_drop]
        have h2 := congrArg List.length h1
        rw [htk] at h2
        simp only [List.length_append] at h2
        omega
      conv => whnf
      refine ⟨by omega, ?_⟩
      conv => whnf
      rw [Int.toNat_natCast, hy]
      refine .one (.data _ (r1fold_ok y (by omega)) rfl rfl ?_)
      conv => whnf
      refine ⟨by rw [List.length_append, hfol, hfol]; omega, ?_⟩
      conv => whnf
      rw [hw1]
      refine ⟨i + 1, [], c5', by omega, ?_⟩
      rw [htk, show x ++ fold ((l.take i).flatten ++ y) = (x ++ fold (l.take i).flatten) ++ fold y by unfold fold; rw [List.map_append, List.append_assoc]]
      conv => whnf
      repeat' (first | exact True.intro | exact rfl | exact fun _ => Iff.rfl | exact fun _ _ => rfl | exact renM_ent rfl _ | refine And.intro ?_ ?_)
    · have hia : i = l.length := (by have h : ¬ (i : Int) < l.length := of_decide_eq_false c5; omega)
      subst hia
      rw [List.take_length]
      conv => whnf
      refine ⟨by rw [List.length_append, hfol]; omega, ?_⟩
      conv => whnf
      try exact rfl
end Go.Proofs.Ytdphkaiijlekhaa
namespace Go.Proofs.Ytdphkaiijlekhaa
open Go Go.Eng
set_option maxRecDepth 100000
set_option maxHeartbeats 4000000 in
theorem r5check_ok (r : RR) (hd : r.d.length ≤ 100000) : FnOk Try.prog 65 [r.V] (.d (.int .i64 (errno r.check))) := by
  refine fnOk_of_run (TT := TT) (IN := lookI []) TT_ok INok_nil mixed 1000 Try.func65 rfl (enters Try.func65 (by kernel_rfl) rfl) rfl 24 (by kernel_rfl) ?_
  conv => whnf
  refine .one (.data _ (r1check_ok r.nm) rfl rfl ?_)
  by_cases hn : isName r.nm
  · rw [if_pos hn]
    conv => whnf
    refine brF rfl ?_
    conv => whnf
    refine .one (.data _ (r4check_ok r.ty r.d hd) rfl rfl ?_)
    cases hc : rcheck r.ty r.d
    · have e : r.check = false := by simp [RR.check, hc]
      rw [e]
      conv => whnf
      repeat (first | (refine brF rfl ?_; conv => whnf) | (refine brT rfl ?_; conv => whnf))
      try exact rfl
    · conv => whnf
      refine brF rfl ?_
      conv => whnf
      refine ⟨fun c1 => ?_, fun c1 => ?_⟩
      · have c1' : ¬ r.ty = 41 := by simpa using c1
        conv => whnf
        refine ⟨fun c2 => ?_, fun c2 => ?_⟩
        · have c2' : ¬ r.ttl ≤ 2147483647 := by have : r.ttl > 2147483647 := of_decide_eq_true c2
                                                omega
          have e : r.check = false := by simp [RR.check, c1', c2']
          rw [e]
          conv => whnf
          exact rfl
        · have c2' : r.ttl ≤ 2147483647 := by have : ¬ r.ttl > 2147483647 := of_decide_eq_false c2
                                              omega
          have e : r.check = true := by simp [RR.check, hn, hc, c2']
          rw [e]
          conv => whnf
          exact rfl
      · have c1' : r.ty = 41 := by simpa using c1
        have e : r.check = true := by
          simp only [RR.check, hn, hc, decide_true, Bool.true_and, Bool.or_eq_true, beq_iff_eq]
          exact .inr c1'
        rw [e]
        conv => whnf
        exact rfl
  · rw [if_neg hn]
    have e : r.check = false := by simp [RR.check, hn]
    rw [e]
    conv => whnf
    repeat (first | (refine brF rfl ?_; conv => whnf) | (refine brT rfl ?_; conv => whnf))
    try exact rfl
end Go.Proofs.Ytdphkaiijlekhaa
namespace Go.Proofs.Ytdphkaiijlekhaa
open Go Go.Eng
theorem insF_at (F : List UInt8 → List UInt8) (x : List UInt8) : ∀ (D : List (List UInt8)) (k : Nat), k ≤ D.length → (∀ i, i < k → Op.bytesLess (F (D[i]?.getD [])) (F x) = true) → (k = D.length ∨ Op.bytesLess (F (D[k]?.getD [])) (F x) = false) →
    insF F D x = if k < D.length ∧ F (D[k]?.getD []) = F x then D else D.take k ++ x :: D.drop k
  | [], k => fun h _ _ => by
    have : k = 0 := by simpa using h
    subst this
    rw [if_neg (by simp)]; rfl
  | d :: D, 0 => fun _ _ h => by
    have h : Op.bytesLess (F d) (F x) = false := h.resolve_left (by simp)
    unfold insF
    rw [h, if_neg (by simp)]
    by_cases e : F d = F x
    · rw [if_pos e, if_pos ⟨by simp, e⟩]
    · rw [if_neg e, if_neg (fun h => e h.2)]; rfl
  | d :: D, k + 1 => fun h1 h2 h3 => by
    have h0 : Op.bytesLess (F d) (F x) = true := h2 0 (by omega)
    have ih := insF_at F x D k (by simpa using h1) (fun i hi => h2 (i + 1) (by omega)) (by
      rcases h3 with h | h
      · left; simpa using h
      · right; exact h)
    unfold insF
    rw [h0, if_pos rfl, ih]
    have e : (k + 1 < (d :: D).length ∧ F ((d :: D)[k + 1]?.getD []) = F x) ↔ (k < D.length ∧ F (D[k]?.getD []) = F x) := by simp
    by_cases hc : k < D.length ∧ F (D[k]?.getD []) = F x
    · rw [if_pos hc, if_pos (e.2 hc)]
    · rw [if_neg hc, if_neg (fun h => hc (e.1 h))]; rfl
def refP (nm : List UInt8) (t : Int) (r : RR) : Bool := r.check && (r.cl == 1 && (r.ty == t && sameN r.nm nm))
def leastR (P : List RR) : Int := if P.isEmpty then 0 else minOf (P.getD 0 default).ttl P
def firstsR (t : Int) (P : List RR) : List (List UInt8) := firstsOf (rfold t) (P.map (·.d))
theorem leastR_next (P : List RR) (r : RR) : leastR (P ++ [r]) = if P.isEmpty = true ∨ r.ttl < leastR P then r.ttl else leastR P := by
  cases P with
  | nil =>
    show (if r.ttl < r.ttl then r.ttl else r.ttl) = _
    rw [if_pos (show ([] : List RR).isEmpty = true ∨ _ from .inl rfl)]
    split <;> rfl
  | cons a P =>
    have e : leastR (a :: P) = minOf a.ttl (a :: P) := rfl
    have e2 : leastR ((a :: P) ++ [r]) = if r.ttl < minOf a.ttl (a :: P) then r.ttl else minOf a.ttl (a :: P) := by
      show minOf a.ttl ((a :: P) ++ [r]) = _
      unfold minOf
      rw [List.foldl_append]; rfl
    rw [e, e2]
    by_cases h : r.ttl < minOf a.ttl (a :: P)
    · rw [if_pos h, if_pos (.inr h)]
    · rw [if_neg h, if_neg]
      rintro (h' | h')
      · cases h'
      · exact h h'
theorem firstsR_next (t : Int) (P : List RR) (r : RR) : firstsR t (P ++ [r]) = insF (rfold t) (firstsR t P) r.d := by
  unfold firstsR firstsOf
  rw [List.map_append, List.foldl_append]; rfl
theorem ins_row (D : List (List UInt8)) (x : List UInt8) (k : Nat) (hk : k ≤ D.length) (i : Nat) : catF (0 + ((k : Int) - 0).toNat + 1) (catF (0 + ((k : Int) - 0).toNat) (catF 0 (chunk [] 1) fun j => strs D (Int.toNat 0 + j)) (chunk [DV.str x] 1)) (fun j => strs D ((k : Int).toNat + j)) i = strs (D.take k ++ x :: D.drop k) i := by
  rw [show 0 + ((k : Int) - 0).toNat = k by omega, Int.toNat_natCast]
  unfold catF strs
  rcases Nat.lt_trichotomy i k with h | h | h
  · rw [if_pos (by omega), if_pos h, if_neg (by omega)]
    rw [List.getElem?_append_left (by simp; omega), List.getElem?_take_of_lt h]
    simp
  · subst h
    rw [if_pos (by omega), if_neg (by omega), Nat.sub_self]
    rw [List.getElem?_append_right (by simp; omega)]
    rw [show i - (D.take i).length = 0 by simp; omega]
    rfl
  · rw [if_neg (by omega)]
    rw [List.getElem?_append_right (by simp; omega)]
    rw [show i - (D.take k).length = (i - k - 1) + 1 by simp; omega]
    rw [List.getElem?_cons_succ, List.getElem?_drop]
    rw [show i - (k + 1) = i - k - 1 by omega]
theorem insF_len (F : List UInt8 → List UInt8) (x : List UInt8) : ∀ D : List (List UInt8), (insF F D x).length ≤ D.length + 1
  | [] => by simp [insF]
  | d :: D => by
    have := insF_len F x D
    unfold insF
    split
    · simp; omega
    · split
      · simp
      · simp
theorem firsts_len (F : List UInt8 → List UInt8) (xs : List (List UInt8)) : (firstsOf F xs).length ≤ xs.length := by
  have h : ∀ (ys D : List (List UInt8)), (ys.foldl (insF F) D).length ≤ D.length + ys.length := by
    intro ys
    induction ys with
    | nil => intro D; simp
    | cons y ys ih =>
      intro D
      have h1 := ih (insF F D y)
      have h2 := insF_len F y D
      simp only [List.foldl_cons, List.length_cons]
      omega
  have := h xs []
  simpa [firstsOf] using this
def findR13 (nm : List UInt8) (t : Int) (l : List RR) : St × Int := if (l.filter (refP nm t)).isEmpty then (St.no, 3) else (⟨nm, t, leastR (l.filter (refP nm t)), false, (firstsR t (l.filter (refP nm t))).take 64⟩, 0)
set_option maxRecDepth 100000
set_option maxHeartbeats 8000000 in
theorem r13find_ok (nm : List UInt8) (t : Int) (z : Bool) (l : List RR) (hn : l.length ≤ 100000) (hl : ∀ r ∈ l, r.d.length ≤ 100000) : FnOk Try.prog 21 [.d (.str nm), .d (.int .u16 t), .d (rrsD z l)] (.tup [(findR13 nm t l).1.V, .d (.int .i64 (findR13 nm t l).2)]) := by
  refine fnOk_of_run (TT := TT) (IN := lookI []) TT_ok INok_nil mixed 1000 Try.func21 rfl (enters Try.func21 (by kernel_rfl) rfl) rfl 114 (by kernel_rfl) ?_
  conv => whnf
  refine .nilT 8 9 1 (strs []) _ _ rfl ?_
  conv => whnf
  refine .inv Nat (fun i => i ≤ l.length) (fun i => [(18, iV i), (8, .all 1), (9, .d (.int .u32 (leastR ((l.take i).filter (refP nm t))))), (10, iV ((l.take i).filter (refP nm t)).length)]) (fun i => [(1, .row 9 1 (firstsR t ((l.take i).filter (refP nm t))).length .may (strs (firstsR t ((l.take i).filter (refP nm t)))))]) (fun i => l.length - i) ⟨0, [0, 1], Nat.zero_le _, ?_⟩ ?_
  · conv => whnf
    repeat' (first | exact True.intro | exact rfl | exact subZ_self _ | exact Or.inr rfl | exact fun _ _ => rfl | exact fun _ h => absurd h (Nat.not_lt_zero _) | refine And.intro ?_ ?_)
  intro i hi
  conv => whnf
  refine ⟨fun h1 => ?_, fun h1 => ?_⟩
  · have h1 : i < l.length := by have h : (i : Int) < l.length := of_decide_eq_true h1
                                 omega
    obtain ⟨r, hr⟩ : ∃ r, l.getD i default = r := ⟨_, rfl⟩
    have hrl : l[i]? = some r := by rw [← hr, List.getD, List.getElem?_eq_getElem h1]; rfl
    have hrd := hl r (List.mem_of_getElem? hrl)
    have htk : l.take (i + 1) = l.take i ++ [r] := by rw [List.take_add_one, hrl]; rfl
    have hw1 : IntKind.i64.wrap ((i : Int) + 1) = ((i + 1 : Nat) : Int) := by rw [w64_in _ (by omega)]; omega
    have hfl : (l.take (i + 1)).filter (refP nm t) = (l.take i).filter (refP nm t) ++ (if refP nm t r then [r] else []) := by
      rw [htk, List.filter_append]
      cases h : refP nm t r <;> simp [h]
    conv => whnf
    refine ⟨by omega, ?_⟩
    conv => whnf
    rw [Int.toNat_natCast, hr]
    refine .one (.data _ (r5check_ok r hrd) rfl rfl ?_)
    cases hck : r.check with
    | false =>
      have hb : refP nm t r = false := by unfold refP; rw [hck]; rfl
      conv => whnf
      refine brT rfl ?_
      rw [hb, if_neg (by simp), List.append_nil] at hfl
      conv => whnf
      repeat (first | (refine brT rfl ?_; conv => whnf))
      rw [hw1]
      refine ⟨i + 1, [0, 1], h1, by omega, ?_⟩
      rw [hfl]
      conv => whnf
      repeat' (first | exact True.intro | exact rfl | exact subZ_self _ | exact Or.inr rfl | exact fun _ _ => rfl | exact fun _ h => absurd h (Nat.not_lt_zero _) | refine And.intro ?_ ?_)
    | true =>
      conv => whnf
      refine brF rfl ?_
      conv => whnf
      cases hcl : r.cl == 1 with
      | false =>
        have hb : refP nm t r = false := by unfold refP; rw [hcl, Bool.false_and, Bool.and_false]
        refine brT (by show (!(r.cl == 1)) = true; rw [hcl]; rfl) ?_
        rw [hb, if_neg (by simp), List.append_nil] at hfl
        conv => whnf
        repeat (first | (refine brT rfl ?_; conv => whnf))
        rw [hw1]
        refine ⟨i + 1, [0, 1], h1, by omega, ?_⟩
        rw [hfl]
        conv => whnf
        repeat' (first | exact True.intro | exact rfl | exact subZ_self _ | exact Or.inr rfl | exact fun _ _ => rfl | exact fun _ h => absurd h (Nat.not_lt_zero _) | refine And.intro ?_ ?_)
      | true =>
        refine brF (by show (!(r.cl == 1)) = false; rw [hcl]; rfl) ?_
        conv => whnf
        cases hty : r.ty == t with
        | false =>
          have hb : refP nm t r = false := by unfold refP; rw [hty, Bool.false_and, Bool.and_false, Bool.and_false]
          refine brT (by show (!(r.ty == t)) = true; rw [hty]; rfl) ?_
          rw [hb, if_neg (by simp), List.append_nil] at hfl
          conv => whnf
          repeat (first | (refine brT rfl ?_; conv => whnf))
          rw [hw1]
          refine ⟨i + 1, [0, 1], h1, by omega, ?_⟩
          rw [hfl]
          conv => whnf
          repeat' (first | exact True.intro | exact rfl | exact subZ_self _ | exact Or.inr rfl | exact fun _ _ => rfl | exact fun _ h => absurd h (Nat.not_lt_zero _) | refine And.intro ?_ ?_)
        | true =>
          refine brF (by show (!(r.ty == t)) = false; rw [hty]; rfl) ?_
          conv => whnf
          refine .one (.data _ (r1same_ok r.nm nm) rfl rfl ?_)
          conv => whnf
          cases hsm : sameN r.nm nm with
          | false =>
            have hb : refP nm t r = false := by unfold refP; rw [hsm, Bool.and_false, Bool.and_false, Bool.and_false]
            refine brT rfl ?_
            rw [hb, if_neg (by simp), List.append_nil] at hfl
            conv => whnf
            repeat (first | (refine brT rfl ?_; conv => whnf))
            rw [hw1]
            refine ⟨i + 1, [0, 1], h1, by omega, ?_⟩
            rw [hfl]
            conv => whnf
            repeat' (first | exact True.intro | exact rfl | exact subZ_self _ | exact Or.inr rfl | exact fun _ _ => rfl | exact fun _ h => absurd h (Nat.not_lt_zero _) | refine And.intro ?_ ?_)
          | true =>
            have hb : refP nm t r = true := by unfold refP; rw [hck, hcl, hty, hsm]; rfl
            rw [hb, if_pos rfl] at hfl
            have hPl : ((l.take i).filter (refP nm t)).length ≤ i := Nat.le_trans (List.length_filter_le _ _) (by simp; omega)
            have hDm : ∀ x ∈ firstsR t ((l.take i).filter (refP nm t)), x.length ≤ 100000 := fun x hx => by
              obtain ⟨q, hq⟩ := (firsts_of (rfold t) _).from hx
              obtain ⟨r', hr', rfl⟩ := List.mem_map.1 (List.mem_of_getElem? hq)
              exact hl r' (List.mem_of_mem_take (List.mem_filter.1 hr').1)
            have hDl : (firstsR t ((l.take i).filter (refP nm t))).length ≤ i := Nat.le_trans (firsts_len _ _) (by simpa using hPl)
            have hln := leastR_next ((l.take i).filter (refP nm t)) r
            have hfn := firstsR_next t ((l.take i).filter (refP nm t)) r
            refine brF rfl ?_
            conv => whnf
            generalize (l.take i).filter (refP nm t) = P at hfl hPl hDm hDl hln hfn ⊢
            generalize firstsR t P = D at hDm hDl hfn ⊢
            have hnw : IntKind.i64.wrap ((P.length : Int) + 1) = ((P.length + 1 : Nat) : Int) := by rw [w64_in _ (by omega)]; omega
            have hst : ((P.length : Int) == 0) = P.isEmpty := by
              cases P with
              | nil => rfl
              | cons a P => simp; omega
            obtain ⟨L, hL⟩ : ∃ L, L = leastR (P ++ [r]) := ⟨_, rfl⟩
            refine ⟨fun h5 => ?_, fun h5 => ?_⟩
            rw [hst] at h5
            rw [if_pos (.inl h5)] at hln
            conv => whnf
            rotate_left
            rw [hst] at h5
            conv => whnf
            refine ⟨fun h6 => ?_, fun h6 => ?_⟩
            rw [if_pos (.inr (of_decide_eq_true h6 : r.ttl < leastR P))] at hln
            conv => whnf
            clear h6
            rotate_left
            rw [if_neg (fun h => h.elim (fun h => by rw [h5] at h; cases h) (of_decide_eq_false h6 : ¬ r.ttl < leastR P))] at hln
            conv => whnf
            clear h6
            all_goals
              rw [hnw]
              have hpl : (P ++ [r]).length = P.length + 1 := by simp
              refine .one (.data _ (r4fold_ok t r.d hrd) rfl rfl ?_)
              conv => whnf
              refine .inv Nat (fun k => k ≤ D.length ∧ ∀ i, i < k → Op.bytesLess (rfold t (D[i]?.getD [])) (rfold t r.d) = true) (fun k => [(13, iV k)]) (fun _ => []) (fun k => D.length - k) ⟨0, [0, 1, 2], ⟨Nat.zero_le _, fun i hi => absurd hi (Nat.not_lt_zero _)⟩, ?_⟩ ?_
              · conv => whnf
                repeat' (first | exact True.intro | exact rfl | exact subZ_self _ | exact Or.inr rfl | exact fun _ _ => rfl | exact fun _ h => absurd h (Nat.not_lt_zero _) | refine And.intro ?_ ?_)
              intro k hk
              obtain ⟨k1, k2⟩ := hk
              conv => whnf
              refine ⟨fun h6 => ?_, fun h6 => ?_⟩
              have h6 : k < D.length := by have h : (k : Int) < D.length := of_decide_eq_true h6
                                           omega
              have hDk : (D[k]?.getD []).length ≤ 100000 := hDm _ (by rw [List.getElem?_eq_getElem h6]; exact List.getElem_mem h6)
              conv => whnf
              refine ⟨by omega, ?_⟩
              conv => whnf
              rw [Int.toNat_natCast]
              refine .one (.data _ (r4fold_ok t (D[k]?.getD []) hDk) rfl rfl ?_)
              conv => whnf
              refine ⟨fun h7 => ?_, fun h7 => ?_⟩
              · have hkw : IntKind.i64.wrap ((k : Int) + 1) = ((k + 1 : Nat) : Int) := by rw [w64_in _ (by omega)]; omega
                conv => whnf
                rw [hkw]
                refine ⟨k + 1, [0, 1, 2], ⟨h6, fun i hi => ?_⟩, by omega, ?_⟩
                · rcases Nat.lt_or_ge i k with x | x
                  · exact k2 i x
                  · rw [show i = k by omega]; exact h7
                conv => whnf
                repeat' (first | exact True.intro | exact rfl | exact subZ_self _ | exact Or.inr rfl | exact fun _ _ => rfl | exact fun _ h => absurd h (Nat.not_lt_zero _) | refine And.intro ?_ ?_)
              have hins := insF_at (rfold t) r.d D k k1 k2 (.inr h7)
              conv => whnf
              refine brT (decide_eq_true (by omega)) ?_
              conv => whnf
              refine ⟨by omega, ?_⟩
              conv => whnf
              rw [Int.toNat_natCast]
              refine .one (.data _ (r4fold_ok t (D[k]?.getD []) hDk) rfl rfl ?_)
              conv => whnf
              refine ⟨fun h8 => ?_, fun h8 => ?_⟩
              · rw [if_pos ⟨h6, by simpa using h8⟩] at hins
                conv => whnf
                rw [hw1]
                refine ⟨i + 1, [0, 1], h1, by omega, ?_⟩
                rw [hfl, hln, hfn, hins]
                conv => whnf
                repeat' (first | exact True.intro | exact rfl | exact subZ_self _ | exact Or.inr rfl | exact fun _ _ => rfl | exact fun _ h => absurd h (Nat.not_lt_zero _) | refine And.intro ?_ ?_)
                rw [hpl]; exact rfl
              rw [if_neg (fun h => by simp at h8; exact h8 h.2)] at hins
              rotate_left
              have h6 : k = D.length := by have h : ¬ (k : Int) < D.length := of_decide_eq_false h6
                                           omega
              have hins := insF_at (rfold t) r.d D k k1 k2 (.inl h6)
              rw [if_neg (fun h => by omega)] at hins
              conv => whnf
              refine brF (decide_eq_false (by omega)) ?_
              all_goals
                conv => whnf
                refine ⟨by omega, ?_⟩
                conv => whnf
                refine ⟨by omega, ?_⟩
                conv => whnf
                refine ⟨by omega, ?_⟩
                conv => whnf
                refine ⟨by omega, ?_⟩
                conv => whnf
                refine ⟨by omega, ?_⟩
                conv => whnf
                refine ⟨by omega, ?_⟩
                conv => whnf
                refine ⟨by omega, ?_⟩
                conv => whnf
                rw [hw1]
                refine ⟨i + 1, [0, 7], h1, by omega, ?_⟩
                rw [hfl, hln, hfn, hins]
                conv => whnf
                repeat' (first | exact True.intro | exact rfl | exact subZ_self _ | exact Or.inr rfl | exact fun _ _ => rfl | exact fun _ h => absurd h (Nat.not_lt_zero _) | refine And.intro ?_ ?_)
                · rw [hpl]; exact rfl
                · simp only [List.length_append, List.length_take, List.length_cons, List.length_drop]; omega
                · exact fun x hx => ins_row D r.d k k1 x
  · have h1 : i = l.length := by have h : ¬ (i : Int) < l.length := of_decide_eq_false h1
                                 omega
    subst h1
    rw [List.take_length]
    have hPl : (l.filter (refP nm t)).length ≤ l.length := List.length_filter_le _ _
    have hsp : findR13 nm t l = if (l.filter (refP nm t)).isEmpty then (St.no, 3) else (⟨nm, t, leastR (l.filter (refP nm t)), false, (firstsR t (l.filter (refP nm t))).take 64⟩, 0) := rfl
    rw [hsp]
    conv => whnf
    generalize l.filter (refP nm t) = P at hPl ⊢
    have hDl : (firstsR t P).length ≤ P.length := Nat.le_trans (firsts_len _ _) (by simp)
    have hDp : P ≠ [] → 0 < (firstsR t P).length := fun h => (show 0 < (firstsOf (rfold t) (P.map fun r => r.d)).length from (firsts_of (rfold t) (P.map fun r => r.d)).len (by simpa using h))
    cases P with
    | nil =>
      refine brT rfl ?_
      conv => whnf
      repeat' (first | exact True.intro | exact rfl | exact ⟨rfl, rfl, .inr rfl, fun _ _ => rfl⟩ | exact ⟨rfl, rfl, .inl rfl, fun i hi => absurd hi (Nat.not_lt_zero _)⟩ | refine And.intro ?_ ?_)
    | cons a P =>
      have hDp := hDp (by simp)
      rw [if_neg (show ¬ (a :: P).isEmpty = true by simp)]
      generalize firstsR t (a :: P) = D at hDl hDp ⊢
      refine brF (by simp; omega) ?_
      conv => whnf
      have em : (if (64 : Int) < (D.length : Int) then (64 : Int) else (D.length : Int)) = ((min D.length 64 : Nat) : Int) := by split <;> omega
      rw [em]
      refine ⟨by omega, ?_⟩
      have htl : (D.take 64).length = min D.length 64 := by simp; omega
      have hte : ∀ i, i < min D.length 64 → strs (D.take 64) i = strs D i := fun i hi => by unfold strs; rw [List.getElem?_take_of_lt (by omega)]
      generalize D.take 64 = E at htl hte ⊢
      conv => whnf
      repeat' (first | exact True.intro | exact rfl | exact ⟨rfl, rfl, .inr rfl, fun _ _ => rfl⟩ | exact ⟨rfl, rfl, .inl rfl, fun i hi => absurd hi (Nat.not_lt_zero _)⟩ | refine And.intro ?_ ?_)
      · omega
      · exact hDp
      · show _ = E.length
        omega
      · exact .inr rfl
      · intro i hi
        show strs D (Int.toNat 0 + i) = strs E i
        rw [show Int.toNat 0 + i = i by simp]
        exact (hte i (by omega)).symm
end Go.Proofs.Ytdphkaiijlekhaa
namespace Go.Proofs.Ytdphkaiijlekhaa
open Go Go.Eng
def isP (r : RR) (s : St) : Bool := s.ty == r.ty && sameN s.nm r.nm
def step13 (l : List RR) (out : List St) (r : RR) : List St := if goodR r && !(out.any (isP r)) then out ++ [(findR13 r.nm r.ty l).1] else out
def of13 (l : List RR) : List St := l.foldl (step13 l) []
theorem step13_len (l : List RR) (out : List St) (r : RR) : (step13 l out r).length ≤ out.length + 1 := by
  unfold step13; split <;> simp
set_option maxRecDepth 100000
set_option maxHeartbeats 8000000 in
theorem r13of_ok (z : Bool) (l : List RR) (hn : l.length ≤ 100000) (hl : ∀ r ∈ l, r.d.length ≤ 100000) : FnOk Try.prog 25 [.d (rrsD z l)] (.d (stsD (of13 l).isEmpty (of13 l))) := by
  refine fnOk_of_run (TT := TT) (IN := lookI []) TT_ok INok_nil mixed 1000 Try.func25 rfl (enters Try.func25 (by kernel_rfl) rfl) rfl 68 (by kernel_rfl) ?_
  conv => whnf
  refine .nilT 3 33 4 (fun i => (([] : List St).getD i default).enc) _ _ rfl ?_
  conv => whnf
  refine .inv Nat (fun i => i ≤ l.length ∧ ((l.take i).foldl (step13 l) []).length ≤ i) (fun i => [(13, iV i), (3, .all 0)]) (fun i => [(0, .row 33 4 ((l.take i).foldl (step13 l) []).length .iff (fun j => (((l.take i).foldl (step13 l) []).getD j default).enc))]) (fun i => l.length - i) ⟨0, [0], ⟨Nat.zero_le _, Nat.le_refl _⟩, ?_⟩ ?_
  · conv => whnf
    repeat' (first | exact True.intro | exact rfl | exact subZ_self _ | exact Or.inr rfl | exact fun _ _ => rfl | exact fun _ h => absurd h (Nat.not_lt_zero _) | refine And.intro ?_ ?_)
  intro i hi
  obtain ⟨hi, hil⟩ := hi
  conv => whnf
  refine ⟨fun h1 => ?_, fun h1 => ?_⟩
  · have h1 : i < l.length := by have h : (i : Int) < l.length := of_decide_eq_true h1
                                 omega
    obtain ⟨r, hr⟩ : ∃ r, l.getD i default = r := ⟨_, rfl⟩
    have hrl : l[i]? = some r := by rw [← hr, List.getD, List.getElem?_eq_getElem h1]; rfl
    have hrd := hl r (List.mem_of_getElem? hrl)
    have htk : l.take (i + 1) = l.take i ++ [r] := by rw [List.take_add_one, hrl]; rfl
    have hw1 : IntKind.i64.wrap ((i : Int) + 1) = ((i + 1 : Nat) : Int) := by rw [w64_in _ (by omega)]; omega
    have hfl : (l.take (i + 1)).foldl (step13 l) [] = step13 l ((l.take i).foldl (step13 l) []) r := by rw [htk, List.foldl_append]; rfl
    conv => whnf
    generalize (l.take i).foldl (step13 l) [] = O at hil hfl ⊢
    have hol := step13_len l O r
    refine ⟨by omega, ?_⟩
    conv => whnf
    rw [Int.toNat_natCast, hr]
    refine .one (.data _ (r5check_ok r hrd) rfl rfl ?_)
    cases hck : r.check with
    | false =>
      have hb : goodR r = false := by unfold goodR rightR; rw [hck, Bool.and_false]; rfl
      conv => whnf
      refine brT rfl ?_
      have hst : step13 l O r = O := by unfold step13; rw [hb]; rfl
      rw [hst] at hfl hol
      conv => whnf
      repeat (first | (refine brT rfl ?_; conv => whnf))
      rw [hw1]
      refine ⟨i + 1, [0], ⟨h1, by rw [hfl]; omega⟩, by omega, ?_⟩
      rw [hfl]
      conv => whnf
      repeat' (first | exact True.intro | exact rfl | exact subZ_self _ | exact Or.inr rfl | exact fun _ _ => rfl | exact fun _ h => absurd h (Nat.not_lt_zero _) | refine And.intro ?_ ?_)
    | true =>
      conv => whnf
      refine brF rfl ?_
      conv => whnf
      cases hcl : r.cl == 1 with
      | false =>
        have hb : goodR r = false := by unfold goodR rightR; rw [hcl, Bool.false_and]; rfl
        refine brT (by show (!(r.cl == 1)) = true; rw [hcl]; rfl) ?_
        have hst : step13 l O r = O := by unfold step13; rw [hb]; rfl
        rw [hst] at hfl hol
        conv => whnf
        repeat (first | (refine brT rfl ?_; conv => whnf))
        rw [hw1]
        refine ⟨i + 1, [0], ⟨h1, by rw [hfl]; omega⟩, by omega, ?_⟩
        rw [hfl]
        conv => whnf
        repeat' (first | exact True.intro | exact rfl | exact subZ_self _ | exact Or.inr rfl | exact fun _ _ => rfl | exact fun _ h => absurd h (Nat.not_lt_zero _) | refine And.intro ?_ ?_)
      | true =>
        refine brF (by show (!(r.cl == 1)) = false; rw [hcl]; rfl) ?_
        conv => whnf
        cases hty : r.ty == 41 with
        | true =>
          have hb : goodR r = false := by unfold goodR; rw [show (r.ty != 41) = false by show (!(r.ty == 41)) = false; rw [hty]; rfl, Bool.and_false]
          refine brT rfl ?_
          have hst : step13 l O r = O := by unfold step13; rw [hb]; rfl
          rw [hst] at hfl hol
          conv => whnf
          repeat (first | (refine brT rfl ?_; conv => whnf))
          rw [hw1]
          refine ⟨i + 1, [0], ⟨h1, by rw [hfl]; omega⟩, by omega, ?_⟩
          rw [hfl]
          conv => whnf
          repeat' (first | exact True.intro | exact rfl | exact subZ_self _ | exact Or.inr rfl | exact fun _ _ => rfl | exact fun _ h => absurd h (Nat.not_lt_zero _) | refine And.intro ?_ ?_)
        | false =>
          have hb : goodR r = true := by unfold goodR rightR; rw [hck, hcl, show (r.ty != 41) = true by show (!(r.ty == 41)) = true; rw [hty]; rfl]; rfl
          refine brF rfl ?_
          conv => whnf
          refine .inv Nat (fun j => j ≤ O.length) (fun j => [(32, iV j), (6, .d (.bool ((O.take j).any (isP r))))]) (fun _ => []) (fun j => O.length - j) ⟨0, [0, 1], Nat.zero_le _, ?_⟩ ?_
          · conv => whnf
            repeat' (first | exact True.intro | exact rfl | exact subZ_self _ | exact Or.inr rfl | exact fun _ _ => rfl | exact fun _ h => absurd h (Nat.not_lt_zero _) | refine And.intro ?_ ?_)
          intro j hj
          conv => whnf
          refine ⟨fun h2 => ?_, fun h2 => ?_⟩
          · have h2 : j < O.length := by have h : (j : Int) < O.length := of_decide_eq_true h2
                                         omega
            have hjw : IntKind.i64.wrap ((j : Int) + 1) = ((j + 1 : Nat) : Int) := by rw [w64_in _ (by omega)]; omega
            obtain ⟨s, hs⟩ : ∃ s, O.getD j default = s := ⟨_, rfl⟩
            have hany : (O.take (j + 1)).any (isP r) = ((O.take j).any (isP r) || isP r s) := by
              have hs2 : O[j]? = some s := by rw [← hs, List.getD, List.getElem?_eq_getElem h2]; rfl
              rw [List.take_add_one, hs2, List.any_append]
              simp
            conv => whnf
            refine ⟨by omega, ?_⟩
            conv => whnf
            rw [Int.toNat_natCast, hs]
            cases hse : (O.take j).any (isP r) with
            | true =>
              rw [hse, Bool.true_or] at hany
              refine brT rfl ?_
              conv => whnf
              rw [hjw]
              refine ⟨j + 1, [0, 1], h2, by omega, ?_⟩
              rw [hany]
              conv => whnf
              repeat' (first | exact True.intro | exact rfl | exact subZ_self _ | exact Or.inr rfl | exact fun _ _ => rfl | exact fun _ h => absurd h (Nat.not_lt_zero _) | refine And.intro ?_ ?_)
            | false =>
              rw [hse, Bool.false_or] at hany
              refine brF rfl ?_
              conv => whnf
              cases hsy : s.ty == r.ty with
              | false =>
                rw [show isP r s = false by unfold isP; rw [hsy]; rfl] at hany
                refine brF rfl ?_
                conv => whnf
                rw [hjw]
                refine ⟨j + 1, [0, 1], h2, by omega, ?_⟩
                rw [hany]
                conv => whnf
                repeat' (first | exact True.intro | exact rfl | exact subZ_self _ | exact Or.inr rfl | exact fun _ _ => rfl | exact fun _ h => absurd h (Nat.not_lt_zero _) | refine And.intro ?_ ?_)
              | true =>
                rw [show isP r s = sameN s.nm r.nm by unfold isP; rw [hsy]; rfl] at hany
                refine brT rfl ?_
                conv => whnf
                refine .one (.data _ (r1same_ok s.nm r.nm) rfl rfl ?_)
                conv => whnf
                rw [hjw]
                refine ⟨j + 1, [0, 1], h2, by omega, ?_⟩
                rw [hany]
                conv => whnf
                repeat' (first | exact True.intro | exact rfl | exact subZ_self _ | exact Or.inr rfl | exact fun _ _ => rfl | exact fun _ h => absurd h (Nat.not_lt_zero _) | refine And.intro ?_ ?_)
                all_goals skip
          · have h2 : j = O.length := by have h : ¬ (j : Int) < O.length := of_decide_eq_false h2
                                         omega
            rw [h2, List.take_length]
            conv => whnf
            cases han : O.any (isP r) with
            | true =>
              have hst : step13 l O r = O := by unfold step13; rw [hb, han]; rfl
              rw [hst] at hfl hol
              refine brF rfl ?_
              conv => whnf
              rw [hw1]
              refine ⟨i + 1, [0], ⟨h1, by rw [hfl]; omega⟩, by omega, ?_⟩
              rw [hfl]
              conv => whnf
              repeat' (first | exact True.intro | exact rfl | exact subZ_self _ | exact Or.inr rfl | exact fun _ _ => rfl | exact fun _ h => absurd h (Nat.not_lt_zero _) | refine And.intro ?_ ?_)
            | false =>
              have hst : step13 l O r = O ++ [(findR13 r.nm r.ty l).1] := by unfold step13; rw [hb, han]; rfl
              rw [hst] at hfl hol
              refine brT rfl ?_
              conv => whnf
              refine .one (.data _ (r13find_ok r.nm r.ty z l hn hl) rfl rfl ?_)
              conv => whnf
              refine ⟨by omega, ?_⟩
              conv => whnf
              rw [hw1]
              refine ⟨i + 1, [4], ⟨h1, by rw [hfl]; simp at hol ⊢; omega⟩, by omega, ?_⟩
              rw [hfl]
              conv => whnf
              repeat' (first | exact True.intro | exact rfl | exact subZ_self _ | exact Or.inr rfl | exact fun _ _ => rfl | exact fun _ h => absurd h (Nat.not_lt_zero _) | refine And.intro ?_ ?_)
              · rw [List.length_append]; rfl
              · exact fun x hx => st_cat O (findR13 r.nm r.ty l).1 x hx
  · have h1 : i = l.length := by have h : ¬ (i : Int) < l.length := of_decide_eq_false h1
                                 omega
    subst h1
    rw [List.take_length]
    conv => whnf
    repeat' (first | exact True.intro | exact rfl | exact ⟨rfl, rfl, .inr rfl, fun _ _ => rfl⟩ | exact ⟨rfl, rfl, .inl rfl, fun i hi => absurd hi (Nat.not_lt_zero _)⟩ | refine And.intro ?_ ?_)
    · show (of13 l).length.beq 0 = _
      cases of13 l <;> rfl
    · exact .inr rfl
    · exact fun _ _ => rfl
end Go.Proofs.Ytdphkaiijlekhaa
namespace Go.Proofs.Ytdphkaiijlekhaa
open Go Go.Eng
theorem check_name {r : RR} (h : r.check = true) : isName r.nm := by
  unfold RR.check at h
  simp only [Bool.and_eq_true, decide_eq_true_eq] at h
  exact h.1.1
theorem sameN_of {a b : List UInt8} (ha : isName a) (hb : isName b) : sameN a b = (fold a == fold b) := by
  unfold sameN; rw [decide_eq_true ha, decide_eq_true hb]; rfl
theorem len_of_fold {a b : List UInt8} (h : fold a = fold b) : a.length = b.length := by
  have := congrArg List.length h
  rwa [fold_len, fold_len] at this
theorem refP_near {nm : List UInt8} (t : Int) (hn : isName nm) (r : RR) : refP nm t r = (rightR r && nearR nm t r) := by
  unfold refP rightR nearR
  cases hc : r.check
  · simp
  · rw [sameN_of (check_name hc) hn]
    cases hf : fold r.nm == fold nm
    · simp
    · rw [show (r.nm.length == nm.length) = true by simpa using len_of_fold (eq_of_beq hf)]
      simp
theorem refP_bad {nm : List UInt8} (t : Int) (hn : ¬ isName nm) (r : RR) : refP nm t r = false := by
  unfold refP sameN
  rw [decide_eq_false hn]; simp
theorem pickR_ref {nm : List UInt8} (t : Int) (hn : isName nm) (l : List RR) : pickR nm t l = l.filter (refP nm t) := by
  unfold pickR
  rw [List.filter_filter]
  apply List.filter_congr
  intro r _
  rw [refP_near t hn r]
theorem find_law (nm : List UInt8) (t : Int) (l : List RR) : findS nm t l = findR13 nm t l := by
  unfold findS findR13
  by_cases hn : isName nm
  · rw [if_pos hn, pickR_ref t hn l]
    generalize l.filter (refP nm t) = P
    cases P with
    | nil => rfl
    | cons a P => rfl
  · rw [if_neg hn, show l.filter (refP nm t) = [] from List.filter_eq_nil_iff.2 (fun r _ => by rw [refP_bad t hn r]; simp)]
    rfl
/-- Of the place k. -/
def atK (k : List UInt8 × Int) (r : RR) : Bool := goodR r && decide (plc r = k)
theorem stepG_ok {pre : List RR} {G : List Gp} (r : RR) (h1 : ∀ g ∈ G, g.2 = pre.filter (atK g.1)) (h2 : ∀ k, (∀ g ∈ G, g.1 ≠ k) → pre.filter (atK k) = []) (hnd : G.Pairwise (fun a b => a.1 ≠ b.1)) :
    (∀ g ∈ stepG G r, g.2 = (pre ++ [r]).filter (atK g.1)) ∧ ∀ k, (∀ g ∈ stepG G r, g.1 ≠ k) → (pre ++ [r]).filter (atK k) = [] := by
  unfold stepG
  cases hg : goodR r with
  | false =>
    rw [if_neg (by simp)]
    have e : ∀ k, (pre ++ [r]).filter (atK k) = pre.filter (atK k) := fun k => by
      rw [List.filter_append]
      simp [atK, hg]
    exact ⟨fun g hg' => by rw [e]; exact h1 g hg', fun k hk => by rw [e]; exact h2 k hk⟩
  | true =>
    rw [if_pos rfl]
    have e : ∀ k, k ≠ plc r → (pre ++ [r]).filter (atK k) = pre.filter (atK k) := fun k hk => by
      rw [List.filter_append]
      have : atK k r = false := by unfold atK; rw [decide_eq_false (fun h => hk h.symm), Bool.and_false]
      simp [this]
    have e2 : (pre ++ [r]).filter (atK (plc r)) = pre.filter (atK (plc r)) ++ [r] := by
      rw [List.filter_append]
      have : atK (plc r) r = true := by unfold atK; rw [hg]; simp
      simp [this]
    rcases grp_cases (plc r) G with ⟨A, rs, B, hG, hA⟩ | hG
    · subst hG
      rw [addG_at A hA]
      have hrs := h1 (plc r, rs) (by simp)
      have hB : ∀ g ∈ B, g.1 ≠ plc r := fun g hg => by
        have := (List.pairwise_cons.1 (List.pairwise_append.1 hnd).2.1).1 g hg
        exact fun h => this h.symm
      refine ⟨fun g hg' => ?_, fun k hk => ?_⟩
      · rcases List.mem_append.1 hg' with hg' | hg'
        · rw [e _ (hA g hg')]; exact h1 g (by simp [hg'])
        · rcases List.mem_cons.1 hg' with rfl | hg'
          · rw [e2]; exact congrArg (· ++ [r]) hrs
          · rw [e _ (hB g hg')]; exact h1 g (by simp [hg'])
      · have hkr : k ≠ plc r := fun h => hk (plc r, rs ++ [r]) (by simp) h.symm
        rw [e k hkr]
        refine h2 k (fun g hg' => ?_)
        rcases List.mem_append.1 hg' with hg' | hg'
        · exact hk g (by simp [hg'])
        · rcases List.mem_cons.1 hg' with rfl | hg'
          · exact fun h => hkr h.symm
          · exact hk g (by simp [hg'])
    · rw [addG_none G hG]
      refine ⟨fun g hg' => ?_, fun k hk => ?_⟩
      · rcases List.mem_append.1 hg' with hg' | hg'
        · rw [e _ (hG g hg')]; exact h1 g hg'
        · simp only [List.mem_singleton] at hg'
          subst hg'
          rw [e2, h2 (plc r) hG]; rfl
      · have hkr : k ≠ plc r := fun h => hk (plc r, [r]) (by simp) h.symm
        rw [e k hkr]
        exact h2 k (fun g hg' => hk g (by simp [hg']))
theorem groups_from : ∀ (l pre : List RR) (G : List Gp), (∀ g ∈ G, g.2 = pre.filter (atK g.1)) → (∀ k, (∀ g ∈ G, g.1 ≠ k) → pre.filter (atK k) = []) → G.Pairwise (fun a b => a.1 ≠ b.1) →
    (∀ g ∈ l.foldl stepG G, g.2 = (pre ++ l).filter (atK g.1)) ∧ ∀ k, (∀ g ∈ l.foldl stepG G, g.1 ≠ k) → (pre ++ l).filter (atK k) = []
  | [], pre, G => fun h1 h2 _ => by rw [List.append_nil]; exact ⟨h1, h2⟩
  | r :: l, pre, G => fun h1 h2 h3 => by
    obtain ⟨g1, g2⟩ := stepG_ok r h1 h2 h3
    have := groups_from l (pre ++ [r]) (stepG G r) g1 g2 (groups_nd [r] G h3)
    rw [List.append_assoc] at this
    exact this
theorem groups_at (l : List RR) : (∀ g ∈ groups l, g.2 = l.filter (atK g.1)) ∧ ∀ k, (∀ g ∈ groups l, g.1 ≠ k) → l.filter (atK k) = [] := by
  have := groups_from l [] [] (fun _ h => by cases h) (fun _ _ => rfl) .nil
  exact this
/-- The set of a place. -/
theorem find_at {l : List RR} {r : RR} (hg : goodR r = true) (hr : r ∈ l) : (findR13 r.nm r.ty l).1 = buildS r.nm r.ty (l.filter (atK (plc r))) := by
  have hgr := hg
  unfold goodR rightR at hg
  simp only [Bool.and_eq_true, bne_iff_ne, ne_eq, beq_iff_eq] at hg
  obtain ⟨⟨hc, hck⟩, ht⟩ := hg
  have hn := check_name hck
  have hf : l.filter (refP r.nm r.ty) = l.filter (atK (plc r)) := by
    apply List.filter_congr
    intro x _
    rw [refP_near r.ty hn x]
    unfold atK goodR nearR plc
    rw [Bool.eq_iff_iff]
    simp only [Bool.and_eq_true, bne_iff_ne, ne_eq, beq_iff_eq, decide_eq_true_eq, Prod.mk.injEq]
    constructor
    · rintro ⟨h1, h2, h3, h4⟩
      exact ⟨⟨h1, by rw [h2]; exact ht⟩, h4, h2⟩
    · rintro ⟨⟨h1, _⟩, h3, h4⟩
      exact ⟨h1, h4, len_of_fold h3, h3⟩
  have hne : l.filter (refP r.nm r.ty) ≠ [] := by
    rw [hf]
    intro h
    have : r ∈ l.filter (atK (plc r)) := List.mem_filter.2 ⟨hr, by unfold atK; rw [hgr]; simp⟩
    rw [h] at this; cases this
  unfold findR13
  rw [hf] at hne ⊢
  generalize l.filter (atK (plc r)) = P at hne
  cases P with
  | nil => exact absurd rfl hne
  | cons a P => rfl
def hdG (g : Gp) : RR := g.2.getD 0 default
theorem hdG_ok {l : List RR} {g : Gp} (h : g.2 = l.filter (atK g.1)) (hne : g.2 ≠ []) : hdG g ∈ l ∧ goodR (hdG g) = true ∧ plc (hdG g) = g.1 := by
  have hm : hdG g ∈ g.2 := by
    unfold hdG
    cases e : g.2 with
    | nil => exact absurd e hne
    | cons a P => simp
  rw [h] at hm
  obtain ⟨h1, h2⟩ := List.mem_filter.1 hm
  unfold atK at h2
  simp only [Bool.and_eq_true, decide_eq_true_eq] at h2
  exact ⟨h1, h2.1, h2.2⟩
theorem good_name {r : RR} (h : goodR r = true) : isName r.nm := by
  unfold goodR rightR at h
  simp only [Bool.and_eq_true] at h
  exact check_name h.1.2
def ofR (l : List RR) (g : Gp) : St := (findR13 (hdG g).nm (hdG g).ty l).1
theorem ofR_eq {l pre : List RR} {g : Gp} (hp : ∀ r ∈ pre, r ∈ l) (h : g.2 = pre.filter (atK g.1)) (hne : g.2 ≠ []) : ofR l g = buildS (hdG g).nm g.1.2 (l.filter (atK g.1)) := by
  obtain ⟨h1, h2, h3⟩ := hdG_ok h hne
  unfold ofR
  rw [find_at h2 (hp _ h1), h3, ← h3]; rfl
theorem isP_at {l pre : List RR} {g : Gp} {r : RR} (hp : ∀ r ∈ pre, r ∈ l) (h : g.2 = pre.filter (atK g.1)) (hne : g.2 ≠ []) (hg : goodR r = true) : isP r (ofR l g) = decide (g.1 = plc r) := by
  rw [ofR_eq hp h hne]
  obtain ⟨h1, h2, h3⟩ := hdG_ok h hne
  unfold isP buildS
  dsimp only
  rw [sameN_of (good_name h2) (good_name hg), ← h3, Bool.eq_iff_iff]
  unfold plc
  simp only [Bool.and_eq_true, beq_iff_eq, decide_eq_true_eq, Prod.mk.injEq]
  exact ⟨fun h => ⟨h.2, h.1⟩, fun h => ⟨h.2, h.1⟩⟩
theorem of_from (l : List RR) : ∀ (m pre : List RR), pre ++ m = l → m.foldl (step13 l) ((groups pre).map (ofR l)) = (groups l).map (ofR l)
  | [], pre => fun h => by rw [List.append_nil] at h; rw [h]; rfl
  | r :: m, pre => fun h => by
    have ih := of_from l m (pre ++ [r]) (by rw [List.append_assoc]; exact h)
    have hp : ∀ x ∈ pre, x ∈ l := fun x hx => by rw [← h]; simp [hx]
    obtain ⟨ga, gb⟩ := groups_at pre
    have gne := groups_ne pre [] (fun _ h => by cases h)
    change ∀ g ∈ groups pre, _ at gne
    rw [List.foldl_cons, ← ih]
    congr 1
    rw [groups_next]
    generalize groups pre = G at ga gb gne
    unfold step13 stepG
    cases hg : goodR r with
    | false => rfl
    | true =>
      rcases grp_cases (plc r) G with ⟨A, rs, B, hG, hA⟩ | hG
      · subst hG
        have hs : ((A ++ (plc r, rs) :: B).map (ofR l)).any (isP r) = true := by
          rw [List.any_eq_true]
          refine ⟨ofR l (plc r, rs), List.mem_map.2 ⟨_, by simp, rfl⟩, ?_⟩
          rw [isP_at hp (ga _ (by simp)) (gne _ (by simp)) hg]; simp
        have hrs := gne (plc r, rs) (by simp)
        rw [hs, if_neg (by simp), if_pos rfl, addG_at A hA, List.map_append, List.map_append, List.map_cons, List.map_cons]
        congr 2
        unfold ofR hdG
        cases rs with
        | nil => exact absurd rfl hrs
        | cons a P => rfl
      · have hs : (G.map (ofR l)).any (isP r) = false := by
          rw [List.any_eq_false]
          intro s hs
          obtain ⟨g, hgm, rfl⟩ := List.mem_map.1 hs
          rw [isP_at hp (ga g hgm) (gne g hgm) hg]
          simpa using hG g hgm
        rw [hs, if_pos (by simp), if_pos rfl, addG_none G hG, List.map_append]
        rfl
theorem of_law (l : List RR) : ofS l = of13 l := by
  have h := of_from l l [] rfl
  have h2 : of13 l = (groups l).map (ofR l) := h
  rw [h2]
  unfold ofS
  apply List.map_congr_left
  intro g hg
  obtain ⟨ga, _⟩ := groups_at l
  have gne := groups_ne l [] (fun _ h => by cases h) g hg
  rw [ofR_eq (fun _ h => h) (ga g hg) gne, ← ga g hg]
  rfl
theorem sameS_refl (s : St) : sameS s s = true := by
  unfold sameS; simp
theorem sameL_refl : ∀ l : List St, sameL l l = true
  | [] => rfl
  | s :: l => by
    show (sameS s s && sameL l l) = true
    rw [sameS_refl, sameL_refl l]; rfl
theorem buildD_len (t : Int) (l : List RR) : (buildD t l).length ≤ 64 := by unfold buildD; simp; omega
theorem findS_len (nm : List UInt8) (t : Int) (l : List RR) : (findS nm t l).1.data.length ≤ 64 := by
  unfold findS
  split
  · split
    · exact Nat.zero_le _
    · exact buildD_len t _
  · exact Nat.zero_le _
theorem ofS_len {l : List RR} {s : St} (h : s ∈ ofS l) : s.data.length ≤ 64 := by
  obtain ⟨g, _, rfl⟩ := List.mem_map.1 h
  exact buildD_len _ _
theorem ofS_count (l : List RR) : (ofS l).length ≤ l.length := by
  have := (groups_len l [] 0 (fun _ h => by cases h) (Nat.le_refl _)).2
  unfold ofS
  rw [List.length_map]
  simpa [groups] using this
end Go.Proofs.Ytdphkaiijlekhaa
namespace Go.Proofs.Ytdphkaiijlekhaa
open Go Go.Eng
def smallL (l : List RR) : Bool := decide (l.length ≤ 100) && l.all smallR
set_option maxRecDepth 100000
set_option maxHeartbeats 8000000 in
theorem small13_ok (z : Bool) (l : List RR) : FnOk Try.prog 18 [.d (rrsD z l)] (.d (.int .i64 (if smallL l then 1 else 0))) := by
  refine fnOk_of_run (TT := TT) (IN := lookI []) TT_ok INok_nil mixed 1000 Try.func18 rfl (enters Try.func18 (by kernel_rfl) rfl) rfl 26 (by kernel_rfl) ?_
  conv => whnf
  refine .inv Nat (fun i => i ≤ l.length ∧ i ≤ 100 ∧ (l.take i).all smallR = true) (fun i => [(7, iV i)]) (fun _ => []) (fun i => l.length - i) ⟨0, [], ⟨Nat.zero_le _, Nat.zero_le _, rfl⟩, ?_⟩ ?_
  · conv => whnf
    repeat' (first | exact True.intro | exact rfl | exact fun _ => Iff.rfl | exact fun _ _ => rfl | exact renM_ent rfl _ | refine And.intro ?_ ?_)
  rintro i ⟨hi, hih, hall⟩
  conv => whnf
  refine ⟨fun h1 => ?_, fun h1 => ?_⟩
  · have h1 : i < l.length := by have h : (i : Int) < l.length := of_decide_eq_true h1
                                 omega
    obtain ⟨r, hr⟩ : ∃ r, l.getD i default = r := ⟨_, rfl⟩
    have hrl : l[i]? = some r := by rw [← hr, List.getD, List.getElem?_eq_getElem h1]; rfl
    have hw1 : IntKind.i64.wrap ((i : Int) + 1) = ((i + 1 : Nat) : Int) := by rw [w64_in _ (by omega)]; omega
    have bad : smallR r = false → smallL l = false := fun h => by
      unfold smallL
      rw [show l.all smallR = false from List.all_eq_false.2 ⟨r, List.mem_of_getElem? hrl, by rw [h]; simp⟩, Bool.and_false]
    conv => whnf
    refine ⟨by omega, ?_⟩
    conv => whnf
    rw [Int.toNat_natCast, hr]
    refine ⟨fun h2 => ?_, fun h2 => ?_⟩
    · have h2 : i = 100 := by simp at h2; omega
      rw [show smallL l = false by unfold smallL; rw [decide_eq_false (by omega)]; rfl]
      conv => whnf
      repeat (first | (refine brT rfl ?_; conv => whnf))
      try exact rfl
    have h2 : i ≠ 100 := by simp at h2; omega
    conv => whnf
    refine ⟨fun h3 => ?_, fun h3 => ?_⟩
    · have h3 : (r.d.length : Int) > 5000 := of_decide_eq_true h3
      rw [bad (by unfold smallR; rw [decide_eq_false (by omega)]; rfl)]
      conv => whnf
      repeat (first | (refine brT rfl ?_; conv => whnf))
      try exact rfl
    have h3 : ¬ (r.d.length : Int) > 5000 := of_decide_eq_false h3
    conv => whnf
    refine ⟨fun h4 => ?_, fun h4 => ?_⟩
    · have h4 : (r.nm.length : Int) > 1000 := of_decide_eq_true h4
      rw [bad (by unfold smallR; rw [decide_eq_false (p := r.nm.length ≤ 1000) (by omega), Bool.and_false])]
      conv => whnf
      try exact rfl
    have h4 : ¬ (r.nm.length : Int) > 1000 := of_decide_eq_false h4
    conv => whnf
    rw [hw1]
    refine ⟨i + 1, [], ⟨h1, by omega, ?_⟩, by omega, ?_⟩
    · rw [List.take_add_one, hrl, List.all_append, hall]
      show (true && (smallR r && true)) = true
      unfold smallR
      rw [decide_eq_true (by omega), decide_eq_true (by omega)]; rfl
    conv => whnf
    repeat' (first | exact True.intro | exact rfl | exact fun _ => Iff.rfl | exact fun _ _ => rfl | exact renM_ent rfl _ | refine And.intro ?_ ?_)
  · have h1 : i = l.length := by have h : ¬ (i : Int) < l.length := of_decide_eq_false h1
                                 omega
    rw [h1, List.take_length] at hall
    rw [show smallL l = true by unfold smallL; rw [hall, decide_eq_true (by omega)]; rfl]
    conv => whnf
    try exact rfl
set_option maxHeartbeats 4000000 in
theorem tclone_ok (a : List (List UInt8)) (ha : a.length ≤ 1000000) : FnOk Try.prog 109 [.d (texD false a)] (.d (texD false a)) := by
  refine fnOk_of_run (TT := TT) (IN := lookI []) TT_ok INok_nil mixed 1000 Try.func109 rfl (enters Try.func109 (by kernel_rfl) rfl) rfl 7 (by kernel_rfl) ?_
  conv => whnf
  refine brF rfl ?_
  conv => whnf
  refine ⟨by omega, ?_⟩
  conv => whnf
  refine ⟨rfl, Nat.zero_add _, .inr rfl, fun i hi => ?_⟩
  unfold catF
  rw [if_neg (Nat.not_lt_zero _), Nat.sub_zero]
set_option maxHeartbeats 4000000 in
theorem cap_ok (nm : List UInt8) (ty ttl t : Int) (a : List (List UInt8)) (ha : a.length ≤ 1000000) : FnOk Try.prog 59 [setV nm ty ttl false a, .d (.int .u32 t)] (setV nm ty (if t < ttl then t else ttl) false a) := by
  refine fnOk_of_run (TT := TT) (IN := lookI []) TT_ok INok_nil mixed 1000 Try.func59 rfl (enters Try.func59 (by kernel_rfl) rfl) rfl 13 (by kernel_rfl) ?_
  conv => whnf
  refine .one (.data _ (tclone_ok a ha) rfl rfl ?_)
  conv => whnf
  try repeat' (first | exact True.intro | exact rfl | exact ⟨rfl, rfl, .inr rfl, fun _ _ => rfl⟩ | exact ⟨rfl, rfl, .inl rfl, fun i hi => absurd hi (Nat.not_lt_zero _)⟩ | refine And.intro ?_ ?_)
def nA : List UInt8 := [1, 97, 0]
def nB : List UInt8 := [1, 65, 0]
def nC : List UInt8 := [1, 98, 0]
def dZ : List UInt8 := [1, 122, 0]
def dB : List UInt8 := [1, 98, 0]
def dZZ : List UInt8 := [1, 90, 0]
def lA : RR := ⟨nA, 2, 1, 9, dZ⟩
def lB : RR := ⟨nB, 2, 1, 7, dB⟩
def lC : RR := ⟨nA, 2, 1, 8, dZZ⟩
def lS : St := ⟨nB, 2, 7, false, [dB, dZ]⟩
def lS1 : St := ⟨nA, 2, 7, false, [dB, dZ]⟩
theorem lv1 : findS nB 2 [lA, lB, lC] = (lS, 0) := by kernel_rfl
theorem lv2 : findS nC 2 [lA, lB, lC] = (St.no, 3) := by kernel_rfl
theorem lv3 : ofS [lA, lB, lC] = [lS1] := by kernel_rfl
theorem lv4 : lS.ok = true := by kernel_rfl
theorem lv5 : sameS lS lS = true := by kernel_rfl
theorem lv6 : saysS lS1 lS = true := by kernel_rfl
theorem lv7 : sameS lS1 lS = false := by kernel_rfl
theorem lv8 : St.no.ok = false := by kernel_rfl
def l3D : DV := .sl false 3 5 (chunk (lA.enc ++ (lB.enc ++ lC.enc)) 5)
theorem l3_eq : AEq (.d l3D) (.d (rrsD false [lA, lB, lC])) := AEq.row fun i hi => by
  match i, hi with
  | 0, _ => rfl
  | 1, _ => rfl
  | 2, _ => rfl
  | i + 3, h => exact absurd h (by omega)
set_option maxHeartbeats 8000000 in
theorem lives13_ok : FnOk Try.prog 19 [] (.d (.bool true)) := by
  have c1 := find_ok nB 2 false [lA, lB, lC] (by decide) (by decide) (fun r hr => by
    simp only [List.mem_cons, List.not_mem_nil, or_false] at hr
    rcases hr with rfl | rfl | rfl <;> decide)
  rw [lv1] at c1
  have c2 := find_ok nC 2 false [lA, lB, lC] (by decide) (by decide) (fun r hr => by
    simp only [List.mem_cons, List.not_mem_nil, or_false] at hr
    rcases hr with rfl | rfl | rfl <;> decide)
  rw [lv2] at c2
  have c3 := of_ok false [lA, lB, lC] (by decide) (fun r hr => by
    simp only [List.mem_cons, List.not_mem_nil, or_false] at hr
    rcases hr with rfl | rfl | rfl <;> decide)
  rw [lv3] at c3
  have c4 := records_ok lS
  rw [lv4] at c4
  have c5 := ssame_ok lS lS (by decide) (by decide)
  rw [lv5] at c5
  have c6 := says_ok lS1 lS
  rw [lv6] at c6
  have c7 := ssame_ok lS1 lS (by decide) (by decide)
  rw [lv7] at c7
  have c1 := c1.convA (args' := [.d (.str nB), .d (.int .u16 2), .d l3D]) ⟨.refl _, .refl _, l3_eq, True.intro⟩
  have c2 := c2.convA (args' := [.d (.str nC), .d (.int .u16 2), .d l3D]) ⟨.refl _, .refl _, l3_eq, True.intro⟩
  have c3 := c3.convA (args' := [.d l3D]) ⟨l3_eq, True.intro⟩
  have c8 := cap_ok lS.nm lS.ty lS.ttl 3 lS.data (by decide)
  have c9 := scheck_ok lS.nm lS.ty lS.ttl lS.z lS.data
  rw [show scheck lS.nm lS.ty lS.ttl lS.data = true from lv4] at c9
  have c10 := scheck_ok [] 0 0 true []
  rw [show scheck [] 0 0 [] = false from lv8] at c10
  have c10 := c10.convA (args' := [.agg [.d (.str []), .d (.int .u16 0), .d (.int .u32 0), nilS]]) ⟨AEq.aggL ⟨.refl _, .refl _, .refl _, .none _ _ _ _ _, True.intro⟩, True.intro⟩
  have c5 := c5.convA (args' := [lS.V, .agg [.d (.str nB), .d (.int .u16 2), .d (.int .u32 7), .d (.sl false 2 1 (chunk [.str dB, .str dZ] 1))]]) ⟨.refl _, AEq.aggL ⟨.refl _, .refl _, .refl _, AEq.row (fun i hi => by
    match i, hi with
    | 0, _ => rfl
    | 1, _ => rfl
    | i + 2, h => exact absurd h (by omega)), True.intro⟩, True.intro⟩
  refine fnOk_of_run (TT := TT) (IN := lookI []) TT_ok INok_nil mixed 1000 Try.func19 rfl (enters Try.func19 (by kernel_rfl) rfl) rfl 112 (by kernel_rfl) ?_
  conv => whnf
  refine .one (.frz _ _ [3] c1 ?_ rfl rfl ?_)
  · conv => whnf
    exact ⟨rfl, rfl⟩
  conv => whnf
  refine .one (.frz _ _ [5] c2 ?_ rfl rfl ?_)
  · conv => whnf
    exact ⟨rfl, rfl⟩
  conv => whnf
  refine .one (.frz _ _ [7] c3 ?_ rfl rfl ?_)
  · conv => whnf
    exact ⟨rfl, rfl⟩
  conv => whnf
  refine .one (.data _ c4 rfl rfl ?_)
  conv => whnf
  refine .view _ _ [8] c5 ?_ rfl rfl ?_
  · conv => whnf
    exact ⟨rfl, rfl⟩
  conv => whnf
  repeat (first | (refine brT rfl ?_; conv => whnf) | (refine ⟨by decide, ?_⟩; conv => whnf) | (refine .data _ c6 rfl rfl ?_; conv => whnf) | (refine .data _ c7 rfl rfl ?_; conv => whnf) | (refine .data _ c8 rfl rfl ?_; conv => whnf) | (refine .data _ c9 rfl rfl ?_; conv => whnf) | (refine .data _ c10 rfl rfl ?_; conv => whnf))
  try exact rfl
end Go.Proofs.Ytdphkaiijlekhaa
