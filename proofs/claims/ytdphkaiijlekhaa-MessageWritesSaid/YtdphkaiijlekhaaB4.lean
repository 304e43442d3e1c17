/-
  hardtackref01.Split, Make, Check. No conditions. hardtackref03: the writer that is a value: Raw, Num, place, Set. Conditions: as in Pack. hardtackref04: Parts, first, split, texts, Check. Conditions: data of no more than 100000 bytes. hardtackref03: the writer's name. Conditions: as in Pack; no more names remembered than bytes written. hardtackref05.Check, hardtackref06.Check. Conditions: data of no more than 100000 bytes. The document's writer comes to the same as the program's. Plain lemmas. Bits of a message, and remainders. Plain lemmas. hardtackref04.Write, hardtackref05.Write. Conditions: those of the writer; data of no more than 100000 bytes. hardtackref05.Write, hardtackref06.Write, Fit, Reply. Conditions: small messages. hardtackref06.Write, Fit, Reply. Conditions: small messages.
-/
import Derived.Test.YtdphkaiijlekhaaB1
import Derived.Test.YtdphkaiijlekhaaB2
import Derived.Test.YtdphkaiijlekhaaB3
set_option linter.unusedVariables false
set_option linter.unusedSimpArgs false
namespace Go.Proofs.Ytdphkaiijlekhaa
open Go Go.Eng
/-- Labels, out of bytes. -/
def splitN : Nat → List UInt8 → Option (List (List UInt8))
  | 0, _ => none
  | m + 1, r => if r.length = 0 then none else if bt r 0 = 0 then (if r.length = 1 then some [] else none) else
      if bt r 0 > 63 ∨ 1 + bt r 0 > r.length then none else (splitN m (r.drop (1 + bt r 0))).map (fun ls => (r.drop 1).take (bt r 0) :: ls)
def labelsOf (s : List UInt8) : Option (List (List UInt8)) := if s.length > 255 then none else splitN (s.length + 1) s
def splitR : Option (List (List UInt8)) → SV
  | none => .tup [.any, .d .ff]
  | some l => .tup [.d (.sl false l.length 1 (strs l)), .d .tt]
structure SpSt where
  at_ : Nat
  l : List (List UInt8)
  m : Nat
set_option maxRecDepth 100000 in
set_option maxHeartbeats 4000000 in
theorem r1split_ok (s : List UInt8) : FnOk Try.prog 137 [.d (.str s)] (splitR (labelsOf s)) := by
  refine fnOk_of_run (TT := TT) (IN := lookI []) TT_ok INok_nil mixed 1000 Try.func137 rfl (enters Try.func137 (by kernel_rfl) rfl) rfl 52 (by kernel_rfl) ?_
  conv => whnf
  refine ⟨fun h1 => ?_, fun h1 => ?_⟩
  · have h1 : (s.length : Int) > 255 := of_decide_eq_true h1
    have e : labelsOf s = none := by unfold labelsOf; rw [if_pos (by omega)]
    rw [e]
    conv => whnf
    repeat' (first | exact True.intro | exact rfl | exact ⟨rfl, rfl, .inr rfl, fun _ _ => rfl⟩ | exact ⟨rfl, rfl, .inl rfl, fun i hi => absurd hi (Nat.not_lt_zero _)⟩ | refine And.intro ?_ ?_)
  have h1 : ¬ (s.length : Int) > 255 := of_decide_eq_false h1
  have e : labelsOf s = splitN (s.length + 1) s := by unfold labelsOf; rw [if_neg (by omega)]
  have hw : ∀ n : Int, -9223372036854775808 ≤ n ∧ n ≤ 9223372036854775807 → IntKind.i64.wrap n = n := fun n h => w64_in n h
  conv => whnf
  refine .csT 4 0 9 1 (fun _ => []) rfl rfl ?_
  refine .inv SpSt (fun x => x.at_ ≤ s.length ∧ s.length < x.at_ + x.m ∧ x.l.length ≤ x.at_ ∧ (splitN x.m (s.drop x.at_)).map (x.l ++ ·) = splitN (s.length + 1) s) (fun x => [(4, .all 1), (5, .d (.int .i64 x.at_))]) (fun x => [(1, .row 9 1 x.l.length .no (strs x.l))]) (fun x => s.length - x.at_) ⟨⟨0, [], s.length + 1⟩, [0, 1], ⟨Nat.zero_le _, by show s.length < 0 + (s.length + 1); omega, Nat.zero_le _, by simp⟩, ?_⟩ ?_
  · conv => whnf
    repeat' (first | exact True.intro | exact rfl | (intro i hi; exact absurd hi (Nat.not_lt_zero _)) | exact fun _ _ => rfl | refine And.intro ?_ ?_)
  intro x hx
  obtain ⟨hk, hm, hll, hrest⟩ := hx
  conv => whnf
  generalize x.at_ = k at hk hm hll hrest ⊢
  generalize x.l = l at hll hrest ⊢
  generalize x.m = m at hm hrest ⊢
  have hdl : (s.drop k).length = s.length - k := by simp
  have hd0 : bt (s.drop k) 0 = bt s k := by rw [bt_drop]; rfl
  have hbl := bt_lt s k
  obtain ⟨m', rfl⟩ : ∃ m', m = m' + 1 := ⟨m - 1, by omega⟩
  conv at hrest => lhs; unfold splitN
  rw [hdl, hd0] at hrest
  refine ⟨fun c0 => ?_, fun c0 => ?_⟩
  · have c0' : k < s.length := (by have h : (k : Int) < s.length := of_decide_eq_true c0; omega)
    rw [if_neg (by omega)] at hrest
    conv => whnf
    refine ⟨by omega, ?_⟩
    conv => whnf
    rw [bt_eq, hw _ (by omega)]
    refine ⟨fun c1 => ?_, fun c1 => ?_⟩
    · have c1 : bt s k = 0 := by have h : (bt s k : Int) = 0 := by simpa using c1
                                 omega
      rw [if_pos c1] at hrest
      conv => whnf
      rw [hw ((s.length : Int) - 1) (by omega)]
      by_cases hz : s.length - k = 1
      · rw [if_pos hz] at hrest
        rw [e, ← hrest]
        conv => whnf
        refine ⟨?_, ?_, True.intro⟩
        · exact ⟨rfl, by simp, .inr rfl, fun i hi => by simp⟩
        · show ((k : Int) == (s.length : Int) - 1) = true
          simp
          omega
      · rw [if_neg hz] at hrest
        rw [e, ← hrest]
        conv => whnf
        refine ⟨True.intro, ?_, True.intro⟩
        show ((k : Int) == (s.length : Int) - 1) = false
        simp
        omega
    have c1 : bt s k ≠ 0 := by have h : (bt s k : Int) ≠ 0 := by simpa using c1
                               omega
    rw [if_neg c1] at hrest
    conv => whnf
    refine ⟨fun c2 => ?_, fun c2 => ?_⟩
    · have c2 : (bt s k : Int) > 63 := of_decide_eq_true c2
      rw [if_pos (.inl (by omega))] at hrest
      rw [e, ← hrest]
      conv => whnf
      exact ⟨True.intro, rfl, True.intro⟩
    have c2 : ¬ (bt s k : Int) > 63 := of_decide_eq_false c2
    conv => whnf
    rw [hw ((k : Int) + 1) (by omega), hw ((k : Int) + 1 + bt s k) (by omega)]
    refine ⟨fun c3 => ?_, fun c3 => ?_⟩
    · have c3 : (k : Int) + 1 + bt s k > s.length := of_decide_eq_true c3
      rw [if_pos (.inr (by omega))] at hrest
      rw [e, ← hrest]
      conv => whnf
      exact ⟨True.intro, rfl, True.intro⟩
    have c3 : ¬ (k : Int) + 1 + bt s k > s.length := of_decide_eq_false c3
    rw [if_neg (by omega)] at hrest
    conv => whnf
    rw [hw ((k : Int) + 1) (by omega), hw ((k : Int) + 1 + bt s k) (by omega)]
    refine ⟨by omega, ?_⟩
    conv => whnf
    refine ⟨by omega, ?_⟩
    conv => whnf
    rw [hw (1 + (bt s k : Int)) (by omega), hw ((k : Int) + (1 + bt s k)) (by omega), show (k : Int) + (1 + (bt s k : Int)) = ((k + (1 + bt s k) : Nat) : Int) by omega]
    refine ⟨⟨k + (1 + bt s k), l ++ [(s.drop (k + 1)).take (bt s k)], m'⟩, [0, 3], ⟨by show k + (1 + bt s k) ≤ _; omega, by show s.length < k + (1 + bt s k) + m'; omega, by show (l ++ [_]).length ≤ k + (1 + bt s k); rw [List.length_append]; show l.length + 1 ≤ _; omega, ?_⟩, by show s.length - (k + (1 + bt s k)) < s.length - k; omega, ?_⟩
    · rw [← hrest, List.drop_drop, List.drop_drop]
      simp [Function.comp_def]
    conv => whnf
    repeat' (first | exact True.intro | exact rfl | refine And.intro ?_ ?_)
    · simp
    · refine strs_cat _ _ _ ?_
      show [DV.str _] = [DV.str _]
      congr 2
      unfold sub
      rw [show ((k : Int) + 1 + (bt s k : Int)).toNat - ((k : Int) + 1).toNat = bt s k by omega, show ((k : Int) + 1).toNat = k + 1 by omega]
  · have c0' : k = s.length := (by have h : ¬ (k : Int) < s.length := of_decide_eq_false c0; omega)
    rw [if_pos (by omega)] at hrest
    rw [e, ← hrest]
    conv => whnf
    exact ⟨True.intro, rfl, True.intro⟩
theorem mk_len_cons0 (l : List UInt8) (ls : List (List UInt8)) : (mk (l :: ls)).length = 1 + l.length + (mk ls).length := by simp [mk, lab_len]
/-- What is split is a name. -/
theorem splitN_mk : ∀ (m : Nat) (r : List UInt8) (ls : List (List UInt8)), splitN m r = some ls → (∀ l ∈ ls, okL l) ∧ r = mk ls
  | 0, _, _, h => by cases h
  | m + 1, r, ls, h => by
    unfold splitN at h
    split at h
    · cases h
    · rename_i h0
      split at h
      · rename_i h1
        split at h
        · rename_i h2
          cases h
          refine ⟨fun l hl => (by cases hl), ?_⟩
          match r, h2 with
          | [b], _ =>
            have : b.toNat = 0 := by simpa [bt] using h1
            rw [mk, UInt8.toNat_inj.1 (show b.toNat = (0 : UInt8).toNat from this)]
        · cases h
      · rename_i h1
        split at h
        · cases h
        · rename_i h2
          obtain ⟨ks, hk, rfl⟩ := Option.map_eq_some_iff.1 h
          obtain ⟨a1, a2⟩ := splitN_mk m _ ks hk
          have hlen : ((r.drop 1).take (bt r 0)).length = bt r 0 := by simp; omega
          refine ⟨fun l hl => ?_, ?_⟩
          · rcases List.mem_cons.1 hl with rfl | hl
            · unfold okL; omega
            · exact a1 l hl
          · rw [mk, ← a2]
            unfold lab
            rw [hlen]
            match r, h0 with
            | b :: r, _ =>
              have e : bt (b :: r) 0 = b.toNat := by simp [bt]
              rw [e]
              simp [show 1 + b.toNat = b.toNat + 1 by omega]
theorem splitN_of : ∀ (ls : List (List UInt8)) (m : Nat), (∀ l ∈ ls, okL l) → (mk ls).length ≤ m → splitN m (mk ls) = some ls
  | [], m, _, hm => by
    cases m with
    | zero => have : (mk []).length = 1 := rfl
              omega
    | succ m => rfl
  | l :: ls, m, h, hm => by
    have hl := h l (List.mem_cons_self ..)
    have hlen := mk_len_cons0 l ls
    have hp := mk_pos ls
    cases m with
    | zero => omega
    | succ m =>
      have hb : bt (mk (l :: ls)) 0 = l.length := bt_lab l (mk ls) hl
      have h1 := hl.1
      have h2 := hl.2
      unfold splitN
      rw [if_neg (by omega), hb, if_neg (by omega), if_neg (by omega)]
      have hd : (mk (l :: ls)).drop (1 + l.length) = mk ls := drop_lab l (mk ls)
      rw [hd, splitN_of ls m (fun x hx => h x (List.mem_cons_of_mem _ hx)) (by omega)]
      show some ((((mk (l :: ls)).drop 1).take l.length) :: ls) = _
      have : ((mk (l :: ls)).drop 1) = l ++ mk ls := rfl
      rw [this, List.take_left]
theorem labelsOf_mk {s : List UInt8} {ls : List (List UInt8)} (h : labelsOf s = some ls) : s.length ≤ 255 ∧ (∀ l ∈ ls, okL l) ∧ s = mk ls := by
  unfold labelsOf at h
  split at h
  · cases h
  · exact ⟨by omega, splitN_mk _ _ _ h⟩
theorem labelsOf_of {ls : List (List UInt8)} (h : ∀ l ∈ ls, okL l) (hl : (mk ls).length ≤ 255) : labelsOf (mk ls) = some ls := by
  unfold labelsOf
  rw [if_neg (by omega)]
  exact splitN_of ls _ h (by omega)
theorem isName_labels (s : List UInt8) : isName s ↔ (labelsOf s).isSome = true := by
  rw [isName_iff]
  constructor
  · rintro ⟨h1, ls, h2, rfl⟩
    rw [labelsOf_of h2 h1]
    rfl
  · intro h
    obtain ⟨ls, hls⟩ := Option.isSome_iff_exists.1 h
    obtain ⟨h1, h2, h3⟩ := labelsOf_mk hls
    exact ⟨h1, ls, h2, h3⟩
set_option maxRecDepth 100000 in
theorem r1check_ok (s : List UInt8) : FnOk Try.prog 87 [.d (.str s)] (.d (.int .i64 (if isName s then 0 else 2))) := by
  refine fnOk_of_run (TT := TT) (IN := lookI []) TT_ok INok_nil mixed 1000 Try.func87 rfl (enters Try.func87 (by kernel_rfl) rfl) rfl 11 (by kernel_rfl) ?_
  conv => whnf
  refine .one (.data _ (r1split_ok s) rfl (by cases labelsOf s <;> rfl) ?_)
  have hn := isName_labels s
  cases hl : labelsOf s with
  | none =>
    have : ¬ isName s := fun h => by rw [hn, hl] at h; cases h
    rw [if_neg this]
    conv => whnf
    try exact rfl
  | some ls =>
    have : isName s := hn.2 (by rw [hl]; rfl)
    rw [if_pos this]
    conv => whnf
    try exact rfl
set_option maxRecDepth 100000 in
set_option maxHeartbeats 4000000 in
theorem len_byte {q : List UInt8} (h : q.length ≤ 255) : toBytes [IntKind.u8.wrap (q.length : Int)] = [UInt8.ofNat q.length] := by
  show [UInt8.ofNat (IntKind.u8.wrap (q.length : Int)).toNat] = _
  have : (IntKind.u8.wrap (q.length : Int)).toNat = q.length := by rw [IntKind.wrap_u8]; omega
  rw [this]
theorem labs_all {l : List (List UInt8)} (hs : ∀ x ∈ l, x.length ≤ 255) : (labs l).length ≤ 256 * l.length := by
  induction l with
  | nil => exact Nat.le_refl _
  | cons a l ih =>
    have h1 := hs a (List.mem_cons_self ..)
    have h2 := ih (fun x hx => hs x (List.mem_cons_of_mem _ hx))
    show (lab a ++ labs l).length ≤ 256 * (l.length + 1)
    rw [List.length_append, lab_len]
    omega
theorem r1make_ok (z : Bool) (l : List (List UInt8)) (hl : l.length ≤ 100000) (hs : ∀ x ∈ l, x.length ≤ 255) : FnOk Try.prog 167 [.d (.sl z l.length 1 (strs l))] (.d (.str (mk l))) := by
  refine fnOk_of_run (TT := TT) (IN := lookI []) TT_ok INok_nil mixed 1000 Try.func167 rfl (enters Try.func167 (by kernel_rfl) rfl) rfl 23 (by kernel_rfl) ?_
  conv => whnf
  refine .inv Nat (fun i => i ≤ l.length) (fun i => [(3, .d (.str (labs (l.take i)))), (8, .d (.int .i64 i))]) (fun _ => []) (fun i => l.length - i) ⟨0, [], Nat.zero_le _, ?_⟩ ?_
  · conv => whnf
    repeat' (first | exact True.intro | exact rfl | exact fun _ => Iff.rfl | exact fun _ _ => rfl | exact renM_ent rfl _ | refine And.intro ?_ ?_)
  intro i hi
  conv => whnf
  have hll := labs_all (l := l.take i) (fun x hx => hs x (List.mem_of_mem_take hx))
  have htl : (l.take i).length ≤ l.length := by rw [List.length_take]; omega
  refine ⟨fun c1 => ?_, fun c1 => ?_⟩
  · have c1 : (i : Int) < l.length := of_decide_eq_true c1
    have hil : i < l.length := by omega
    obtain ⟨q, hq⟩ : ∃ q, l[i]?.getD [] = q := ⟨_, rfl⟩
    have hq2 : l[i]? = some q := by rw [← hq, List.getElem?_eq_getElem hil]; rfl
    have htk : l.take (i + 1) = l.take i ++ [q] := by rw [List.take_add_one, hq2]; rfl
    have hql := hs q (List.mem_of_getElem? hq2)
    have hw1 : IntKind.i64.wrap ((i : Int) + 1) = ((i + 1 : Nat) : Int) := by rw [w64_in _ (by omega)]; omega
    conv => whnf
    refine ⟨by omega, ?_⟩
    conv => whnf
    rw [Int.toNat_natCast, hq, len_byte hql]
    refine ⟨by simp only [List.length_cons, List.length_nil]; omega, ?_⟩
    conv => whnf
    refine ⟨by simp only [List.length_append, List.length_cons, List.length_nil]; omega, ?_⟩
    conv => whnf
    refine ⟨i + 1, [], hil, by omega, ?_⟩
    conv => whnf
    rw [hw1]
    have hcat : labs (l.take i) ++ ([UInt8.ofNat q.length] ++ q) = labs (l.take (i + 1)) := by rw [htk, labs_snoc]; rfl
    rw [hcat]
    repeat' (first | exact True.intro | exact rfl | exact fun _ => Iff.rfl | exact fun _ _ => rfl | exact renM_ent rfl _ | refine And.intro ?_ ?_)
  · have c1 : ¬ (i : Int) < l.length := of_decide_eq_false c1
    rw [List.take_of_length_le (by omega)] at hll ⊢
    conv => whnf
    refine ⟨by show (labs l).length + 1 ≤ _; omega, ?_⟩
    conv => whnf
    exact congrArg DV.str (labs_mk l)
end Go.Proofs.Ytdphkaiijlekhaa
namespace Go.Proofs.Ytdphkaiijlekhaa
open Go Go.Eng
def seenD (l : List (List UInt8 × Int)) : DV := .sl (Nat.beq l.length 0) l.length 2 (fun i => [.str (l.getD i default).1, .int .i64 (l.getD i default).2])
/-- The writer's cells. -/
def Wr.V (w : Wr) : List SV := [.d (.str w.buf), .d (.int .i64 w.limit), .d (.bool w.full), .d (seenD w.rests)]
set_option maxRecDepth 100000 in
set_option maxHeartbeats 4000000 in
theorem r3raw_ok (w : Wr) (hw : w.Ok) (s : List UInt8) (hs : s.length < 4611686018427387904) : FnOk Try.prog 133 [.agg w.V, .d (.str s)] (.agg (w.piece s).V) := by
  refine fnOk_of_run (TT := TT) (IN := lookI []) TT_ok INok_nil mixed 1000 Try.func133 rfl (enters Try.func133 (by kernel_rfl) rfl) rfl 30 (by kernel_rfl) ?_
  have hlen := hw.len
  have hhi := hw.hi
  have hlo := hw.lo
  obtain ⟨buf, limit, full, rests⟩ := w
  simp only at hlen hhi hlo
  have hwr : IntKind.i64.wrap (limit - buf.length) = limit - buf.length := w64_in _ (by omega)
  cases full
  · conv => whnf
    try (refine brF rfl ?_; conv => whnf)
    rw [hwr]
    refine ⟨fun h1 => ?_, fun h1 => ?_⟩
    · have h1 : (s.length : Int) > limit - buf.length := of_decide_eq_true h1
      cases s with
      | nil =>
        have e : (Wr.mk buf limit false rests).piece [] = ⟨buf, limit, false, rests⟩ := by
          unfold Wr.piece Wr.fits
          simp
        rw [e]
        conv => whnf
        try (refine brF rfl ?_; conv => whnf)
        repeat' (first | exact True.intro | exact rfl | exact ⟨rfl, rfl, .inr rfl, fun _ _ => rfl⟩ | exact ⟨rfl, rfl, .inl rfl, fun i hi => absurd hi (Nat.not_lt_zero _)⟩ | refine And.intro ?_ ?_)
      | cons b s =>
        have e : (Wr.mk buf limit false rests).piece (b :: s) = ⟨buf, limit, true, rests⟩ := by
          unfold Wr.piece Wr.fits
          rw [if_neg (by simp at h1 ⊢; omega)]
        rw [e]
        conv => whnf
        try (refine brF rfl ?_; conv => whnf)
        repeat' (first | exact True.intro | exact rfl | exact ⟨rfl, rfl, .inr rfl, fun _ _ => rfl⟩ | exact ⟨rfl, rfl, .inl rfl, fun i hi => absurd hi (Nat.not_lt_zero _)⟩ | refine And.intro ?_ ?_)
    · have h1 : ¬ (s.length : Int) > limit - buf.length := of_decide_eq_false h1
      have e : (Wr.mk buf limit false rests).piece s = ⟨buf ++ s, limit, false, rests⟩ := by
        unfold Wr.piece Wr.fits
        rw [if_pos (by simp; omega)]
      rw [e]
      conv => whnf
      refine ⟨by show buf.length + s.length ≤ _; omega, ?_⟩
      conv => whnf
      repeat' (first | exact True.intro | exact rfl | exact ⟨rfl, rfl, .inr rfl, fun _ _ => rfl⟩ | exact ⟨rfl, rfl, .inl rfl, fun i hi => absurd hi (Nat.not_lt_zero _)⟩ | refine And.intro ?_ ?_)
  · have e : (Wr.mk buf limit true rests).piece s = ⟨buf, limit, true, rests⟩ := by
      unfold Wr.piece Wr.fits
      rw [if_neg (by simp)]
    rw [e]
    conv => whnf
    try (refine brT rfl ?_; conv => whnf)
    try (refine brT rfl ?_; conv => whnf)
    repeat' (first | exact True.intro | exact rfl | exact ⟨rfl, rfl, .inr rfl, fun _ _ => rfl⟩ | exact ⟨rfl, rfl, .inl rfl, fun i hi => absurd hi (Nat.not_lt_zero _)⟩ | refine And.intro ?_ ?_)
def placeR : Option Int → SV
  | none => .tup [.d (.int .i64 0), .d .ff]
  | some a => .tup [.d (.int .i64 a), .d .tt]
set_option maxRecDepth 100000 in
set_option maxHeartbeats 4000000 in
theorem r3place_ok (w : Wr) (hl : w.rests.length ≤ 2000000) (n : List UInt8) : FnOk Try.prog 168 [.agg w.V, .d (.str n)] (placeR (fndS w.rests n)) := by
  refine fnOk_of_run (TT := TT) (IN := lookI []) TT_ok INok_nil mixed 1000 Try.func168 rfl (enters Try.func168 (by kernel_rfl) rfl) rfl 20 (by kernel_rfl) ?_
  conv => whnf
  refine .inv Nat (fun i => i ≤ w.rests.length ∧ fndS (w.rests.drop i) n = fndS w.rests n) (fun i => [(11, .d (.int .i64 i))]) (fun _ => []) (fun i => w.rests.length - i) ⟨0, [0], ⟨Nat.zero_le _, rfl⟩, ?_⟩ ?_
  · conv => whnf
    repeat' (first | exact True.intro | exact rfl | exact fun _ => Iff.rfl | exact fun _ _ => rfl | exact renM_ent rfl _ | refine And.intro ?_ ?_)
  rintro i ⟨hi, hr⟩
  conv => whnf
  refine ⟨fun c1 => ?_, fun c1 => ?_⟩
  · have c1 : (i : Int) < w.rests.length := of_decide_eq_true c1
    have hil : i < w.rests.length := by omega
    obtain ⟨q, hq⟩ : ∃ q, w.rests.getD i default = q := ⟨_, rfl⟩
    have hq2 : w.rests[i]? = some q := by rw [← hq, List.getD, List.getElem?_eq_getElem hil]; rfl
    have hdr : w.rests.drop i = q :: w.rests.drop (i + 1) := by
      rw [List.drop_eq_getElem_cons hil]
      congr 1
      rw [List.getElem?_eq_getElem hil] at hq2
      exact Option.some.inj hq2
    rw [hdr] at hr
    simp only [fndS] at hr
    conv => whnf
    refine ⟨by omega, ?_⟩
    conv => whnf
    rw [Int.toNat_natCast, hq]
    refine ⟨fun c2 => ?_, fun c2 => ?_⟩
    · have c2 : q.1 = n := by simpa using c2
      rw [if_pos c2.symm] at hr
      rw [← hr]
      conv => whnf
      repeat' (first | exact True.intro | exact rfl | exact ⟨rfl, rfl, .inr rfl, fun _ _ => rfl⟩ | exact ⟨rfl, rfl, .inl rfl, fun i hi => absurd hi (Nat.not_lt_zero _)⟩ | refine And.intro ?_ ?_)
    · have c2 : ¬ q.1 = n := by simpa using c2
      rw [if_neg (fun e => c2 e.symm)] at hr
      have hw1 : IntKind.i64.wrap ((i : Int) + 1) = ((i + 1 : Nat) : Int) := by rw [w64_in _ (by omega)]; omega
      conv => whnf
      refine ⟨i + 1, [0], ⟨hil, hr⟩, by omega, ?_⟩
      conv => whnf
      rw [hw1]
      repeat' (first | exact True.intro | exact rfl | exact fun _ => Iff.rfl | exact fun _ _ => rfl | exact renM_ent rfl _ | refine And.intro ?_ ?_)
  · have c1 : ¬ (i : Int) < w.rests.length := of_decide_eq_false c1
    rw [List.drop_of_length_le (by omega)] at hr
    rw [← hr]
    conv => whnf
    repeat' (first | exact True.intro | exact rfl | exact ⟨rfl, rfl, .inr rfl, fun _ _ => rfl⟩ | exact ⟨rfl, rfl, .inl rfl, fun i hi => absurd hi (Nat.not_lt_zero _)⟩ | refine And.intro ?_ ?_)
set_option maxRecDepth 100000 in
set_option maxHeartbeats 4000000 in
theorem r3set_ok (w : Wr) (hw : w.Ok) (at_ : Int) (n : Int) (hn : 0 ≤ n ∧ n < 65536) (ha : -9223372036854775808 ≤ at_ ∧ at_ ≤ 9223372036854775807) : FnOk Try.prog 136 [.agg w.V, .d (.int .i64 at_), .d (.int .u16 n)] (.agg (w.set at_ n).V) := by
  refine fnOk_of_run (TT := TT) (IN := lookI []) TT_ok INok_nil mixed 1000 Try.func136 rfl (enters Try.func136 (by kernel_rfl) rfl) rfl 35 (by kernel_rfl) ?_
  have hlen := hw.len
  have hhi := hw.hi
  have hwr : IntKind.i64.wrap ((w.buf.length : Int) - 2) = w.buf.length - 2 := w64_in _ (by omega)
  conv => whnf
  refine ⟨fun h1 => ?_, fun h1 => ?_⟩
  · have h1 : at_ ≥ 0 := of_decide_eq_true h1
    conv => whnf
    rw [hwr]
    refine ⟨fun h2 => ?_, fun h2 => ?_⟩
    · have h2 : at_ ≤ w.buf.length - 2 := of_decide_eq_true h2
      have e : w.set at_ n = { w with buf := two w.buf at_.toNat (UInt8.ofNat (IntKind.u8.wrap (n.fdiv 256)).toNat) (UInt8.ofNat (IntKind.u8.wrap n).toNat) } := by unfold Wr.set; rw [if_neg (by omega)]
      have hs1 : sub w.buf 0 at_ = w.buf.take at_.toNat := by unfold sub; simp
      have hs2 : sub w.buf (at_ + 2) (w.buf.length : Int) = w.buf.drop (at_.toNat + 2) := by
        unfold sub
        rw [show (at_ + 2).toNat = at_.toNat + 2 by omega, Int.toNat_natCast, List.take_of_length_le (by rw [List.length_drop]; omega)]
      have hw2 : IntKind.i64.wrap (at_ + 2) = at_ + 2 := w64_in _ (by omega)
      rw [e]
      conv => whnf
      refine ⟨by omega, ?_⟩
      rw [hs1]
      conv => whnf
      refine ⟨by decide, ?_⟩
      conv => whnf
      refine ⟨by decide, ?_⟩
      conv => whnf
      refine ⟨by simp only [List.length_take]; show _ + 2 ≤ _; omega, ?_⟩
      conv => whnf
      rw [hw2]
      refine ⟨by omega, ?_⟩
      rw [hs2]
      conv => whnf
      refine ⟨by simp only [List.length_append, List.length_take, List.length_drop]; show _ + 2 + _ ≤ _; omega, ?_⟩
      have hb1 : IntKind.u8.wrap (IntKind.u16.wrap (n.tdiv 256)) = IntKind.u8.wrap (n.fdiv 256) := by
        rw [Int.tdiv_eq_ediv_of_nonneg hn.1, Int.fdiv_eq_ediv_of_nonneg _ (by decide), IntKind.wrap_u16, IntKind.wrap_u8, IntKind.wrap_u8]
        omega
      have hb2 : IntKind.u8.wrap (n.tmod 256) = IntKind.u8.wrap n := by
        rw [Int.tmod_eq_emod_of_nonneg hn.1, IntKind.wrap_u8, IntKind.wrap_u8]
        omega
      rw [hb1, hb2]
      have hcat : w.buf.take at_.toNat ++ toBytes [IntKind.u8.wrap (n.fdiv 256), IntKind.u8.wrap n] ++ w.buf.drop (at_.toNat + 2) = two w.buf at_.toNat (UInt8.ofNat (IntKind.u8.wrap (n.fdiv 256)).toNat) (UInt8.ofNat (IntKind.u8.wrap n).toNat) := by
        unfold two
        rw [List.append_assoc]
        rfl
      rw [hcat]
      conv => whnf
      repeat' (first | exact True.intro | exact rfl | exact ⟨rfl, rfl, .inr rfl, fun _ _ => rfl⟩ | exact ⟨rfl, rfl, .inl rfl, fun i hi => absurd hi (Nat.not_lt_zero _)⟩ | refine And.intro ?_ ?_)
    · have h2 : ¬ at_ ≤ w.buf.length - 2 := of_decide_eq_false h2
      have e : w.set at_ n = w := by unfold Wr.set; rw [if_pos (.inr (by omega))]
      rw [e]
      conv => whnf
      repeat' (first | exact True.intro | exact rfl | exact ⟨rfl, rfl, .inr rfl, fun _ _ => rfl⟩ | exact ⟨rfl, rfl, .inl rfl, fun i hi => absurd hi (Nat.not_lt_zero _)⟩ | refine And.intro ?_ ?_)
  · have h1 : ¬ at_ ≥ 0 := of_decide_eq_false h1
    have e : w.set at_ n = w := by unfold Wr.set; rw [if_pos (.inl (by omega))]
    rw [e]
    conv => whnf
    repeat' (first | exact True.intro | exact rfl | exact ⟨rfl, rfl, .inr rfl, fun _ _ => rfl⟩ | exact ⟨rfl, rfl, .inl rfl, fun i hi => absurd hi (Nat.not_lt_zero _)⟩ | refine And.intro ?_ ?_)
theorem num2b (n : Int) (hn : 0 ≤ n ∧ n < 4294967296) : [UInt8.ofNat (IntKind.u8.wrap ((IntKind.u64.wrap (n.tdiv 256)).tmod 256)).toNat, UInt8.ofNat (IntKind.u8.wrap (n.tmod 256)).toNat] = be 2 n := by
  have h1 : be 2 n = [UInt8.ofNat (IntKind.u8.wrap (n.fdiv 256)).toNat, UInt8.ofNat (IntKind.u8.wrap (n.fdiv 1)).toNat] := rfl
  have w1 : IntKind.u64.wrap (n.tdiv 256) = n / 256 := by rw [Int.tdiv_eq_ediv_of_nonneg hn.1, IntKind.wrap_u64]; omega
  have u : ∀ x : Int, 0 ≤ x → IntKind.u8.wrap (x.tmod 256) = IntKind.u8.wrap x := fun x hx => by rw [Int.tmod_eq_emod_of_nonneg hx, IntKind.wrap_u8, IntKind.wrap_u8]; omega
  rw [w1, u n hn.1, u (n / 256) (by omega)]
  rw [h1, Int.fdiv_eq_ediv_of_nonneg _ (by decide), Int.fdiv_eq_ediv_of_nonneg _ (by decide), Int.ediv_one]
theorem num4b (n : Int) (hn : 0 ≤ n ∧ n < 4294967296) : [UInt8.ofNat (IntKind.u8.wrap ((IntKind.u64.wrap ((IntKind.u64.wrap ((IntKind.u64.wrap (n.tdiv 256)).tdiv 256)).tdiv 256)).tmod 256)).toNat, UInt8.ofNat (IntKind.u8.wrap ((IntKind.u64.wrap ((IntKind.u64.wrap (n.tdiv 256)).tdiv 256)).tmod 256)).toNat, UInt8.ofNat (IntKind.u8.wrap ((IntKind.u64.wrap (n.tdiv 256)).tmod 256)).toNat, UInt8.ofNat (IntKind.u8.wrap (n.tmod 256)).toNat] = be 4 n := by
  have h1 : be 4 n = [UInt8.ofNat (IntKind.u8.wrap (n.fdiv 16777216)).toNat, UInt8.ofNat (IntKind.u8.wrap (n.fdiv 65536)).toNat, UInt8.ofNat (IntKind.u8.wrap (n.fdiv 256)).toNat, UInt8.ofNat (IntKind.u8.wrap (n.fdiv 1)).toNat] := rfl
  have w1 : IntKind.u64.wrap (n.tdiv 256) = n / 256 := by rw [Int.tdiv_eq_ediv_of_nonneg hn.1, IntKind.wrap_u64]; omega
  have w2 : IntKind.u64.wrap ((n / 256).tdiv 256) = n / 65536 := by rw [Int.tdiv_eq_ediv_of_nonneg (by omega), IntKind.wrap_u64]; omega
  have w3 : IntKind.u64.wrap ((n / 65536).tdiv 256) = n / 16777216 := by rw [Int.tdiv_eq_ediv_of_nonneg (by omega), IntKind.wrap_u64]; omega
  have u : ∀ x : Int, 0 ≤ x → IntKind.u8.wrap (x.tmod 256) = IntKind.u8.wrap x := fun x hx => by rw [Int.tmod_eq_emod_of_nonneg hx, IntKind.wrap_u8, IntKind.wrap_u8]; omega
  rw [w1, w2, w3, u n hn.1, u (n / 256) (by omega), u (n / 65536) (by omega), u (n / 16777216) (by omega)]
  rw [h1, Int.fdiv_eq_ediv_of_nonneg _ (by decide), Int.fdiv_eq_ediv_of_nonneg _ (by decide), Int.fdiv_eq_ediv_of_nonneg _ (by decide), Int.fdiv_eq_ediv_of_nonneg _ (by decide), Int.ediv_one]
theorem all2 {f : Nat → List DV} {a b : Int} (h0 : f 0 = [.int .u8 a]) (h1 : f 1 = [.int .u8 b]) : areBytes 2 f := fun i hi => match i, hi with
  | 0, _ => ⟨a, h0⟩
  | 1, _ => ⟨b, h1⟩
  | i + 2, h => absurd h (by omega)
theorem all4 {f : Nat → List DV} {a b c d : Int} (h0 : f 0 = [.int .u8 a]) (h1 : f 1 = [.int .u8 b]) (h2 : f 2 = [.int .u8 c]) (h3 : f 3 = [.int .u8 d]) : areBytes 4 f := fun i hi => match i, hi with
  | 0, _ => ⟨a, h0⟩
  | 1, _ => ⟨b, h1⟩
  | 2, _ => ⟨c, h2⟩
  | 3, _ => ⟨d, h3⟩
  | i + 4, h => absurd h (by omega)
set_option maxRecDepth 100000 in
set_option maxHeartbeats 4000000 in
theorem r3num_ok (w : Wr) (hw : w.Ok) (k : Nat) (hk : k = 2 ∨ k = 4) (n : Int) (hn : 0 ≤ n ∧ n < 4294967296) : FnOk Try.prog 83 [.agg w.V, .d (.int .i64 k), .d (.int .u64 n)] (.agg (w.num k n).V) := by
  refine fnOk_of_run (TT := TT) (IN := lookI []) TT_ok INok_nil mixed 1000 Try.func83 rfl (enters Try.func83 (by kernel_rfl) rfl) rfl 44 (by kernel_rfl) ?_
  rcases hk with rfl | rfl
  · have c := r3raw_ok w hw (be 2 n) (by show 2 < _; omega)
    rw [← num2b n hn] at c
    have e : w.num 2 n = w.piece (be 2 n) := rfl
    rw [e, ← num2b n hn]
    conv => whnf
    repeat (first | (refine brT rfl ?_; conv => whnf) | (refine brF rfl ?_; conv => whnf) | (refine .once ?_; conv => whnf) | (refine ⟨by decide, ?_⟩; conv => whnf) | (refine And.intro (Nat.le_of_ble_eq_true rfl) ?_; conv => whnf))
    refine ⟨all2 rfl rfl, ?_⟩
    conv => whnf
    refine .one (.data _ c rfl rfl ?_)
    conv => whnf
    repeat' (first | exact True.intro | exact rfl | exact ⟨rfl, rfl, .inr rfl, fun _ _ => rfl⟩ | exact ⟨rfl, rfl, .inl rfl, fun i hi => absurd hi (Nat.not_lt_zero _)⟩ | refine And.intro ?_ ?_)
  · have c := r3raw_ok w hw (be 4 n) (by show 4 < _; omega)
    rw [← num4b n hn] at c
    have e : w.num 4 n = w.piece (be 4 n) := rfl
    rw [e, ← num4b n hn]
    conv => whnf
    repeat (first | (refine brT rfl ?_; conv => whnf) | (refine brF rfl ?_; conv => whnf) | (refine .once ?_; conv => whnf) | (refine ⟨by decide, ?_⟩; conv => whnf) | (refine And.intro (Nat.le_of_ble_eq_true rfl) ?_; conv => whnf))
    refine ⟨all4 rfl rfl rfl rfl, ?_⟩
    conv => whnf
    refine .one (.data _ c rfl rfl ?_)
    conv => whnf
    repeat' (first | exact True.intro | exact rfl | exact ⟨rfl, rfl, .inr rfl, fun _ _ => rfl⟩ | exact ⟨rfl, rfl, .inl rfl, fun i hi => absurd hi (Nat.not_lt_zero _)⟩ | refine And.intro ?_ ?_)
/-- A name's labels, one by one, as the document's writer writes them. -/
def Wr.nameR (p : Bool) : Wr → List (List UInt8) → Wr
  | w, [] => w.piece [0]
  | w, l :: ls => match fndS w.rests (Go.Proofs.Ytdphkaiijlekhaa.mk (l :: ls)) with
    | some a => if p then w.num 2 (49152 + a) else Wr.nameR p (w.piece (lab l)) ls
    | none => Wr.nameR p (if (w.piece (lab l)).full = false ∧ w.buf.length < 16384 then { w.piece (lab l) with rests := w.rests ++ [(Go.Proofs.Ytdphkaiijlekhaa.mk (l :: ls), (w.buf.length : Int))] } else w.piece (lab l)) ls
theorem piece_full {w : Wr} (h : w.full = true) (s : List UInt8) : w.piece s = w := by
  unfold Wr.piece Wr.fits
  rw [if_neg (by rw [h]; simp), ← h]
theorem nameR_full {p : Bool} : ∀ (ls : List (List UInt8)) {w : Wr}, w.full = true → Wr.nameR p w ls = w
  | [], w, h => piece_full h _
  | l :: ls, w, h => by
    unfold Wr.nameR
    rw [piece_full h]
    split
    · split
      · exact piece_full h _
      · exact nameR_full ls h
    · rw [if_neg (by rw [h]; simp)]
      exact nameR_full ls h
theorem nofit {w : Wr} {s : List UInt8} (h : w.fits s = false) : (w.piece s).full = true := by
  unfold Wr.piece
  rw [h]
  rfl
theorem fit_full {w : Wr} {s : List UInt8} (h : w.fits s = true) : (w.piece s).full = false ∧ (w.piece s).rests = w.rests := by
  have hw : w.full = false := by
    unfold Wr.fits at h
    cases hf : w.full
    · rfl
    · rw [hf] at h; simp at h
  unfold Wr.piece
  rw [if_pos h]
  exact ⟨hw, rfl⟩
theorem nameR_go {p : Bool} : ∀ (ls : List (List UInt8)) (m : Nat) (w : Wr), (∀ l ∈ ls, okL l) → ls.length ≤ m → Wr.nameR p w ls = Wr.nameGo p m w (mk ls)
  | [], m, w, _, _ => by
    cases m with
    | zero => rfl
    | succ m =>
      show w.piece [0] = (if 1 < (mk []).length then _ else w.piece (mk []))
      rw [if_neg (by decide)]
      rfl
  | l :: ls, m, w, h, hm => by
    cases m with
    | zero => simp at hm
    | succ m =>
      have hol := h l (List.mem_cons_self ..)
      have ih := fun v => nameR_go (p := p) ls m v (fun x hx => h x (List.mem_cons_of_mem _ hx)) (by simpa using hm)
      have h1 : bt (mk (l :: ls)) 0 = l.length := bt_lab l (mk ls) hol
      have h2 : (mk (l :: ls)).take (1 + l.length) = lab l := take_lab l (mk ls)
      have h3 : (mk (l :: ls)).drop (1 + l.length) = mk ls := drop_lab l (mk ls)
      have hml := mk_len_cons0 l ls
      have h4 := hol.1
      have e : Wr.nameGo p (m + 1) w (mk (l :: ls)) = (match fndS w.rests (mk (l :: ls)) with
        | some a => if p then w.num 2 (49152 + a) else
            if w.fits (lab l) then Wr.nameGo p m (w.piece (lab l)) (mk ls) else w.piece (lab l)
        | none =>
            if w.fits (lab l) then Wr.nameGo p m (if w.buf.length < 16384 then { w.piece (lab l) with rests := w.rests ++ [(mk (l :: ls), (w.buf.length : Int))] } else w.piece (lab l)) (mk ls)
            else w.piece (lab l)) := by
        show (if 1 < (mk (l :: ls)).length then _ else _) = _
        rw [if_pos (by omega), h1, h2, h3]
        rfl
      rw [e]
      unfold Wr.nameR
      cases hf : fndS w.rests (mk (l :: ls)) with
      | some a =>
        cases p with
        | true => rfl
        | false =>
          show Wr.nameR false (w.piece (lab l)) ls = _
          cases hx : w.fits (lab l)
          · rw [nameR_full ls (nofit hx)]
            rfl
          · exact ih _
      | none =>
        show Wr.nameR p (if _ then _ else _) ls = _
        cases hx : w.fits (lab l)
        · rw [if_neg (by rw [nofit hx]; simp), nameR_full ls (nofit hx)]
          rfl
        · obtain ⟨k1, k2⟩ := fit_full hx
          by_cases hlt : w.buf.length < 16384
          · rw [if_pos ⟨k1, hlt⟩, ih]
            show _ = Wr.nameGo p m (if w.buf.length < 16384 then _ else _) (mk ls)
            rw [if_pos hlt]
          · rw [if_neg (fun e => hlt e.2), ih]
            show _ = Wr.nameGo p m (if w.buf.length < 16384 then _ else _) (mk ls)
            rw [if_neg hlt]
theorem nameR_name {p : Bool} (w : Wr) (ls : List (List UInt8)) (h : ∀ l ∈ ls, okL l) (hl : (mk ls).length ≤ 255) : Wr.nameR p w ls = w.name (mk ls) p := by
  unfold Wr.name
  by_cases hf : w.full = true
  · rw [if_pos (.inl hf)]
    exact nameR_full ls hf
  · rw [if_neg (by rintro (h1 | h1); exact hf h1; exact h1 ((isName_iff _).2 ⟨hl, ls, h, rfl⟩))]
    exact nameR_go ls _ w h (mk_many ls)
end Go.Proofs.Ytdphkaiijlekhaa
namespace Go.Proofs.Ytdphkaiijlekhaa
open Go Go.Eng
/-- A name that begins bytes is the one that first finds. -/
theorem firstF_at (s t : List UInt8) : ∀ (ls pre : List (List UInt8)) (m : Nat), (∀ l ∈ pre, okL l) → (∀ l ∈ ls, okL l) → s = labs pre ++ (mk ls ++ t) → (labs pre ++ mk ls).length ≤ 255 → 256 ≤ m + (labs pre).length →
    firstF s m (labs pre).length = (labs pre ++ mk ls).length
  | [], pre, m, hp, _, hs, hl, hm => by
    cases m with
    | zero => rw [List.length_append] at hl; omega
    | succ m =>
      have hl1 : (labs pre ++ mk []).length = (labs pre).length + 1 := by rw [List.length_append]; rfl
      have hb : bt s (labs pre).length = 0 := by
        rw [hs]
        unfold bt
        rw [List.getElem?_append_right (Nat.le_refl _), Nat.sub_self]
        rfl
      have hsl : (labs pre).length < s.length := by rw [hs, List.length_append]; have := mk_pos []; rw [List.length_append]; omega
      have htk : s.take ((labs pre).length + 1) = mk pre := by
        have : labs pre ++ (mk [] ++ t) = (labs pre ++ [0]) ++ t := by simp [mk]
        rw [hs, this, List.take_left' (by simp)]
        exact labs_mk pre
      unfold firstF
      rw [if_pos ⟨hsl, by omega⟩, if_pos hb, htk, if_pos ((isName_iff _).2 ⟨by rw [← labs_mk]; simpa [mk] using hl, pre, hp, rfl⟩), hl1]
  | l :: ls, pre, m, hp, hls, hs, hl, hm => by
    have hol := hls l (List.mem_cons_self ..)
    have h1 := hol.1
    have hml := mk_len_cons l ls
    have hmp := mk_pos ls
    have hll : (labs (pre ++ [l])).length = (labs pre).length + 1 + l.length := by rw [labs_snoc, List.length_append, lab_len]; omega
    rw [List.length_append] at hl
    cases m with
    | zero => omega
    | succ m =>
      have hb : bt s (labs pre).length = l.length := by
        have := bt_drop s (labs pre).length 0
        rw [Nat.add_zero] at this
        rw [← this, hs, List.drop_left]
        show bt (lab l ++ mk ls ++ t) 0 = _
        rw [List.append_assoc]
        exact bt_lab l _ hol
      have hsl : (labs pre).length < s.length := by rw [hs, List.length_append, List.length_append]; omega
      have hcat : labs (pre ++ [l]) ++ mk ls = labs pre ++ mk (l :: ls) := by rw [labs_snoc, List.append_assoc]; rfl
      unfold firstF
      rw [if_pos ⟨hsl, by omega⟩, if_neg (by rw [hb]; omega), hb, ← hll]
      rw [firstF_at s t ls (pre ++ [l]) m (fun x hx => by
        rcases List.mem_append.1 hx with hx | hx
        · exact hp x hx
        · rw [List.mem_singleton.1 hx]; exact hol) (fun x hx => hls x (List.mem_cons_of_mem _ hx)) (by
        rw [hs, ← List.append_assoc, ← List.append_assoc, hcat]) (by rw [hcat, List.length_append]; exact hl) (by omega), hcat]
theorem firstN_of {s : List UInt8} {k : Nat} (hk : k ≤ s.length) (h : isName (s.take k)) : firstN s = k := by
  obtain ⟨h1, ls, h2, h3⟩ := (isName_iff _).1 h
  have hlen : (mk ls).length = k := by rw [← h3, List.length_take]; omega
  have h1 : (mk ls).length ≤ 255 := by rw [← h3]; exact h1
  have := firstF_at s (s.drop k) ls [] 256 (fun l hl => by cases hl) h2 (by show s = [] ++ (mk ls ++ s.drop k); rw [← h3]; simp) (by show ([] ++ mk ls).length ≤ 255; simp; omega) (by omega)
  unfold firstN
  have e : ([] ++ mk ls : List UInt8).length = k := by simpa using hlen
  exact this.trans e
theorem firstN_none {s : List UInt8} (h : ∀ k, k ≤ s.length → k ≤ 255 → ¬ isName (s.take k)) : firstN s = 0 := by
  have hl := firstN_le s
  cases hf : firstN s with
  | zero => rfl
  | succ n =>
    have := firstF_name s 256 0 (by show firstN s ≠ 0; omega)
    exact absurd this (h _ hl.1 hl.2)
def partsR : Option (Nat × Nat × Nat) → SV
  | some p => .tup [.d (.int .i64 (2 * p.1 : Nat)), .d (.int .i64 p.2.1), .d (.int .i64 (4 * p.2.2 : Nat)), .d .tt]
  | none => .tup [.d (.int .i64 0), .d (.int .i64 0), .d (.int .i64 0), .d .ff]
set_option maxHeartbeats 4000000 in
theorem r4parts_ok (t : Int) : FnOk Try.prog 158 [.d (.int .u16 t)] (partsR (formOf t)) := by
  refine fnOk_of_run (TT := TT) (IN := lookI []) TT_ok INok_nil mixed 1000 Try.func158 rfl (enters Try.func158 (by kernel_rfl) rfl) rfl 16 (by kernel_rfl) ?_
  have fin1 : t = 2 ∨ t = 5 ∨ t = 12 → formOf t = some (0, 1, 0) := fun h => by unfold formOf; rw [if_pos h]
  conv => whnf
  refine ⟨fun h1 => ?_, fun h1 => ?_⟩
  · rw [fin1 (.inl (by simpa using h1))]
    conv => whnf
    try (refine brT h1 ?_; conv => whnf)
    repeat' (first | exact True.intro | exact rfl | exact ⟨rfl, rfl, .inr rfl, fun _ _ => rfl⟩ | exact ⟨rfl, rfl, .inl rfl, fun i hi => absurd hi (Nat.not_lt_zero _)⟩ | refine And.intro ?_ ?_)
  simp only [beq_eq_false_iff_ne, ne_eq] at h1
  conv => whnf
  refine ⟨fun h2 => ?_, fun h2 => ?_⟩
  · rw [fin1 (.inr (.inl (by simpa using h2)))]
    conv => whnf
    try (refine brT h2 ?_; conv => whnf)
    repeat' (first | exact True.intro | exact rfl | exact ⟨rfl, rfl, .inr rfl, fun _ _ => rfl⟩ | exact ⟨rfl, rfl, .inl rfl, fun i hi => absurd hi (Nat.not_lt_zero _)⟩ | refine And.intro ?_ ?_)
  simp only [beq_eq_false_iff_ne, ne_eq] at h2
  conv => whnf
  refine ⟨fun h3 => ?_, fun h3 => ?_⟩
  · rw [fin1 (.inr (.inr (by simpa using h3)))]
    conv => whnf
    try (refine brT h3 ?_; conv => whnf)
    repeat' (first | exact True.intro | exact rfl | exact ⟨rfl, rfl, .inr rfl, fun _ _ => rfl⟩ | exact ⟨rfl, rfl, .inl rfl, fun i hi => absurd hi (Nat.not_lt_zero _)⟩ | refine And.intro ?_ ?_)
  simp only [beq_eq_false_iff_ne, ne_eq] at h3
  conv => whnf
  refine ⟨fun h4 => ?_, fun h4 => ?_⟩
  · have : formOf t = some (1, 1, 0) := by unfold formOf; simp at h4; simp [h4]
    rw [this]
    conv => whnf
    repeat' (first | exact True.intro | exact rfl | exact ⟨rfl, rfl, .inr rfl, fun _ _ => rfl⟩ | exact ⟨rfl, rfl, .inl rfl, fun i hi => absurd hi (Nat.not_lt_zero _)⟩ | refine And.intro ?_ ?_)
  simp only [beq_eq_false_iff_ne, ne_eq] at h4
  conv => whnf
  refine ⟨fun h5 => ?_, fun h5 => ?_⟩
  · have : formOf t = some (3, 1, 0) := by unfold formOf; simp at h5; simp [h5]
    rw [this]
    conv => whnf
    repeat' (first | exact True.intro | exact rfl | exact ⟨rfl, rfl, .inr rfl, fun _ _ => rfl⟩ | exact ⟨rfl, rfl, .inl rfl, fun i hi => absurd hi (Nat.not_lt_zero _)⟩ | refine And.intro ?_ ?_)
  simp only [beq_eq_false_iff_ne, ne_eq] at h5
  conv => whnf
  refine ⟨fun h6 => ?_, fun h6 => ?_⟩
  · have : formOf t = some (0, 2, 5) := by unfold formOf; simp at h6; simp [h6]
    rw [this]
    conv => whnf
    repeat' (first | exact True.intro | exact rfl | exact ⟨rfl, rfl, .inr rfl, fun _ _ => rfl⟩ | exact ⟨rfl, rfl, .inl rfl, fun i hi => absurd hi (Nat.not_lt_zero _)⟩ | refine And.intro ?_ ?_)
  simp only [beq_eq_false_iff_ne, ne_eq] at h6
  have : formOf t = none := by unfold formOf; simp [h1, h2, h3, h4, h5, h6]
  rw [this]
  conv => whnf
  repeat' (first | exact True.intro | exact rfl | exact ⟨rfl, rfl, .inr rfl, fun _ _ => rfl⟩ | exact ⟨rfl, rfl, .inl rfl, fun i hi => absurd hi (Nat.not_lt_zero _)⟩ | refine And.intro ?_ ?_)
def firstR (s : List UInt8) : SV := if firstN s = 0 then .tup [.any, .d .ff] else .tup [.d (.str (s.take (firstN s))), .d .tt]
set_option maxRecDepth 100000 in
set_option maxHeartbeats 4000000 in
theorem r4first_ok (s : List UInt8) (_hs : s.length ≤ 100000) : FnOk Try.prog 159 [.d (.str s)] (firstR s) := by
  refine fnOk_of_run (TT := TT) (IN := lookI []) TT_ok INok_nil mixed 1000 Try.func159 rfl (enters Try.func159 (by kernel_rfl) rfl) rfl 22 (by kernel_rfl) ?_
  conv => whnf
  refine .inv Nat (fun i => 1 ≤ i ∧ i ≤ 256 ∧ ∀ j, j < i → j ≤ s.length → ¬ isName (s.take j)) (fun i => [(4, .d (.int .i64 i))]) (fun _ => []) (fun i => 256 - i) ⟨1, [], ⟨Nat.le_refl _, by omega, fun j hj _ h => ?_⟩, ?_⟩ ?_
  · have : j = 0 := by omega
    subst this
    have := h.1
    simp at this
  · conv => whnf
    repeat' (first | exact True.intro | exact rfl | exact fun _ => Iff.rfl | exact fun _ _ => rfl | exact renM_ent rfl _ | refine And.intro ?_ ?_)
  intro i hi
  obtain ⟨h1, h2, h3⟩ := hi
  conv => whnf
  have done_ : (s.length < i ∨ 255 < i) → firstR s = .tup [.any, .d .ff] := fun hc => by
    unfold firstR
    rw [if_pos (firstN_none fun k hk hk2 => h3 k (by omega) hk)]
  refine ⟨fun c1 => ?_, fun c1 => ?_⟩
  · have c1 : (i : Int) ≤ s.length := of_decide_eq_true c1
    conv => whnf
    refine ⟨fun c2 => ?_, fun c2 => ?_⟩
    · have c2 : (i : Int) ≤ 255 := of_decide_eq_true c2
      conv => whnf
      refine ⟨by omega, ?_⟩
      have hsub : sub s 0 (i : Int) = s.take i := by unfold sub; simp
      rw [hsub]
      conv => whnf
      refine .one (.data _ (r1check_ok (s.take i)) rfl rfl ?_)
      by_cases hn : isName (s.take i)
      · have e : firstR s = .tup [.d (.str (s.take i)), .d .tt] := by
          unfold firstR
          rw [firstN_of (by omega) hn, if_neg (by omega)]
        rw [if_pos hn, e]
        conv => whnf
        refine brT rfl ?_
        conv => whnf
        refine ⟨by omega, ?_⟩
        rw [hsub]
        conv => whnf
        repeat' (first | exact True.intro | exact rfl | exact ⟨rfl, rfl, .inr rfl, fun _ _ => rfl⟩ | exact ⟨rfl, rfl, .inl rfl, fun i hi => absurd hi (Nat.not_lt_zero _)⟩ | refine And.intro ?_ ?_)
      · rw [if_neg hn]
        conv => whnf
        refine brF rfl ?_
        conv => whnf
        have hw1 : IntKind.i64.wrap ((i : Int) + 1) = ((i + 1 : Nat) : Int) := by rw [w64_in _ (by omega)]; omega
        refine ⟨i + 1, [], ⟨by omega, by omega, fun j hj hjl => ?_⟩, by omega, ?_⟩
        · by_cases hji : j = i
          · rw [hji]; exact hn
          · exact h3 j (by omega) hjl
        conv => whnf
        rw [hw1]
        repeat' (first | exact True.intro | exact rfl | exact fun _ => Iff.rfl | exact fun _ _ => rfl | exact renM_ent rfl _ | refine And.intro ?_ ?_)
    · have c2 : ¬ (i : Int) ≤ 255 := of_decide_eq_false c2
      rw [done_ (.inr (by omega))]
      conv => whnf
      repeat' (first | exact True.intro | exact rfl | exact ⟨rfl, rfl, .inr rfl, fun _ _ => rfl⟩ | exact ⟨rfl, rfl, .inl rfl, fun i hi => absurd hi (Nat.not_lt_zero _)⟩ | refine And.intro ?_ ?_)
  · have c1 : ¬ (i : Int) ≤ s.length := of_decide_eq_false c1
    rw [done_ (.inl (by omega))]
    conv => whnf
    repeat' (first | exact True.intro | exact rfl | exact ⟨rfl, rfl, .inr rfl, fun _ _ => rfl⟩ | exact ⟨rfl, rfl, .inl rfl, fun i hi => absurd hi (Nat.not_lt_zero _)⟩ | refine And.intro ?_ ?_)
def splitP : Option (List UInt8 × List (List UInt8) × List UInt8) → SV
  | none => .tup [.any, .any, .any, .d .ff]
  | some (x, l, r) => .tup [.d (.str x), .d (.sl (Nat.beq l.length 0) l.length 1 (strs l)), .d (.str r), .d .tt]
structure R4St where
  i : Nat
  l : List (List UInt8)
  r : List UInt8
set_option maxRecDepth 100000 in
set_option maxHeartbeats 4000000 in
theorem r4split_ok (t : Int) (p : Nat × Nat × Nat) (hp : formOf t = some p) (s : List UInt8) (hs : s.length ≤ 100000) : FnOk Try.prog 120 [.d (.int .u16 t), .d (.str s)] (splitP (cutF p.1 p.2.1 p.2.2 s)) := by
  refine fnOk_of_run (TT := TT) (IN := lookI []) TT_ok INok_nil mixed 1000 Try.func120 rfl (enters Try.func120 (by kernel_rfl) rfl) rfl 58 (by kernel_rfl) ?_
  obtain ⟨p1, p2, p3⟩ := formOf_le hp
  have hpt := r4parts_ok t
  rw [hp] at hpt
  conv => whnf
  refine .one (.data _ hpt rfl rfl ?_)
  conv => whnf
  refine ⟨fun h1 => ?_, fun h1 => ?_⟩
  · have h1 : (s.length : Int) < (2 * p.1 : Nat) := of_decide_eq_true h1
    have e : cutF p.1 p.2.1 p.2.2 s = none := by unfold cutF; rw [if_pos (by omega)]
    rw [e]
    conv => whnf
    repeat' (first | exact True.intro | exact rfl | exact ⟨rfl, rfl, .inr rfl, fun _ _ => rfl⟩ | exact ⟨rfl, rfl, .inl rfl, fun i hi => absurd hi (Nat.not_lt_zero _)⟩ | refine And.intro ?_ ?_)
  have h1 : ¬ (s.length : Int) < (2 * p.1 : Nat) := of_decide_eq_false h1
  have hcut : cutF p.1 p.2.1 p.2.2 s = (namesF p.2.1 (s.drop (2 * p.1))).bind fun q => if q.2.length = 4 * p.2.2 then some (s.take (2 * p.1), q.1, q.2) else none := by unfold cutF; rw [if_neg (by omega)]
  have hsub0 : sub s ((2 * p.1 : Nat) : Int) (s.length : Int) = s.drop (2 * p.1) := by
    unfold sub
    rw [Int.toNat_natCast, Int.toNat_natCast, List.take_of_length_le (by rw [List.length_drop]; omega)]
  conv => whnf
  refine ⟨by omega, ?_⟩
  rw [hsub0]
  conv => whnf
  refine .nilT 13 9 1 (fun _ => []) _ _ rfl ?_
  refine .inv R4St (fun x => NAt p.2.1 (s.drop (2 * p.1)) x.i x.l x.r) (fun x => [(12, .d (.str x.r)), (13, .all 0), (14, .d (.int .i64 x.i))]) (fun x => [(0, .row 9 1 x.l.length .iff (strs x.l))]) (fun x => p.2.1 - x.i) ⟨⟨0, [], s.drop (2 * p.1)⟩, [0], NAt.zero _ _, ?_⟩ ?_
  · conv => whnf
    repeat' (first | exact True.intro | exact rfl | (intro i hi; exact absurd hi (Nat.not_lt_zero _)) | exact fun _ _ => rfl | refine And.intro ?_ ?_)
  intro x hN
  conv => whnf
  generalize x.i = i at hN ⊢
  generalize x.l = l at hN ⊢
  generalize x.r = r at hN ⊢
  have hlen := hN.len
  have hile := hN.le
  have hsh := hN.short
  rw [List.length_drop] at hsh
  refine ⟨fun c1 => ?_, fun c1 => ?_⟩
  · have c1 : (i : Int) < p.2.1 := of_decide_eq_true c1
    obtain ⟨s1, s2⟩ := hN.step (by omega)
    have hf := r4first_ok r (by omega)
    have hfl := firstN_le r
    conv => whnf
    by_cases h0 : firstN r = 0
    · have e : cutF p.1 p.2.1 p.2.2 s = none := by rw [hcut, s1 h0]; rfl
      have ef : firstR r = .tup [.any, .d .ff] := by unfold firstR; rw [if_pos h0]
      rw [ef] at hf
      refine .one (.data _ hf rfl rfl ?_)
      rw [e]
      conv => whnf
      repeat' (first | exact True.intro | exact rfl | exact ⟨rfl, rfl, .inr rfl, fun _ _ => rfl⟩ | exact ⟨rfl, rfl, .inl rfl, fun i hi => absurd hi (Nat.not_lt_zero _)⟩ | refine And.intro ?_ ?_)
    · have ef : firstR r = .tup [.d (.str (r.take (firstN r))), .d .tt] := by unfold firstR; rw [if_neg h0]
      rw [ef] at hf
      have htl : (r.take (firstN r)).length = firstN r := by rw [List.length_take]; omega
      have hsub1 : sub r ((firstN r : Nat) : Int) (r.length : Int) = r.drop (firstN r) := by
        unfold sub
        rw [Int.toNat_natCast, Int.toNat_natCast, List.take_of_length_le (by rw [List.length_drop]; omega)]
      refine .one (.data _ hf rfl rfl ?_)
      conv => whnf
      refine ⟨by omega, ?_⟩
      conv => whnf
      rw [htl]
      refine ⟨by omega, ?_⟩
      rw [hsub1]
      have hw1 : IntKind.i64.wrap ((i : Int) + 1) = ((i + 1 : Nat) : Int) := by rw [w64_in _ (by omega)]; omega
      conv => whnf
      refine ⟨⟨i + 1, l ++ [r.take (firstN r)], r.drop (firstN r)⟩, [2], s2 h0, by show p.2.1 - (i + 1) < p.2.1 - i; omega, ?_⟩
      conv => whnf
      rw [hw1]
      repeat' (first | exact True.intro | exact rfl | refine And.intro ?_ ?_)
      · simp
      · exact strs_cat _ _ _ rfl
  · have c1 : ¬ (i : Int) < p.2.1 := of_decide_eq_false c1
    have hi : i = p.2.1 := by omega
    subst hi
    have hl := hN.last
    have hsub2 : sub s 0 ((2 * p.1 : Nat) : Int) = s.take (2 * p.1) := by unfold sub; rw [Int.toNat_natCast]; simp
    conv => whnf
    refine ⟨by omega, ?_⟩
    rw [hsub2]
    conv => whnf
    by_cases hr : r.length = 4 * p.2.2
    · have e : cutF p.1 p.2.1 p.2.2 s = some (s.take (2 * p.1), l, r) := by rw [hcut, hl]; show (if r.length = 4 * p.2.2 then _ else _) = _; rw [if_pos hr]
      rw [e]
      conv => whnf
      refine ⟨rfl, ⟨rfl, rfl, .inr rfl, fun _ _ => rfl⟩, rfl, ?_, True.intro⟩
      show ((r.length : Int) == ((4 * p.2.2 : Nat) : Int)) = true
      simp
      omega
    · have e : cutF p.1 p.2.1 p.2.2 s = none := by rw [hcut, hl]; show (if r.length = 4 * p.2.2 then _ else _) = _; rw [if_neg hr]
      rw [e]
      conv => whnf
      refine ⟨True.intro, True.intro, True.intro, ?_, True.intro⟩
      show ((r.length : Int) == ((4 * p.2.2 : Nat) : Int)) = false
      simp
      omega
set_option maxRecDepth 100000 in
set_option maxHeartbeats 4000000 in
theorem r4texts_ok (s : List UInt8) (hs : s.length ≤ 100000) : FnOk Try.prog 157 [.d (.str s)] (.tup [.any, .d (.bool (textsOk s))]) := by
  refine fnOk_of_run (TT := TT) (IN := lookI []) TT_ok INok_nil mixed 1000 Try.func157 rfl (enters Try.func157 (by kernel_rfl) rfl) rfl 30 (by kernel_rfl) ?_
  conv => whnf
  refine .nilT 4 9 1 (fun _ => []) _ _ rfl ?_
  conv => whnf
  refine .inv (Nat × List (List UInt8)) (fun p => TAt s p.1 p.2) (fun p => [(0, .d (.str (s.drop p.1))), (4, .all 0)]) (fun p => [(0, .row 9 1 p.2.length .iff (strs p.2))]) (fun p => s.length - p.1) ⟨(0, []), [0], TAt.zero s, ?_⟩ ?_
  · conv => whnf
    repeat' (first | exact True.intro | exact rfl | refine And.intro ?_ ?_)
    intro i hi
    exact absurd hi (by simp)
  intro p hk
  have hk0 : p.1 ≤ s.length := hk.1
  have hk2 : p.2.length ≤ p.1 := hk.2.1
  have hby := bt_lt s p.1
  have hlen : (s.drop p.1).length = s.length - p.1 := by simp
  conv => whnf
  refine ⟨fun hne => ?_, fun heq => ?_⟩
  · have hlt : p.1 < s.length := by
      rcases Nat.lt_or_ge p.1 s.length with e | e
      · exact e
      · rw [List.drop_eq_nil_of_le e] at hne; simp at hne
    obtain ⟨e1, e2⟩ := TAt.step hk hlt
    have hb0 : byteAt (s.drop p.1) 0 = (bt s p.1 : Int) := by
      rw [show (0 : Int) = ((0 : Nat) : Int) from rfl, bt_eq]
      simp [bt]
    conv => whnf
    refine ⟨by omega, ?_⟩
    have hsz : IntKind.i64.wrap (1 + IntKind.i64.wrap (byteAt (s.drop p.1) 0)) = ((1 + bt s p.1 : Nat) : Int) := by rw [hb0]; simp (disch := omega) only [w64_in]; omega
    conv => whnf
    rw [hsz]
    refine ⟨fun hgt => ?_, fun hle => ?_⟩
    · conv => whnf
      refine ⟨True.intro, ?_, True.intro⟩
      have : textsOk s = false := by unfold textsOk; rw [e1 (by simp at hgt; omega)]
      rw [this]
      exact rfl
    · have hle' : p.1 + 1 + bt s p.1 ≤ s.length := by simp at hle; omega
      conv => whnf
      refine ⟨by omega, ?_⟩
      conv => whnf
      refine ⟨by omega, ?_⟩
      conv => whnf
      refine ⟨by omega, ?_⟩
      conv => whnf
      refine ⟨(p.1 + 1 + bt s p.1, p.2 ++ [(s.drop (p.1 + 1)).take (bt s p.1)]), [2], e2 hle', by show s.length - (p.1 + 1 + bt s p.1) < s.length - p.1; omega, ?_⟩
      conv => whnf
      repeat' (first | exact True.intro | exact rfl | refine And.intro ?_ ?_)
      · refine congrArg SV.d (congrArg DV.str ?_)
        show sub (s.drop p.1) _ _ = s.drop (p.1 + 1 + bt s p.1)
        simp only [sub, Int.toNat_natCast, List.drop_drop]
        rw [List.take_of_length_le (by simp; omega)]
        congr 1
        omega
      · simp
      · refine strs_cat _ _ _ ?_
        show [DV.str _] = [DV.str _]
        congr 2
        simp only [sub, Int.toNat_natCast, List.drop_drop]
        rw [show (1 : Int).toNat = 1 from rfl]
        congr 1
        omega
  · have hke : p.1 = s.length := by
      simp at heq
      omega
    conv => whnf
    refine ⟨True.intro, ?_, True.intro⟩
    have : textsOk s = decide (0 < p.2.length) := by unfold textsOk; rw [TAt.last hk hke]
    rw [this]
    refine congrArg DV.bool ?_
    simp
set_option maxRecDepth 100000 in
set_option maxHeartbeats 4000000 in
theorem r4check_ok (t : Int) (s : List UInt8) (hs : s.length ≤ 100000) : FnOk Try.prog 117 [.d (.int .u16 t), .d (.str s)] (.d (.int .i64 (errno (rcheck t s)))) := by
  refine fnOk_of_run (TT := TT) (IN := lookI []) TT_ok INok_nil mixed 1000 Try.func117 rfl (enters Try.func117 (by kernel_rfl) rfl) rfl 49 (by kernel_rfl) ?_
  conv => whnf
  refine ⟨fun h1 => ?_, fun h1 => ?_⟩
  · have h1 : t = 1 := by simpa using h1
    have hg : rgood t s = ((s.length : Int) == ((4 : Nat) : Int)) := by unfold rgood; rw [if_pos h1, lenEq]
    conv => whnf
    refine ⟨fun k1 => ?_, fun k1 => ?_⟩
    · have hgood : rgood t s = false := by rw [hg]; simpa using k1
      have e : rcheck t s = false := by unfold rcheck; rw [hgood, Bool.and_false]
      rw [e]
      conv => whnf
      exact rfl
    have hgood : rgood t s = true := by rw [hg]; simpa using k1
    conv => whnf
    refine ⟨fun k2 => ?_, fun k2 => ?_⟩
    · have k2 : (s.length : Int) > 4096 := of_decide_eq_true k2
      have e : rcheck t s = false := by unfold rcheck; rw [decide_eq_false (by omega)]; rfl
      rw [e]
      conv => whnf
      exact rfl
    · have k2 : ¬ (s.length : Int) > 4096 := of_decide_eq_false k2
      have e : rcheck t s = true := by unfold rcheck; rw [decide_eq_true (by omega), hgood]; rfl
      rw [e]
      conv => whnf
      exact rfl
  have h1 : ¬ t = 1 := by simpa using h1
  conv => whnf
  refine ⟨fun h2 => ?_, fun h2 => ?_⟩
  · have h2 : t = 28 := by simpa using h2
    have hg : rgood t s = ((s.length : Int) == ((16 : Nat) : Int)) := by unfold rgood; rw [if_neg h1, if_pos h2, lenEq]
    conv => whnf
    refine ⟨fun k1 => ?_, fun k1 => ?_⟩
    · have hgood : rgood t s = false := by rw [hg]; simpa using k1
      have e : rcheck t s = false := by unfold rcheck; rw [hgood, Bool.and_false]
      rw [e]
      conv => whnf
      exact rfl
    have hgood : rgood t s = true := by rw [hg]; simpa using k1
    conv => whnf
    refine ⟨fun k2 => ?_, fun k2 => ?_⟩
    · have k2 : (s.length : Int) > 4096 := of_decide_eq_true k2
      have e : rcheck t s = false := by unfold rcheck; rw [decide_eq_false (by omega)]; rfl
      rw [e]
      conv => whnf
      exact rfl
    · have k2 : ¬ (s.length : Int) > 4096 := of_decide_eq_false k2
      have e : rcheck t s = true := by unfold rcheck; rw [decide_eq_true (by omega), hgood]; rfl
      rw [e]
      conv => whnf
      exact rfl
  have h2 : ¬ t = 28 := by simpa using h2
  conv => whnf
  refine ⟨fun h3 => ?_, fun h3 => ?_⟩
  · have h3 : t = 16 := by simpa using h3
    have hg : rgood t s = textsOk s := by unfold rgood; rw [if_neg h1, if_neg h2, if_pos h3]
    conv => whnf
    refine .one (.data _ (r4texts_ok s hs) rfl rfl ?_)
    conv => whnf
    refine ⟨fun k1 => ?_, fun k1 => ?_⟩
    · have hgood : rgood t s = false := by rw [hg]; simpa using k1
      have e : rcheck t s = false := by unfold rcheck; rw [hgood, Bool.and_false]
      rw [e]
      conv => whnf
      exact rfl
    have hgood : rgood t s = true := by rw [hg]; simpa using k1
    conv => whnf
    refine ⟨fun k2 => ?_, fun k2 => ?_⟩
    · have k2 : (s.length : Int) > 4096 := of_decide_eq_true k2
      have e : rcheck t s = false := by unfold rcheck; rw [decide_eq_false (by omega)]; rfl
      rw [e]
      conv => whnf
      exact rfl
    · have k2 : ¬ (s.length : Int) > 4096 := of_decide_eq_false k2
      have e : rcheck t s = true := by unfold rcheck; rw [decide_eq_true (by omega), hgood]; rfl
      rw [e]
      conv => whnf
      exact rfl
  have h3 : ¬ t = 16 := by simpa using h3
  conv => whnf
  have hpt := r4parts_ok t
  cases hf : formOf t with
  | none =>
    have hgood : rgood t s = true := by unfold rgood; rw [if_neg h1, if_neg h2, if_neg h3, hf]
    rw [hf] at hpt
    refine .one (.data _ hpt rfl rfl ?_)
    conv => whnf
    refine ⟨fun k2 => ?_, fun k2 => ?_⟩
    · have k2 : (s.length : Int) > 4096 := of_decide_eq_true k2
      have e : rcheck t s = false := by unfold rcheck; rw [decide_eq_false (by omega)]; rfl
      rw [e]
      conv => whnf
      exact rfl
    · have k2 : ¬ (s.length : Int) > 4096 := of_decide_eq_false k2
      have e : rcheck t s = true := by unfold rcheck; rw [decide_eq_true (by omega), hgood]; rfl
      rw [e]
      conv => whnf
      exact rfl
  | some p =>
    rw [hf] at hpt
    have hsp := r4split_ok t p hf s hs
    refine .one (.data _ hpt rfl rfl ?_)
    conv => whnf
    cases hc : cutF p.1 p.2.1 p.2.2 s with
    | none =>
      have hgood : rgood t s = false := by unfold rgood; rw [if_neg h1, if_neg h2, if_neg h3, hf]; show (cutF p.1 p.2.1 p.2.2 s).isSome = false; rw [hc]; rfl
      have e : rcheck t s = false := by unfold rcheck; rw [hgood, Bool.and_false]
      rw [hc] at hsp
      refine .one (.data _ hsp rfl rfl ?_)
      rw [e]
      conv => whnf
      repeat (first | (refine brF rfl ?_; conv => whnf) | (refine brT rfl ?_; conv => whnf))
      try exact rfl
    | some q =>
      obtain ⟨x, l, r⟩ := q
      have hgood : rgood t s = true := by unfold rgood; rw [if_neg h1, if_neg h2, if_neg h3, hf]; show (cutF p.1 p.2.1 p.2.2 s).isSome = true; rw [hc]; rfl
      rw [hc] at hsp
      refine .one (.data _ hsp rfl rfl ?_)
      conv => whnf
      refine ⟨fun k2 => ?_, fun k2 => ?_⟩
      · have k2 : (s.length : Int) > 4096 := of_decide_eq_true k2
        have e : rcheck t s = false := by unfold rcheck; rw [decide_eq_false (by omega)]; rfl
        rw [e]
        conv => whnf
        exact rfl
      · have k2 : ¬ (s.length : Int) > 4096 := of_decide_eq_false k2
        have e : rcheck t s = true := by unfold rcheck; rw [decide_eq_true (by omega), hgood]; rfl
        rw [e]
        conv => whnf
        exact rfl
end Go.Proofs.Ytdphkaiijlekhaa
namespace Go.Proofs.Ytdphkaiijlekhaa
open Go Go.Eng
structure NmR where
  w : Wr
  i : Nat
  row : Bool
/-- Its conditions hold; no more names are remembered than bytes written. -/
def Wr.Good (w : Wr) : Prop := w.Ok ∧ w.rests.length ≤ w.buf.length
theorem Wr.Good.piece {w : Wr} (h : w.Good) (s : List UInt8) : (w.piece s).Good := by
  refine ⟨h.1.piece s, ?_⟩
  have := h.2
  unfold Wr.piece
  split
  · show w.rests.length ≤ (w.buf ++ s).length
    rw [List.length_append]
    omega
  · exact this
theorem Wr.Good.num {w : Wr} (h : w.Good) (k : Nat) (n : Int) : (w.num k n).Good := h.piece _
theorem good_add {w : Wr} (h : w.Good) {l : List UInt8} {e : List UInt8} (hc1 : (w.piece (lab l)).full = false) (hc2 : w.buf.length < 16384) : Wr.Good { w.piece (lab l) with rests := w.rests ++ [(e, (w.buf.length : Int))] } := by
  have hp := h.piece (lab l)
  obtain ⟨k1, k2, _⟩ := piece_fit_rests hc1
  refine ⟨⟨hp.1.lo, hp.1.hi, hp.1.len, fun e he => ?_⟩, ?_⟩
  · rcases List.mem_append.1 he with he | he
    · exact h.1.pl e he
    · rw [List.mem_singleton.1 he]
      show 0 ≤ (w.buf.length : Int) ∧ (w.buf.length : Int) < 16384
      omega
  · show (w.rests ++ [_]).length ≤ (w.piece (lab l)).buf.length
    rw [k2, List.length_append, List.length_append, lab_len]
    have := h.2
    show w.rests.length + 1 ≤ _
    omega
def seenF (l : List (List UInt8 × Int)) (i : Nat) : List DV := [.str (l.getD i default).1, .int .i64 (l.getD i default).2]
theorem seen_cat (r : List (List UInt8 × Int)) (a : List UInt8) (x : Int) (g : Nat → List DV) (j : Nat) (hj : j < 0 + r.length + 1) :
    catF (0 + r.length) (catF 0 g fun i => [.str (r.getD i default).1, .int .i64 (r.getD i default).2]) (chunk [.str a, .int .i64 x] 2) j = seenF (r ++ [(a, x)]) j := by
  rw [Nat.zero_add] at hj ⊢
  unfold catF seenF
  split
  · rename_i h
    have e : (r ++ [(a, x)]).getD j default = r.getD j default := by rw [List.getD, List.getD, List.getElem?_append_left h]
    rw [if_neg (Nat.not_lt_zero _), Nat.sub_zero, e]
  · rename_i h
    have : j = r.length := by omega
    subst this
    have e : (r ++ [(a, x)]).getD r.length default = (a, x) := by rw [List.getD, List.getElem?_append_right (Nat.le_refl _), Nat.sub_self]; rfl
    rw [Nat.sub_self, e]
    rfl
def NmR.cell (x : NmR) : KB := .cells 149 [.d (.str x.w.buf), .d (.int .i64 x.w.limit), .d (.bool x.w.full), if x.row then .all 2 else .d (seenD x.w.rests)]
def NmR.blk (x : NmR) : KB := if x.row then .row 258 2 x.w.rests.length .no (seenF x.w.rests) else .gone
set_option maxRecDepth 100000 in
set_option maxHeartbeats 8000000 in
theorem r3name_ok (w : Wr) (hw : w.Good) (n : List UInt8) (p : Bool) : FnOk Try.prog 134 [.agg w.V, .d (.str n), .d (.bool p)] (.agg (w.name n p).V) := by
  refine fnOk_of_run (TT := TT) (IN := lookI []) TT_ok INok_nil mixed 1000 Try.func134 rfl (enters Try.func134 (by kernel_rfl) rfl) rfl 82 (by kernel_rfl) ?_
  conv => whnf
  refine .one (.data _ (r1split_ok n) rfl (by cases labelsOf n <;> rfl) ?_)
  cases hl : labelsOf n with
  | none =>
    have hn : ¬ isName n := fun h => by rw [isName_labels, hl] at h; cases h
    have e : w.name n p = w := by unfold Wr.name; rw [if_pos (.inr hn)]
    rw [e]
    conv => whnf
    repeat (first | (refine brF rfl ?_; conv => whnf) | (refine brT rfl ?_; conv => whnf))
    repeat' (first | exact True.intro | exact rfl | exact ⟨rfl, rfl, .inr rfl, fun _ _ => rfl⟩ | exact ⟨rfl, rfl, .inl rfl, fun i hi => absurd hi (Nat.not_lt_zero _)⟩ | refine And.intro ?_ ?_)
  | some ls =>
    obtain ⟨h255, hok, rfl⟩ := labelsOf_mk hl
    rw [← nameR_name w ls hok h255]
    obtain ⟨tgt, ht⟩ : ∃ x, Wr.nameR p w ls = x := ⟨_, rfl⟩
    rw [ht]
    have hmany := mk_many ls
    conv => whnf
    repeat (first | (refine brF rfl ?_; conv => whnf) | (refine brT rfl ?_; conv => whnf))
    refine .pad ?_
    refine .inv NmR (fun x => x.w.Good ∧ x.i ≤ ls.length ∧ Wr.nameR p x.w (ls.drop x.i) = tgt ∧ (x.row = true → 0 < x.w.rests.length)) (fun x => [(25, .d (.int .i64 x.i))]) (fun x => [(0, x.cell), (2, x.blk)]) (fun x => ls.length - x.i) ⟨⟨w, 0, false⟩, [0, 1, 2], ⟨hw, Nat.zero_le _, ht, fun h => by cases h⟩, ?_⟩ ?_
    · conv => whnf
      repeat' (first | exact True.intro | exact rfl | (intro i hi; exact absurd hi (Nat.not_lt_zero _)) | exact fun _ _ => rfl | refine And.intro ?_ ?_)
    intro x hx
    obtain ⟨xo, xi, xe, xz⟩ := hx
    obtain ⟨v, i, b⟩ := x
    simp only at xo xi xe xz
    have hvl := xo.1.len
    have hvh := xo.1.hi
    have hvr := xo.2
    cases b
    · conv => whnf
      refine ⟨fun c1 => ?_, fun c1 => ?_⟩
      · have c1 : (i : Int) < ls.length := of_decide_eq_true c1
        have hil : i < ls.length := by omega
        obtain ⟨q, hq⟩ : ∃ q, ls[i]?.getD [] = q := ⟨_, rfl⟩
        have hq2 : ls[i]? = some q := by rw [← hq, List.getElem?_eq_getElem hil]; rfl
        have hdr : ls.drop i = q :: ls.drop (i + 1) := by
          rw [List.drop_eq_getElem_cons hil]
          congr 1
          rw [List.getElem?_eq_getElem hil] at hq2
          exact Option.some.inj hq2
        have hoq := hok q (List.mem_of_getElem? hq2)
        rw [hdr] at xe
        unfold Wr.nameR at xe
        have hwi : IntKind.i64.wrap ((i : Int) + 1) = ((i + 1 : Nat) : Int) := by rw [w64_in _ (by omega)]; omega
        have hpl := r3place_ok v (by omega) (mk (q :: ls.drop (i + 1)))
        have hpc : closed (placeR (fndS v.rests (mk (q :: ls.drop (i + 1))))) = true := by cases fndS v.rests (mk (q :: ls.drop (i + 1))) <;> rfl
        have hmk : FnOk Try.prog 167 [.d (.sl false ((ls.length : Int) - (i : Int)).toNat 1 (fun j => strs ls (i + j)))] (.d (.str (mk (q :: ls.drop (i + 1))))) := by
          have hn : ((ls.length : Int) - (i : Int)).toNat = (ls.drop i).length := by rw [List.length_drop]; omega
          rw [hn, ← hdr]
          exact (r1make_ok false (ls.drop i) (by rw [List.length_drop]; omega) (fun x hx => by have := (hok x (List.mem_of_mem_drop hx)).2; omega)).convA ⟨AEq.row (fun j hj => by unfold strs; rw [List.getElem?_drop]), True.intro⟩
        conv => whnf
        refine ⟨⟨Int.natCast_nonneg _, c1⟩, ?_⟩
        conv => whnf
        rw [Int.toNat_natCast, hq]
        refine ⟨⟨Int.natCast_nonneg _, (by show (i : Int) ≤ ls.length; omega), Int.le_refl _⟩, ?_⟩
        conv => whnf
        refine .one (.data _ hmk rfl rfl ?_)
        conv => whnf
        have hq255 : q.length ≤ 255 := by have := hoq.2; omega
        cases hfd : fndS v.rests (mk (q :: ls.drop (i + 1))) with
        | some a =>
          rw [hfd] at hpl xe
          refine .one (.data _ hpl rfl rfl ?_)
          conv => whnf
          have hpl2 := xo.1.pl _ (fndS_mem hfd)
          have hpl2 : 0 ≤ a ∧ a < 16384 := hpl2
          cases p
          · repeat (first | (refine brF rfl ?_; conv => whnf) | (refine brT rfl ?_; conv => whnf))
            rw [len_byte hq255]
            refine ⟨by show 1 + q.length ≤ _; omega, ?_⟩
            conv => whnf
            refine .one (.data _ (r3raw_ok v xo.1 (lab q) (by rw [lab_len]; omega)) rfl rfl ?_)
            conv => whnf
            repeat (first | (refine brF rfl ?_; conv => whnf) | (refine brT rfl ?_; conv => whnf))
            refine ⟨⟨v.piece (lab q), i + 1, false⟩, [0, 1, 2], ⟨xo.piece (lab q), hil, xe, fun h => by cases h⟩, by show ls.length - (i + 1) < ls.length - i; omega, ?_⟩
            conv => whnf
            rw [hwi]
            repeat' (first | exact True.intro | exact rfl | exact fun _ => Iff.rfl | exact fun _ _ => rfl | exact renM_ent rfl _ | refine And.intro ?_ ?_)
        
          · repeat (first | (refine brF rfl ?_; conv => whnf) | (refine brT rfl ?_; conv => whnf))
            have hpw : IntKind.u64.wrap (IntKind.i64.wrap (49152 + a)) = 49152 + a := by rw [w64_in _ (by omega), IntKind.wrap_u64]; omega
            rw [hpw]
            refine .one (.data _ (r3num_ok v xo.1 2 (.inl rfl) (49152 + a) (by omega)) rfl rfl ?_)
            have xe : v.num 2 (49152 + a) = tgt := xe
            rw [← xe]
            conv => whnf
            repeat' (first | exact True.intro | exact rfl | exact ⟨rfl, rfl, .inr rfl, fun _ _ => rfl⟩ | exact ⟨rfl, rfl, .inl rfl, fun i hi => absurd hi (Nat.not_lt_zero _)⟩ | refine And.intro ?_ ?_)
        
        
        | none =>
          rw [hfd] at hpl xe
          dsimp only at xe
          refine .one (.data _ hpl rfl rfl ?_)
          conv => whnf
          cases p
          · repeat (first | (refine brF rfl ?_; conv => whnf) | (refine brT rfl ?_; conv => whnf))
            rw [len_byte hq255]
            refine ⟨by show 1 + q.length ≤ _; omega, ?_⟩
            conv => whnf
            refine .one (.data _ (r3raw_ok v xo.1 (lab q) (by rw [lab_len]; omega)) rfl rfl ?_)
            conv => whnf
            refine ⟨fun k1 => ?_, fun k1 => ?_⟩
            · conv => whnf
              refine ⟨fun k2 => ?_, fun k2 => ?_⟩
              · have hk1 : (v.piece (lab q)).full = false := by simpa using k1
                obtain ⟨r1, r2, r3⟩ := piece_fit_rests hk1
                have k2 : (v.buf.length : Int) < 16384 := of_decide_eq_true k2
                rw [if_pos ⟨hk1, by omega⟩] at xe
                conv => whnf
                refine ⟨by rw [r1]; omega, ?_⟩
                conv => whnf
                refine ⟨by rw [r1]; omega, ?_⟩
                conv => whnf
                refine ⟨⟨{ v.piece (lab q) with rests := v.rests ++ [(mk (q :: ls.drop (i + 1)), (v.buf.length : Int))] }, i + 1, true⟩, [0, 1, 7], ⟨good_add xo hk1 (by omega), hil, xe, fun _ => by show 0 < (v.rests ++ [_]).length; simp⟩, by show ls.length - (i + 1) < ls.length - i; omega, ?_⟩
                conv => whnf
                rw [hwi]
                repeat' (first | exact True.intro | exact rfl | refine And.intro ?_ ?_)
                · show 0 + (v.piece (lab q)).rests.length + 1 = (v.rests ++ [_]).length
                  rw [r1, List.length_append]
                  show _ = v.rests.length + 1
                  omega
                · intro j hj
                  rw [r1] at hj ⊢
                  exact seen_cat v.rests _ _ _ j hj
        
              · have k2 : ¬ (v.buf.length : Int) < 16384 := of_decide_eq_false k2
                rw [if_neg (fun h => by omega)] at xe
                conv => whnf
                refine ⟨⟨v.piece (lab q), i + 1, false⟩, [0, 1, 2], ⟨xo.piece (lab q), hil, xe, fun h => by cases h⟩, by show ls.length - (i + 1) < ls.length - i; omega, ?_⟩
                conv => whnf
                rw [hwi]
                repeat' (first | exact True.intro | exact rfl | exact fun _ => Iff.rfl | exact fun _ _ => rfl | exact renM_ent rfl _ | refine And.intro ?_ ?_)
        
            · have hk1 : ¬ (v.piece (lab q)).full = false := by simpa using k1
              rw [if_neg (fun h => hk1 h.1)] at xe
              conv => whnf
              refine ⟨⟨v.piece (lab q), i + 1, false⟩, [0, 1, 2], ⟨xo.piece (lab q), hil, xe, fun h => by cases h⟩, by show ls.length - (i + 1) < ls.length - i; omega, ?_⟩
              conv => whnf
              rw [hwi]
              repeat' (first | exact True.intro | exact rfl | exact fun _ => Iff.rfl | exact fun _ _ => rfl | exact renM_ent rfl _ | refine And.intro ?_ ?_)
        
          · repeat (first | (refine brF rfl ?_; conv => whnf) | (refine brT rfl ?_; conv => whnf))
            rw [len_byte hq255]
            refine ⟨by show 1 + q.length ≤ _; omega, ?_⟩
            conv => whnf
            refine .one (.data _ (r3raw_ok v xo.1 (lab q) (by rw [lab_len]; omega)) rfl rfl ?_)
            conv => whnf
            refine ⟨fun k1 => ?_, fun k1 => ?_⟩
            · conv => whnf
              refine ⟨fun k2 => ?_, fun k2 => ?_⟩
              · have hk1 : (v.piece (lab q)).full = false := by simpa using k1
                obtain ⟨r1, r2, r3⟩ := piece_fit_rests hk1
                have k2 : (v.buf.length : Int) < 16384 := of_decide_eq_true k2
                rw [if_pos ⟨hk1, by omega⟩] at xe
                conv => whnf
                refine ⟨by rw [r1]; omega, ?_⟩
                conv => whnf
                refine ⟨by rw [r1]; omega, ?_⟩
                conv => whnf
                refine ⟨⟨{ v.piece (lab q) with rests := v.rests ++ [(mk (q :: ls.drop (i + 1)), (v.buf.length : Int))] }, i + 1, true⟩, [0, 1, 7], ⟨good_add xo hk1 (by omega), hil, xe, fun _ => by show 0 < (v.rests ++ [_]).length; simp⟩, by show ls.length - (i + 1) < ls.length - i; omega, ?_⟩
                conv => whnf
                rw [hwi]
                repeat' (first | exact True.intro | exact rfl | refine And.intro ?_ ?_)
                · show 0 + (v.piece (lab q)).rests.length + 1 = (v.rests ++ [_]).length
                  rw [r1, List.length_append]
                  show _ = v.rests.length + 1
                  omega
                · intro j hj
                  rw [r1] at hj ⊢
                  exact seen_cat v.rests _ _ _ j hj
        
              · have k2 : ¬ (v.buf.length : Int) < 16384 := of_decide_eq_false k2
                rw [if_neg (fun h => by omega)] at xe
                conv => whnf
                refine ⟨⟨v.piece (lab q), i + 1, false⟩, [0, 1, 2], ⟨xo.piece (lab q), hil, xe, fun h => by cases h⟩, by show ls.length - (i + 1) < ls.length - i; omega, ?_⟩
                conv => whnf
                rw [hwi]
                repeat' (first | exact True.intro | exact rfl | exact fun _ => Iff.rfl | exact fun _ _ => rfl | exact renM_ent rfl _ | refine And.intro ?_ ?_)
        
            · have hk1 : ¬ (v.piece (lab q)).full = false := by simpa using k1
              rw [if_neg (fun h => hk1 h.1)] at xe
              conv => whnf
              refine ⟨⟨v.piece (lab q), i + 1, false⟩, [0, 1, 2], ⟨xo.piece (lab q), hil, xe, fun h => by cases h⟩, by show ls.length - (i + 1) < ls.length - i; omega, ?_⟩
              conv => whnf
              rw [hwi]
              repeat' (first | exact True.intro | exact rfl | exact fun _ => Iff.rfl | exact fun _ _ => rfl | exact renM_ent rfl _ | refine And.intro ?_ ?_)
      · have c1 : ¬ (i : Int) < ls.length := of_decide_eq_false c1
        rw [List.drop_of_length_le (by omega)] at xe
        rw [← xe]
        conv => whnf
        refine .one (.data _ (r3raw_ok v xo.1 [0] (by decide)) rfl rfl ?_)
        conv => whnf
        repeat' (first | exact True.intro | exact rfl | exact ⟨rfl, rfl, .inr rfl, fun _ _ => rfl⟩ | exact ⟨rfl, rfl, .inl rfl, fun i hi => absurd hi (Nat.not_lt_zero _)⟩ | refine And.intro ?_ ?_)
    · have hz : Nat.beq v.rests.length 0 = false := by
        have := xz rfl
        cases hh : v.rests.length with
        | zero => omega
        | succ n => rfl
      have hV : v.V = [.d (.str v.buf), .d (.int .i64 v.limit), .d (.bool v.full), .d (.sl false v.rests.length 2 (seenF v.rests))] := by
        unfold Wr.V seenD
        rw [hz]
        rfl
      conv => whnf
      refine ⟨fun c1 => ?_, fun c1 => ?_⟩
      · have c1 : (i : Int) < ls.length := of_decide_eq_true c1
        have hil : i < ls.length := by omega
        obtain ⟨q, hq⟩ : ∃ q, ls[i]?.getD [] = q := ⟨_, rfl⟩
        have hq2 : ls[i]? = some q := by rw [← hq, List.getElem?_eq_getElem hil]; rfl
        have hdr : ls.drop i = q :: ls.drop (i + 1) := by
          rw [List.drop_eq_getElem_cons hil]
          congr 1
          rw [List.getElem?_eq_getElem hil] at hq2
          exact Option.some.inj hq2
        have hoq := hok q (List.mem_of_getElem? hq2)
        rw [hdr] at xe
        unfold Wr.nameR at xe
        have hwi : IntKind.i64.wrap ((i : Int) + 1) = ((i + 1 : Nat) : Int) := by rw [w64_in _ (by omega)]; omega
        have hpl := r3place_ok v (by omega) (mk (q :: ls.drop (i + 1)))
        have hpc : closed (placeR (fndS v.rests (mk (q :: ls.drop (i + 1))))) = true := by cases fndS v.rests (mk (q :: ls.drop (i + 1))) <;> rfl
        have hmk : FnOk Try.prog 167 [.d (.sl false ((ls.length : Int) - (i : Int)).toNat 1 (fun j => strs ls (i + j)))] (.d (.str (mk (q :: ls.drop (i + 1))))) := by
          have hn : ((ls.length : Int) - (i : Int)).toNat = (ls.drop i).length := by rw [List.length_drop]; omega
          rw [hn, ← hdr]
          exact (r1make_ok false (ls.drop i) (by rw [List.length_drop]; omega) (fun x hx => by have := (hok x (List.mem_of_mem_drop hx)).2; omega)).convA ⟨AEq.row (fun j hj => by unfold strs; rw [List.getElem?_drop]), True.intro⟩
        conv => whnf
        refine ⟨⟨Int.natCast_nonneg _, c1⟩, ?_⟩
        conv => whnf
        rw [Int.toNat_natCast, hq]
        refine ⟨⟨Int.natCast_nonneg _, (by show (i : Int) ≤ ls.length; omega), Int.le_refl _⟩, ?_⟩
        conv => whnf
        refine .one (.data _ hmk rfl rfl ?_)
        conv => whnf
        have hq255 : q.length ≤ 255 := by have := hoq.2; omega
        cases hfd : fndS v.rests (mk (q :: ls.drop (i + 1))) with
        | some a =>
          rw [hfd] at hpl xe
          refine .still [2] [(0, 149, v.V)] _ _ ⟨⟨_, rfl, ?_, rfl⟩, True.intro⟩ ?_ hpl rfl rfl ?_
          · conv => whnf
            exact ⟨hV.symm, rfl⟩
          · conv => whnf
            refine ⟨?_, rfl⟩
            show [SV.agg [.d (.str v.buf), .d (.int .i64 v.limit), .d (.bool v.full), .d (.sl false v.rests.length 2 (seenF v.rests))], _] = _
            rw [← hV]
          conv => whnf
          have hpl2 := xo.1.pl _ (fndS_mem hfd)
          have hpl2 : 0 ≤ a ∧ a < 16384 := hpl2
          cases p
          · repeat (first | (refine brF rfl ?_; conv => whnf) | (refine brT rfl ?_; conv => whnf))
            rw [len_byte hq255]
            refine ⟨by show 1 + q.length ≤ _; omega, ?_⟩
            conv => whnf
            refine .one (.data _ (r3raw_ok v xo.1 (lab q) (by rw [lab_len]; omega)) rfl rfl ?_)
            conv => whnf
            repeat (first | (refine brF rfl ?_; conv => whnf) | (refine brT rfl ?_; conv => whnf))
            refine ⟨⟨v.piece (lab q), i + 1, false⟩, [0, 1, 2], ⟨xo.piece (lab q), hil, xe, fun h => by cases h⟩, by show ls.length - (i + 1) < ls.length - i; omega, ?_⟩
            conv => whnf
            rw [hwi]
            repeat' (first | exact True.intro | exact rfl | exact fun _ => Iff.rfl | exact fun _ _ => rfl | exact renM_ent rfl _ | refine And.intro ?_ ?_)
        
          · repeat (first | (refine brF rfl ?_; conv => whnf) | (refine brT rfl ?_; conv => whnf))
            have hpw : IntKind.u64.wrap (IntKind.i64.wrap (49152 + a)) = 49152 + a := by rw [w64_in _ (by omega), IntKind.wrap_u64]; omega
            rw [hpw]
            refine .one (.data _ (r3num_ok v xo.1 2 (.inl rfl) (49152 + a) (by omega)) rfl rfl ?_)
            have xe : v.num 2 (49152 + a) = tgt := xe
            rw [← xe]
            conv => whnf
            repeat' (first | exact True.intro | exact rfl | exact ⟨rfl, rfl, .inr rfl, fun _ _ => rfl⟩ | exact ⟨rfl, rfl, .inl rfl, fun i hi => absurd hi (Nat.not_lt_zero _)⟩ | refine And.intro ?_ ?_)
        
        
        | none =>
          rw [hfd] at hpl xe
          dsimp only at xe
          refine .still [2] [(0, 149, v.V)] _ _ ⟨⟨_, rfl, ?_, rfl⟩, True.intro⟩ ?_ hpl rfl rfl ?_
          · conv => whnf
            exact ⟨hV.symm, rfl⟩
          · conv => whnf
            refine ⟨?_, rfl⟩
            show [SV.agg [.d (.str v.buf), .d (.int .i64 v.limit), .d (.bool v.full), .d (.sl false v.rests.length 2 (seenF v.rests))], _] = _
            rw [← hV]
          conv => whnf
          cases p
          · repeat (first | (refine brF rfl ?_; conv => whnf) | (refine brT rfl ?_; conv => whnf))
            rw [len_byte hq255]
            refine ⟨by show 1 + q.length ≤ _; omega, ?_⟩
            conv => whnf
            refine .one (.data _ (r3raw_ok v xo.1 (lab q) (by rw [lab_len]; omega)) rfl rfl ?_)
            conv => whnf
            refine ⟨fun k1 => ?_, fun k1 => ?_⟩
            · conv => whnf
              refine ⟨fun k2 => ?_, fun k2 => ?_⟩
              · have hk1 : (v.piece (lab q)).full = false := by simpa using k1
                obtain ⟨r1, r2, r3⟩ := piece_fit_rests hk1
                have k2 : (v.buf.length : Int) < 16384 := of_decide_eq_true k2
                rw [if_pos ⟨hk1, by omega⟩] at xe
                conv => whnf
                refine ⟨by rw [r1]; omega, ?_⟩
                conv => whnf
                refine ⟨by rw [r1]; omega, ?_⟩
                conv => whnf
                refine ⟨⟨{ v.piece (lab q) with rests := v.rests ++ [(mk (q :: ls.drop (i + 1)), (v.buf.length : Int))] }, i + 1, true⟩, [0, 1, 7], ⟨good_add xo hk1 (by omega), hil, xe, fun _ => by show 0 < (v.rests ++ [_]).length; simp⟩, by show ls.length - (i + 1) < ls.length - i; omega, ?_⟩
                conv => whnf
                rw [hwi]
                repeat' (first | exact True.intro | exact rfl | refine And.intro ?_ ?_)
                · show 0 + (v.piece (lab q)).rests.length + 1 = (v.rests ++ [_]).length
                  rw [r1, List.length_append]
                  show _ = v.rests.length + 1
                  omega
                · intro j hj
                  rw [r1] at hj ⊢
                  exact seen_cat v.rests _ _ _ j hj
        
              · have k2 : ¬ (v.buf.length : Int) < 16384 := of_decide_eq_false k2
                rw [if_neg (fun h => by omega)] at xe
                conv => whnf
                refine ⟨⟨v.piece (lab q), i + 1, false⟩, [0, 1, 2], ⟨xo.piece (lab q), hil, xe, fun h => by cases h⟩, by show ls.length - (i + 1) < ls.length - i; omega, ?_⟩
                conv => whnf
                rw [hwi]
                repeat' (first | exact True.intro | exact rfl | exact fun _ => Iff.rfl | exact fun _ _ => rfl | exact renM_ent rfl _ | refine And.intro ?_ ?_)
        
            · have hk1 : ¬ (v.piece (lab q)).full = false := by simpa using k1
              rw [if_neg (fun h => hk1 h.1)] at xe
              conv => whnf
              refine ⟨⟨v.piece (lab q), i + 1, false⟩, [0, 1, 2], ⟨xo.piece (lab q), hil, xe, fun h => by cases h⟩, by show ls.length - (i + 1) < ls.length - i; omega, ?_⟩
              conv => whnf
              rw [hwi]
              repeat' (first | exact True.intro | exact rfl | exact fun _ => Iff.rfl | exact fun _ _ => rfl | exact renM_ent rfl _ | refine And.intro ?_ ?_)
        
          · repeat (first | (refine brF rfl ?_; conv => whnf) | (refine brT rfl ?_; conv => whnf))
            rw [len_byte hq255]
            refine ⟨by show 1 + q.length ≤ _; omega, ?_⟩
            conv => whnf
            refine .one (.data _ (r3raw_ok v xo.1 (lab q) (by rw [lab_len]; omega)) rfl rfl ?_)
            conv => whnf
            refine ⟨fun k1 => ?_, fun k1 => ?_⟩
            · conv => whnf
              refine ⟨fun k2 => ?_, fun k2 => ?_⟩
              · have hk1 : (v.piece (lab q)).full = false := by simpa using k1
                obtain ⟨r1, r2, r3⟩ := piece_fit_rests hk1
                have k2 : (v.buf.length : Int) < 16384 := of_decide_eq_true k2
                rw [if_pos ⟨hk1, by omega⟩] at xe
                conv => whnf
                refine ⟨by rw [r1]; omega, ?_⟩
                conv => whnf
                refine ⟨by rw [r1]; omega, ?_⟩
                conv => whnf
                refine ⟨⟨{ v.piece (lab q) with rests := v.rests ++ [(mk (q :: ls.drop (i + 1)), (v.buf.length : Int))] }, i + 1, true⟩, [0, 1, 7], ⟨good_add xo hk1 (by omega), hil, xe, fun _ => by show 0 < (v.rests ++ [_]).length; simp⟩, by show ls.length - (i + 1) < ls.length - i; omega, ?_⟩
                conv => whnf
                rw [hwi]
                repeat' (first | exact True.intro | exact rfl | refine And.intro ?_ ?_)
                · show 0 + (v.piece (lab q)).rests.length + 1 = (v.rests ++ [_]).length
                  rw [r1, List.length_append]
                  show _ = v.rests.length + 1
                  omega
                · intro j hj
                  rw [r1] at hj ⊢
                  exact seen_cat v.rests _ _ _ j hj
        
              · have k2 : ¬ (v.buf.length : Int) < 16384 := of_decide_eq_false k2
                rw [if_neg (fun h => by omega)] at xe
                conv => whnf
                refine ⟨⟨v.piece (lab q), i + 1, false⟩, [0, 1, 2], ⟨xo.piece (lab q), hil, xe, fun h => by cases h⟩, by show ls.length - (i + 1) < ls.length - i; omega, ?_⟩
                conv => whnf
                rw [hwi]
                repeat' (first | exact True.intro | exact rfl | exact fun _ => Iff.rfl | exact fun _ _ => rfl | exact renM_ent rfl _ | refine And.intro ?_ ?_)
        
            · have hk1 : ¬ (v.piece (lab q)).full = false := by simpa using k1
              rw [if_neg (fun h => hk1 h.1)] at xe
              conv => whnf
              refine ⟨⟨v.piece (lab q), i + 1, false⟩, [0, 1, 2], ⟨xo.piece (lab q), hil, xe, fun h => by cases h⟩, by show ls.length - (i + 1) < ls.length - i; omega, ?_⟩
              conv => whnf
              rw [hwi]
              repeat' (first | exact True.intro | exact rfl | exact fun _ => Iff.rfl | exact fun _ _ => rfl | exact renM_ent rfl _ | refine And.intro ?_ ?_)
      · have c1 : ¬ (i : Int) < ls.length := of_decide_eq_false c1
        rw [List.drop_of_length_le (by omega)] at xe
        rw [← xe]
        conv => whnf
        refine .still [2] [] _ _ True.intro ?_ (r3raw_ok v xo.1 [0] (by decide)) rfl rfl ?_
        · conv => whnf
          refine ⟨?_, rfl⟩
          show [SV.agg [.d (.str v.buf), .d (.int .i64 v.limit), .d (.bool v.full), .d (.sl false v.rests.length 2 (seenF v.rests))], _] = _
          rw [← hV]
        conv => whnf
        repeat' (first | exact True.intro | exact rfl | exact ⟨rfl, rfl, .inr rfl, fun _ _ => rfl⟩ | exact ⟨rfl, rfl, .inl rfl, fun i hi => absurd hi (Nat.not_lt_zero _)⟩ | refine And.intro ?_ ?_)
end Go.Proofs.Ytdphkaiijlekhaa
namespace Go.Proofs.Ytdphkaiijlekhaa
open Go Go.Eng
set_option maxRecDepth 100000
set_option maxHeartbeats 4000000 in
theorem r5check_ok (r : RR) (hd : r.d.length ≤ 100000) : FnOk Try.prog 65 [r.V] (.d (.int .i64 (errno r.check))) := by
  refine fnOk_of_run (TT := TT) (IN := lookI []) TT_ok INok_nil mixed 1000 Try.func65 rfl (enters Try.func65 (by kernel_rfl) rfl) rfl 24 (by kernel_rfl) ?_
  conv => whnf
  refine .one (.data _ (r1check_ok r.nm) rfl rfl ?_)
  by_cases hn : isName r.nm
  · rw [if_pos hn]
    conv => whnf
    refine brF rfl ?_
    conv => whnf
    refine .one (.data _ (r4check_ok r.ty r.d hd) rfl rfl ?_)
    cases hc : rcheck r.ty r.d
    · have e : r.check = false := by simp [RR.check, hc]
      rw [e]
      conv => whnf
      repeat (first | (refine brF rfl ?_; conv => whnf) | (refine brT rfl ?_; conv => whnf))
      try exact rfl
    · conv => whnf
      refine brF rfl ?_
      conv => whnf
      refine ⟨fun c1 => ?_, fun c1 => ?_⟩
      · have c1' : ¬ r.ty = 41 := by simpa using c1
        conv => whnf
        refine ⟨fun c2 => ?_, fun c2 => ?_⟩
        · have c2' : ¬ r.ttl ≤ 2147483647 := by have : r.ttl > 2147483647 := of_decide_eq_true c2
                                                omega
          have e : r.check = false := by simp [RR.check, c1', c2']
          rw [e]
          conv => whnf
          exact rfl
        · have c2' : r.ttl ≤ 2147483647 := by have : ¬ r.ttl > 2147483647 := of_decide_eq_false c2
                                              omega
          have e : r.check = true := by simp [RR.check, hn, hc, c2']
          rw [e]
          conv => whnf
          exact rfl
      · have c1' : r.ty = 41 := by simpa using c1
        have e : r.check = true := by
          simp only [RR.check, hn, hc, decide_true, Bool.true_and, Bool.or_eq_true, beq_iff_eq]
          exact .inr c1'
        rw [e]
        conv => whnf
        exact rfl
  · rw [if_neg hn]
    have e : r.check = false := by simp [RR.check, hn]
    rw [e]
    conv => whnf
    repeat (first | (refine brF rfl ?_; conv => whnf) | (refine brT rfl ?_; conv => whnf))
    try exact rfl
set_option maxHeartbeats 16000000 in
theorem r6check_ok (m : Msg) (hsays : ∀ r ∈ m.says, r.d.length ≤ 100000) (hheads : ∀ r ∈ m.heads, r.d.length ≤ 100000) (hextra : ∀ r ∈ m.extra, r.d.length ≤ 100000) : FnOk Try.prog 40 [.agg m.cells] (.d (.int .i64 (errno m.check))) := by
  refine fnOk_of_run (TT := TT) (IN := lookI []) TT_ok INok_nil mixed 1000 Try.func40 rfl (enters Try.func40 (by kernel_rfl) rfl) rfl 65 (by kernel_rfl) ?_
  conv => whnf
  refine ⟨fun h1 => ?_, fun h1 => ?_⟩
  · have h1 : (m.asks.length : Int) > 4096 := of_decide_eq_true h1
    have e : m.check = false := by
      have : ¬ m.asks.length ≤ 4096 := by omega
      simp [Msg.check, this]
    rw [e]
    conv => whnf
    exact rfl
  have casks : ¬ (m.asks.length : Int) > 4096 := of_decide_eq_false h1
  clear h1
  conv => whnf
  refine ⟨fun h1 => ?_, fun h1 => ?_⟩
  · have h1 : (m.says.length : Int) > 4096 := of_decide_eq_true h1
    have e : m.check = false := by
      have : ¬ m.says.length ≤ 4096 := by omega
      simp [Msg.check, this]
    rw [e]
    conv => whnf
    exact rfl
  have csays : ¬ (m.says.length : Int) > 4096 := of_decide_eq_false h1
  clear h1
  conv => whnf
  refine ⟨fun h1 => ?_, fun h1 => ?_⟩
  · have h1 : (m.heads.length : Int) > 4096 := of_decide_eq_true h1
    have e : m.check = false := by
      have : ¬ m.heads.length ≤ 4096 := by omega
      simp [Msg.check, this]
    rw [e]
    conv => whnf
    exact rfl
  have cheads : ¬ (m.heads.length : Int) > 4096 := of_decide_eq_false h1
  clear h1
  conv => whnf
  refine ⟨fun h1 => ?_, fun h1 => ?_⟩
  · have h1 : (m.extra.length : Int) > 4096 := of_decide_eq_true h1
    have e : m.check = false := by
      have : ¬ m.extra.length ≤ 4096 := by omega
      simp [Msg.check, this]
    rw [e]
    conv => whnf
    exact rfl
  have cextra : ¬ (m.extra.length : Int) > 4096 := of_decide_eq_false h1
  clear h1
  conv => whnf
  refine .inv Nat (fun i => i ≤ m.asks.length ∧ (m.asks.take i).all (fun q => decide (isName q.nm)) = true) (fun i => [(34, .d (.int .i64 i))]) (fun _ => []) (fun i => m.asks.length - i) ⟨0, [0], ⟨Nat.zero_le _, rfl⟩, ?_⟩ ?_
  · conv => whnf
    repeat' (first | exact True.intro | exact rfl | exact fun _ => Iff.rfl | exact fun _ _ => rfl | exact renM_ent rfl _ | refine And.intro ?_ ?_)
  rintro i ⟨hi, hall⟩
  conv => whnf
  refine ⟨fun c5 => ?_, fun c5 => ?_⟩
  · have c5' : i < m.asks.length := (by have h : (i : Int) < m.asks.length := of_decide_eq_true c5; omega)
    obtain ⟨q, hq⟩ : ∃ q, m.asks.getD i default = q := ⟨_, rfl⟩
    have hq2 : m.asks[i]? = some q := by rw [← hq, List.getD, List.getElem?_eq_getElem c5']; rfl
    have htk : m.asks.take (i + 1) = m.asks.take i ++ [q] := by rw [List.take_add_one, hq2]; rfl
    conv => whnf
    refine ⟨by omega, ?_⟩
    conv => whnf
    rw [Int.toNat_natCast, hq]
    refine .one (.data _ (r1check_ok q.nm) rfl rfl ?_)
    by_cases hn : isName q.nm
    · rw [if_pos hn]
      conv => whnf
      refine brF rfl ?_
      conv => whnf
      have hw1 : IntKind.i64.wrap ((i : Int) + 1) = ((i + 1 : Nat) : Int) := by rw [w64_in _ (by omega)]; omega
      refine ⟨i + 1, [0], ⟨c5', by rw [htk, List.all_append, hall]; simp [hn]⟩, by omega, ?_⟩
      conv => whnf
      rw [hw1]
      repeat' (first | exact True.intro | exact rfl | exact fun _ => Iff.rfl | exact fun _ _ => rfl | exact renM_ent rfl _ | refine And.intro ?_ ?_)
    · have e : m.check = false := by
        have : m.asks.all (fun q => decide (isName q.nm)) = false := by
          rw [List.all_eq_false]
          exact ⟨q, List.mem_of_getElem? hq2, by simp [hn]⟩
        simp only [Msg.check, this, Bool.and_false, Bool.false_and]
      rw [if_neg hn, e]
      conv => whnf
      refine brT rfl ?_
      conv => whnf
      exact rfl
  have sasks : m.asks.all (fun q => decide (isName q.nm)) = true := by
    have : ¬ i < m.asks.length := (by have h : ¬ (i : Int) < m.asks.length := of_decide_eq_false c5; omega)
    rwa [List.take_of_length_le (by omega)] at hall
  clear hall hi c5
  conv => whnf
  refine .once ?_
  conv => whnf
  refine brT rfl ?_
  conv => whnf
  refine ⟨by decide, ?_⟩
  conv => whnf
  refine .inv Nat (fun i => i ≤ m.says.length ∧ (m.says.take i).all RR.check = true) (fun i => [(57, .d (.int .i64 i))]) (fun _ => []) (fun i => m.says.length - i) ⟨0, [0, 1], ⟨Nat.zero_le _, rfl⟩, ?_⟩ ?_
  · conv => whnf
    repeat' (first | exact True.intro | exact rfl | exact fun _ => Iff.rfl | exact fun _ _ => rfl | exact renM_ent rfl _ | refine And.intro ?_ ?_)
  rintro i ⟨hi, hall⟩
  conv => whnf
  refine ⟨fun c5 => ?_, fun c5 => ?_⟩
  · have c5' : i < m.says.length := (by have h : (i : Int) < m.says.length := of_decide_eq_true c5; omega)
    obtain ⟨q, hq⟩ : ∃ q, m.says.getD i default = q := ⟨_, rfl⟩
    have hq2 : m.says[i]? = some q := by rw [← hq, List.getD, List.getElem?_eq_getElem c5']; rfl
    have htk : m.says.take (i + 1) = m.says.take i ++ [q] := by rw [List.take_add_one, hq2]; rfl
    conv => whnf
    refine ⟨by omega, ?_⟩
    conv => whnf
    rw [Int.toNat_natCast, hq]
    refine .one (.data _ (r5check_ok q (hsays q (List.mem_of_getElem? hq2))) rfl rfl ?_)
    cases hn : q.check
    · have e : m.check = false := by
        have : m.says.all RR.check = false := by
          rw [List.all_eq_false]
          exact ⟨q, List.mem_of_getElem? hq2, by simp [hn]⟩
        simp only [Msg.check, this, Bool.and_false, Bool.false_and]
      rw [e]
      conv => whnf
      refine brT rfl ?_
      conv => whnf
      exact rfl
    · conv => whnf
      refine brF rfl ?_
      conv => whnf
      have hw1 : IntKind.i64.wrap ((i : Int) + 1) = ((i + 1 : Nat) : Int) := by rw [w64_in _ (by omega)]; omega
      refine ⟨i + 1, [0, 1], ⟨c5', by rw [htk, List.all_append, hall]; simp [hn]⟩, by omega, ?_⟩
      conv => whnf
      rw [hw1]
      repeat' (first | exact True.intro | exact rfl | exact fun _ => Iff.rfl | exact fun _ _ => rfl | exact renM_ent rfl _ | refine And.intro ?_ ?_)
  have ssays : m.says.all RR.check = true := by
    have : ¬ i < m.says.length := (by have h : ¬ (i : Int) < m.says.length := of_decide_eq_false c5; omega)
    rwa [List.take_of_length_le (by omega)] at hall
  clear hall hi c5
  conv => whnf
  refine .once ?_
  conv => whnf
  refine brT rfl ?_
  conv => whnf
  refine ⟨by decide, ?_⟩
  conv => whnf
  refine .inv Nat (fun i => i ≤ m.heads.length ∧ (m.heads.take i).all RR.check = true) (fun i => [(57, .d (.int .i64 i))]) (fun _ => []) (fun i => m.heads.length - i) ⟨0, [0, 1], ⟨Nat.zero_le _, rfl⟩, ?_⟩ ?_
  · conv => whnf
    repeat' (first | exact True.intro | exact rfl | exact fun _ => Iff.rfl | exact fun _ _ => rfl | exact renM_ent rfl _ | refine And.intro ?_ ?_)
  rintro i ⟨hi, hall⟩
  conv => whnf
  refine ⟨fun c5 => ?_, fun c5 => ?_⟩
  · have c5' : i < m.heads.length := (by have h : (i : Int) < m.heads.length := of_decide_eq_true c5; omega)
    obtain ⟨q, hq⟩ : ∃ q, m.heads.getD i default = q := ⟨_, rfl⟩
    have hq2 : m.heads[i]? = some q := by rw [← hq, List.getD, List.getElem?_eq_getElem c5']; rfl
    have htk : m.heads.take (i + 1) = m.heads.take i ++ [q] := by rw [List.take_add_one, hq2]; rfl
    conv => whnf
    refine ⟨by omega, ?_⟩
    conv => whnf
    rw [Int.toNat_natCast, hq]
    refine .one (.data _ (r5check_ok q (hheads q (List.mem_of_getElem? hq2))) rfl rfl ?_)
    cases hn : q.check
    · have e : m.check = false := by
        have : m.heads.all RR.check = false := by
          rw [List.all_eq_false]
          exact ⟨q, List.mem_of_getElem? hq2, by simp [hn]⟩
        simp only [Msg.check, this, Bool.and_false, Bool.false_and]
      rw [e]
      conv => whnf
      refine brT rfl ?_
      conv => whnf
      exact rfl
    · conv => whnf
      refine brF rfl ?_
      conv => whnf
      have hw1 : IntKind.i64.wrap ((i : Int) + 1) = ((i + 1 : Nat) : Int) := by rw [w64_in _ (by omega)]; omega
      refine ⟨i + 1, [0, 1], ⟨c5', by rw [htk, List.all_append, hall]; simp [hn]⟩, by omega, ?_⟩
      conv => whnf
      rw [hw1]
      repeat' (first | exact True.intro | exact rfl | exact fun _ => Iff.rfl | exact fun _ _ => rfl | exact renM_ent rfl _ | refine And.intro ?_ ?_)
  have sheads : m.heads.all RR.check = true := by
    have : ¬ i < m.heads.length := (by have h : ¬ (i : Int) < m.heads.length := of_decide_eq_false c5; omega)
    rwa [List.take_of_length_le (by omega)] at hall
  clear hall hi c5
  conv => whnf
  refine .once ?_
  conv => whnf
  refine brT rfl ?_
  conv => whnf
  refine ⟨by decide, ?_⟩
  conv => whnf
  refine .inv Nat (fun i => i ≤ m.extra.length ∧ (m.extra.take i).all RR.check = true) (fun i => [(57, .d (.int .i64 i))]) (fun _ => []) (fun i => m.extra.length - i) ⟨0, [0, 1], ⟨Nat.zero_le _, rfl⟩, ?_⟩ ?_
  · conv => whnf
    repeat' (first | exact True.intro | exact rfl | exact fun _ => Iff.rfl | exact fun _ _ => rfl | exact renM_ent rfl _ | refine And.intro ?_ ?_)
  rintro i ⟨hi, hall⟩
  conv => whnf
  refine ⟨fun c5 => ?_, fun c5 => ?_⟩
  · have c5' : i < m.extra.length := (by have h : (i : Int) < m.extra.length := of_decide_eq_true c5; omega)
    obtain ⟨q, hq⟩ : ∃ q, m.extra.getD i default = q := ⟨_, rfl⟩
    have hq2 : m.extra[i]? = some q := by rw [← hq, List.getD, List.getElem?_eq_getElem c5']; rfl
    have htk : m.extra.take (i + 1) = m.extra.take i ++ [q] := by rw [List.take_add_one, hq2]; rfl
    conv => whnf
    refine ⟨by omega, ?_⟩
    conv => whnf
    rw [Int.toNat_natCast, hq]
    refine .one (.data _ (r5check_ok q (hextra q (List.mem_of_getElem? hq2))) rfl rfl ?_)
    cases hn : q.check
    · have e : m.check = false := by
        have : m.extra.all RR.check = false := by
          rw [List.all_eq_false]
          exact ⟨q, List.mem_of_getElem? hq2, by simp [hn]⟩
        simp only [Msg.check, this, Bool.and_false, Bool.false_and]
      rw [e]
      conv => whnf
      refine brT rfl ?_
      conv => whnf
      exact rfl
    · conv => whnf
      refine brF rfl ?_
      conv => whnf
      have hw1 : IntKind.i64.wrap ((i : Int) + 1) = ((i + 1 : Nat) : Int) := by rw [w64_in _ (by omega)]; omega
      refine ⟨i + 1, [0, 1], ⟨c5', by rw [htk, List.all_append, hall]; simp [hn]⟩, by omega, ?_⟩
      conv => whnf
      rw [hw1]
      repeat' (first | exact True.intro | exact rfl | exact fun _ => Iff.rfl | exact fun _ _ => rfl | exact renM_ent rfl _ | refine And.intro ?_ ?_)
  have sextra : m.extra.all RR.check = true := by
    have : ¬ i < m.extra.length := (by have h : ¬ (i : Int) < m.extra.length := of_decide_eq_false c5; omega)
    rwa [List.take_of_length_le (by omega)] at hall
  clear hall hi c5
  conv => whnf
  refine .once ?_
  conv => whnf
  refine brF rfl ?_
  have e : m.check = true := by
    simp only [Msg.check, sasks, ssays, sheads, sextra, Bool.and_true, Bool.and_eq_true, decide_eq_true_eq]
    omega
  rw [e]
  conv => whnf
  exact rfl
end Go.Proofs.Ytdphkaiijlekhaa
namespace Go.Proofs.Ytdphkaiijlekhaa
open Go Go.Eng
/-- Data, a record, a message, as the document writes them. -/
def Wr.rdataR (w : Wr) (t : Int) (s : List UInt8) : Wr := if rcheck t s then (match lookF t s with
  | none => w.piece s
  | some (_, x, l, r) => ((w.piece x).names (t != 33) l).piece r) else w
def Wr.recR (w : Wr) (r : RR) : Wr := if r.check then
    (let w1 := (((w.name r.nm true).num 2 r.ty).num 2 r.cl).num 4 r.ttl
     let w2 := w1.num 2 0
     let w3 := w2.rdataR r.ty r.d
     if w2.buf.length = w1.buf.length + 2 then w3.set w1.buf.length (IntKind.u16.wrap ((w3.buf.length : Int) - w2.buf.length)) else w3)
  else w
def Wr.recsR (w : Wr) (l : List RR) : Wr := l.foldl Wr.recR w
def Msg.lastR (m : Msg) (limit : Int) : Wr := (((((Wr.mk [] (lm limit) false []).head m).asks m.asks).recsR m.says).recsR m.heads).recsR m.extra
def Msg.writeR (m : Msg) (limit : Int) : List UInt8 × Int := if m.check then (if (m.lastR limit).full then ([], 7) else ((m.lastR limit).buf, 0)) else ([], 2)
/-- The same, or both full. -/
def WE (a b : Wr) : Prop := a = b ∨ (a.full = true ∧ b.full = true)
theorem WE.op {f : Wr → Wr} (hf : ∀ w, w.full = true → (f w).full = true) {a b : Wr} (h : WE a b) : WE (f a) (f b) := by
  rcases h with rfl | ⟨h1, h2⟩
  · exact .inl rfl
  · exact .inr ⟨hf a h1, hf b h2⟩
theorem WOp.keep {f : Wr → Wr} (h : WOp f) (w : Wr) (hw : w.full = true) : (f w).full = true := by
  cases hf : (f w).full
  · rw [h.full w hf] at hw; cases hw
  · rfl
theorem fits_cat {w : Wr} {c d : List UInt8} (h : w.fits (c ++ d) = true) : w.fits c = true ∧ (w.piece c).fits d = true := by
  have h0 := h
  unfold Wr.fits at h
  simp only [Bool.and_eq_true, Bool.not_eq_true', Bool.or_eq_true, decide_eq_true_eq, List.length_append] at h
  obtain ⟨h1, h2⟩ := h
  have hc : w.fits c = true := by
    unfold Wr.fits
    simp only [Bool.and_eq_true, Bool.not_eq_true', Bool.or_eq_true, decide_eq_true_eq]
    exact ⟨h1, by omega⟩
  refine ⟨hc, ?_⟩
  unfold Wr.piece
  rw [if_pos hc]
  unfold Wr.fits
  simp only [Bool.and_eq_true, Bool.not_eq_true', Bool.or_eq_true, decide_eq_true_eq, List.length_append]
  exact ⟨h1, by omega⟩
theorem piece_cat {w : Wr} {c d : List UInt8} (h : w.fits (c ++ d) = true) : w.piece (c ++ d) = (w.piece c).piece d := by
  obtain ⟨h1, h2⟩ := fits_cat h
  unfold Wr.piece
  rw [if_pos h, if_pos h1]
  unfold Wr.piece at h2
  rw [if_pos h1] at h2
  rw [if_pos h2, List.append_assoc]
theorem copies_WE (k : Nat) (hk : k = 2 ∨ k = 4) : ∀ (m : Nat) (w : Wr) (x : List UInt8) (p : Nat), p + k * m = x.length → WE (w.copies k m ⟨x, p, false⟩).1 (w.piece (x.drop p))
  | 0, w, x, p, hp => by
    rw [List.drop_of_length_le (by omega)]
    show WE w (w.piece [])
    cases hf : w.full
    · refine .inl ?_
      unfold Wr.piece
      rw [if_pos (by unfold Wr.fits; rw [hf]; simp), List.append_nil]
    · rw [piece_full hf]
      exact .inl rfl
  | m + 1, w, x, p, hp => by
    have hmul : k * (m + 1) = k * m + k := rfl
    have hk0 : 0 < k := by omega
    have hraw : (Rdr.mk x p false).raw (k : Nat) = (⟨x, p + k, false⟩, (x.drop p).take k) := by
      unfold Rdr.raw
      rw [if_neg (by simp), if_neg (by show ¬ (((k : Nat) : Int) < 0 ∨ ((k : Nat) : Int) > (x.length : Int) - p); omega), Int.toNat_natCast]
    have hnum : (Rdr.mk x p false).num k = (⟨x, p + k, false⟩, numOf ((x.drop p).take k)) := by
      unfold Rdr.num
      rw [hraw]
      rfl
    have hxl : ((x.drop p).take k).length = k := by rw [List.length_take, List.length_drop]; omega
    obtain ⟨hbe, _⟩ := numOf_be k hk _ hxl
    have e : w.copies k (m + 1) ⟨x, p, false⟩ = (w.piece ((x.drop p).take k)).copies k m ⟨x, p + k, false⟩ := by
      show (w.num k ((Rdr.mk x p false).num k).2).copies k m ((Rdr.mk x p false).num k).1 = _
      rw [hnum]
      show (w.piece (be k ((numOf ((x.drop p).take k) : Nat) : Int))).copies k m _ = _
      rw [hbe]
    rw [e]
    have ih := copies_WE k hk m (w.piece ((x.drop p).take k)) x (p + k) (by omega)
    have hcat : (x.drop p).take k ++ x.drop (p + k) = x.drop p := by rw [← List.drop_drop, List.take_append_drop]
    cases hf : w.fits (x.drop p)
    · refine .inr ⟨?_, nofit hf⟩
      cases hff : ((w.piece ((x.drop p).take k)).copies k m ⟨x, p + k, false⟩).1.full
      · exfalso
        obtain ⟨h1, _⟩ := copies_back k hk m _ x (p + k) (by omega) hff
        have h2 : (w.piece ((x.drop p).take k)).full = false := (copies_op k m _).full _ hff
        obtain ⟨h3, h4, h5⟩ := piece_fit h2
        rcases ih with ih | ⟨ih, _⟩
        · rw [ih] at hff
          obtain ⟨h6, _, _⟩ := piece_fit hff
          rw [h4] at h6
          unfold Wr.fits at hf h3 h6
          simp only [Bool.and_eq_true, Bool.not_eq_true', Bool.or_eq_true, decide_eq_true_eq, List.length_append, Bool.and_eq_false_iff, Bool.or_eq_false_iff, decide_eq_false_iff_not, Bool.not_eq_false', List.length_drop, List.length_take] at hf h3 h6
          rcases hf with hf | hf
          · rw [h5] at hf; cases hf
          · omega
        · rw [hff] at ih; cases ih
      · rfl
    · have hpc : w.piece (x.drop p) = (w.piece ((x.drop p).take k)).piece (x.drop (p + k)) := by
        have := piece_cat (w := w) (c := (x.drop p).take k) (d := x.drop (p + k)) (by rw [hcat]; exact hf)
        rw [hcat] at this
        exact this
      rw [hpc]
      exact ih
theorem rdata_WE (w : Wr) (t : Int) (s : List UInt8) : WE (w.rdata t s).1 (w.rdataR t s) := by
  unfold Wr.rdata Wr.rdataR
  cases hc : rcheck t s
  · exact .inl rfl
  · cases hl : lookF t s with
    | none => exact .inl rfl
    | some q =>
      obtain ⟨p, x, l, r⟩ := q
      obtain ⟨_, _, e1, e2, _, e4⟩ := lookF_le hl
      have hx : x.length = 2 * p.1 := by rw [e1, List.length_take]; omega
      show WE (((w.copies 2 p.1 ⟨x, 0, false⟩).1.names (t != 33) l).copies 4 p.2.2 ⟨r, 0, false⟩).1 (((w.piece x).names (t != 33) l).piece r)
      have h1 := copies_WE 2 (.inl rfl) p.1 w x 0 (by omega)
      rw [List.drop_zero] at h1
      have h2 := copies_WE 4 (.inr rfl) p.2.2 ((w.piece x).names (t != 33) l) r 0 (by omega)
      rw [List.drop_zero] at h2
      rcases h1 with h1 | ⟨h1, h1'⟩
      · rw [h1]
        exact h2
      · exact .inr ⟨(copies_op 4 p.2.2 _).keep _ ((names_op _ l).keep _ h1), (piece_op r).keep _ ((names_op _ l).keep _ h1')⟩
theorem set_full (a : Wr) (i n : Int) : (a.set i n).full = a.full := by unfold Wr.set; split <;> rfl
theorem record_WE (w : Wr) (r : RR) : WE (w.record r).1 (w.recR r) := by
  unfold Wr.record Wr.recR
  cases hc : r.check
  · exact .inl rfl
  · rw [if_pos rfl, if_pos rfl]
    dsimp only
    generalize ((((w.name r.nm true).num 2 r.ty).num 2 r.cl).num 4 r.ttl) = w1
    have h := rdata_WE (w1.num 2 0) r.ty r.d
    cases hf : w1.fits (be 2 0)
    · have hfull : (w1.num 2 0).full = true := nofit hf
      have hb : (w1.num 2 0).buf = w1.buf := by show (w1.piece (be 2 0)).buf = _; unfold Wr.piece; rw [hf]; rfl
      have f1 : ((w1.num 2 0).rdata r.ty r.d).1.full = true := (rdata_op r.ty r.d).keep _ hfull
      have f2 : ((w1.num 2 0).rdataR r.ty r.d).full = true := by
        rcases h with h | ⟨_, h⟩
        · rw [← h]; exact f1
        · exact h
      rw [if_neg (by rw [hb]; omega)]
      exact .inr ⟨(set_full _ _ _).trans f1, f2⟩
    · have hb : (w1.num 2 0).buf.length = w1.buf.length + 2 := by
        show (w1.piece (be 2 0)).buf.length = _
        unfold Wr.piece
        rw [if_pos hf]
        show (w1.buf ++ be 2 0).length = _
        rw [List.length_append]
        rfl
      rw [if_pos hb]
      rcases h with h | ⟨h1, h2⟩
      · rw [h]; exact .inl rfl
      · exact .inr ⟨(set_full _ _ _).trans h1, (set_full _ _ _).trans h2⟩
theorem recR_full {w : Wr} (r : RR) (h : w.full = true) : (w.recR r).full = true := by
  have h1 : (w.record r).1.full = true := by
    cases hf : (w.record r).1.full
    · rw [record_full hf] at h; cases h
    · rfl
  rcases record_WE w r with e | ⟨_, e⟩
  · rw [← e]; exact h1
  · exact e
theorem recs_WE : ∀ (l : List RR) {a b : Wr}, WE a b → WE (a.recs l) (b.recsR l)
  | [], _, _, h => h
  | r :: l, a, b, h => by
    refine recs_WE l (a := (a.record r).1) (b := b.recR r) ?_
    rcases h with rfl | ⟨h1, h2⟩
    · exact record_WE a r
    · refine .inr ⟨?_, recR_full r h2⟩
      cases hf : (a.record r).1.full
      · rw [record_full hf] at h1; cases h1
      · rfl
theorem last_WE (m : Msg) (limit : Int) : WE (m.last limit) (m.lastR limit) := recs_WE _ (recs_WE _ (recs_WE _ (.inl rfl)))
theorem writeR_eq (m : Msg) (limit : Int) : m.writeR limit = m.write limit := by
  unfold Msg.writeR Msg.write
  cases m.check
  · rfl
  · rcases last_WE m limit with h | ⟨h1, h2⟩
    · rw [h]
    · rw [h1, h2]
      rfl
end Go.Proofs.Ytdphkaiijlekhaa
namespace Go.Proofs.Ytdphkaiijlekhaa
open Go Go.Eng
theorem and_nat (n : Nat) (hn : n < 65536) (k : Nat) (hk : k < 65536) : Go.bits BinOp.and IntKind.u16 (n : Int) (k : Int) = ((n &&& k : Nat) : Int) := by
  have h1 : BitVec.ofInt 16 (n : Int) = BitVec.ofNat 16 n := BitVec.eq_of_toNat_eq (by simp)
  have h2 : BitVec.ofInt 16 (k : Int) = BitVec.ofNat 16 k := BitVec.eq_of_toNat_eq (by simp)
  have : Go.bits BinOp.and IntKind.u16 (n : Int) (k : Int) = IntKind.u16.wrap (((BitVec.ofInt 16 (n : Int) &&& BitVec.ofInt 16 (k : Int)).toNat : Nat) : Int) := rfl
  rw [this, h1, h2, BitVec.toNat_and, BitVec.toNat_ofNat, BitVec.toNat_ofNat, Nat.mod_eq_of_lt (show n < 2 ^ 16 by omega), Nat.mod_eq_of_lt (show k < 2 ^ 16 by omega), IntKind.wrap_u16]
  have := Nat.and_le_left (n := n) (m := k)
  omega
theorem code_mod {m : Msg} (h : 0 ≤ m.bits ∧ m.bits ≤ 65535) : m.code = m.bits % 16 := by
  obtain ⟨n, hn⟩ : ∃ n : Nat, m.bits = n := ⟨m.bits.toNat, by omega⟩
  unfold Msg.code
  rw [hn]
  have e := and_nat n (by omega) 15 (by omega)
  have e2 : (n &&& 15) = n % 16 := Nat.and_two_pow_sub_one_eq_mod n 4
  rw [e2] at e
  have e : Go.bits BinOp.and IntKind.u16 (n : Int) 15 = ((n % 16 : Nat) : Int) := e
  rw [e, w64_in _ (by omega)]
  omega
theorem op_mod {m : Msg} (h : 0 ≤ m.bits ∧ m.bits ≤ 65535) : m.op = m.bits / 2048 % 16 := by
  obtain ⟨n, hn⟩ : ∃ n : Nat, m.bits = n := ⟨m.bits.toNat, by omega⟩
  unfold Msg.op
  rw [hn]
  have e := and_nat n (by omega) 30720 (by omega)
  have e1 : (n &&& 30720) >>> 11 = (n >>> 11) &&& 15 := by
    rw [Nat.shiftRight_and_distrib]
    rfl
  have e2 : ((n >>> 11) &&& 15) = (n >>> 11) % 16 := Nat.and_two_pow_sub_one_eq_mod _ 4
  have e3 : n >>> 11 = n / 2048 := Nat.shiftRight_eq_div_pow n 11
  have e4 : (n &&& 30720) >>> 11 = (n &&& 30720) / 2048 := Nat.shiftRight_eq_div_pow _ 11
  have hle := Nat.and_le_left (n := n) (m := 30720)
  have e : Go.bits BinOp.and IntKind.u16 (n : Int) 30720 = ((n &&& 30720 : Nat) : Int) := e
  rw [e, w64_in _ (by omega), Int.fdiv_eq_ediv_of_nonneg _ (by decide)]
  generalize (n &&& 30720) = x at *
  have e5 : x / 2048 = n / 2048 % 16 := by rw [← e4, e1, e2, e3]
  show ((x : Nat) : Int) / 2048 = (n : Int) / 2048 % 16
  omega
/-- The reply's bits in the document's order. -/
theorem or_order (b c : Int) : Go.bits BinOp.or IntKind.u16 (Go.bits BinOp.or IntKind.u16 (Go.bits BinOp.and IntKind.u16 b 30976) 32768) c = Go.bits BinOp.or IntKind.u16 (Go.bits BinOp.and IntKind.u16 b 30976) (Go.bits BinOp.or IntKind.u16 32768 c) := by
  have e : ∀ x y : Int, Go.bits BinOp.or IntKind.u16 x y = IntKind.u16.wrap (((BitVec.ofInt 16 x ||| BitVec.ofInt 16 y).toNat : Nat) : Int) := fun x y => rfl
  have ea : Go.bits BinOp.and IntKind.u16 b 30976 = IntKind.u16.wrap (((BitVec.ofInt 16 b &&& BitVec.ofInt 16 30976).toNat : Nat) : Int) := rfl
  rw [e, e, e, e, bv16, bv16, BitVec.or_assoc]
end Go.Proofs.Ytdphkaiijlekhaa
namespace Go.Proofs.Ytdphkaiijlekhaa
open Go Go.Eng
theorem Wr.Good.nameR {p : Bool} : ∀ (ls : List (List UInt8)) {w : Wr}, w.Good → (Wr.nameR p w ls).Good
  | [], _, h => h.piece _
  | l :: ls, w, h => by
    unfold Wr.nameR
    split
    · split
      · exact h.num _ _
      · exact Wr.Good.nameR ls (h.piece _)
    · refine Wr.Good.nameR ls ?_
      split
      · rename_i hc
        obtain ⟨hc1, hc2⟩ := hc
        have hp := h.piece (lab l)
        obtain ⟨k1, k2, _⟩ := piece_fit_rests hc1
        refine ⟨⟨hp.1.lo, hp.1.hi, hp.1.len, fun e he => ?_⟩, ?_⟩
        · rcases List.mem_append.1 he with he | he
          · exact h.1.pl e he
          · rw [List.mem_singleton.1 he]
            show 0 ≤ (w.buf.length : Int) ∧ (w.buf.length : Int) < 16384
            omega
        · show (w.rests ++ [_]).length ≤ (w.piece (lab l)).buf.length
          rw [k2, List.length_append, List.length_append, lab_len]
          have := h.2
          show w.rests.length + 1 ≤ _
          omega
      · exact h.piece _
theorem Wr.Good.name {w : Wr} (h : w.Good) (n : List UInt8) (p : Bool) : (w.name n p).Good := by
  by_cases hn : isName n
  · obtain ⟨h1, ls, h2, rfl⟩ := (isName_iff n).1 hn
    rw [← nameR_name w ls h2 h1]
    exact h.nameR ls
  · unfold Wr.name
    rw [if_pos (.inr hn)]
    exact h
theorem Wr.Good.names {p : Bool} : ∀ (l : List (List UInt8)) {w : Wr}, w.Good → (w.names p l).Good
  | [], _, h => h
  | n :: l, _, h => Wr.Good.names l (h.name n p)
theorem Wr.Good.set {w : Wr} (h : w.Good) (a n : Int) : (w.set a n).Good := by
  refine ⟨h.1.set a n, ?_⟩
  have := h.2
  unfold Wr.set
  split
  · exact this
  · show w.rests.length ≤ (two w.buf a.toNat _ _).length
    rw [two_len _ _ _ _ (by omega)]
    exact this
theorem Wr.Good.rdataR {w : Wr} (h : w.Good) (t : Int) (s : List UInt8) : (w.rdataR t s).Good := by
  unfold Wr.rdataR
  split
  · split
    · exact h.piece _
    · exact (Wr.Good.names _ (h.piece _)).piece _
  · exact h
theorem Wr.Good.recR {w : Wr} (h : w.Good) (r : RR) : (w.recR r).Good := by
  unfold Wr.recR
  split
  · have h1 := ((((h.name r.nm true).num 2 r.ty).num 2 r.cl).num 4 r.ttl)
    have h2 := (h1.num 2 0).rdataR r.ty r.d
    dsimp only
    split
    · exact h2.set _ _
    · exact h2
  · exact h
theorem r3Name_ok (w : Wr) (hw : w.Good) (n : List UInt8) : FnOk Try.prog 84 [.agg w.V, .d (.str n)] (.agg (w.name n true).V) := by
  refine fnOk_of_run (TT := TT) (IN := lookI []) TT_ok INok_nil mixed 1000 Try.func84 rfl (enters Try.func84 (by kernel_rfl) rfl) rfl 6 (by kernel_rfl) ?_
  conv => whnf
  refine .one (.data _ ((r3name_ok w hw n true).convA ⟨.refl _, .refl _, .d .tb, True.intro⟩) rfl rfl ?_)
  conv => whnf
  repeat' (first | exact True.intro | exact rfl | exact ⟨rfl, rfl, .inr rfl, fun _ _ => rfl⟩ | exact ⟨rfl, rfl, .inl rfl, fun i hi => absurd hi (Nat.not_lt_zero _)⟩ | refine And.intro ?_ ?_)
theorem r3Full_ok (w : Wr) (hw : w.Good) (n : List UInt8) : FnOk Try.prog 169 [.agg w.V, .d (.str n)] (.agg (w.name n false).V) := by
  refine fnOk_of_run (TT := TT) (IN := lookI []) TT_ok INok_nil mixed 1000 Try.func169 rfl (enters Try.func169 (by kernel_rfl) rfl) rfl 6 (by kernel_rfl) ?_
  conv => whnf
  refine .one (.data _ ((r3name_ok w hw n false).convA ⟨.refl _, .refl _, .d .fb, True.intro⟩) rfl rfl ?_)
  conv => whnf
  repeat' (first | exact True.intro | exact rfl | exact ⟨rfl, rfl, .inr rfl, fun _ _ => rfl⟩ | exact ⟨rfl, rfl, .inl rfl, fun i hi => absurd hi (Nat.not_lt_zero _)⟩ | refine And.intro ?_ ?_)
structure R6St where
  w : Wr
  i : Nat
set_option maxRecDepth 100000 in
set_option maxHeartbeats 8000000 in
theorem r4write_ok (w : Wr) (hw : w.Good) (t : Int) (s : List UInt8) (hs : s.length ≤ 100000) : FnOk Try.prog 135 [.agg w.V, .d (.int .u16 t), .d (.str s)] (.tup [.agg (w.rdataR t s).V, .d (.int .i64 (errno (rcheck t s)))]) := by
  refine fnOk_of_run (TT := TT) (IN := lookI []) TT_ok INok_nil mixed 1000 Try.func135 rfl (enters Try.func135 (by kernel_rfl) rfl) rfl 61 (by kernel_rfl) ?_
  conv => whnf
  refine .one (.data _ (r4check_ok t s hs) rfl rfl ?_)
  cases hc : rcheck t s
  · have e : w.rdataR t s = w := by unfold Wr.rdataR; rw [hc]; rfl
    rw [e]
    conv => whnf
    refine brT rfl ?_
    conv => whnf
    repeat' (first | exact True.intro | exact rfl | exact ⟨rfl, rfl, .inr rfl, fun _ _ => rfl⟩ | exact ⟨rfl, rfl, .inl rfl, fun i hi => absurd hi (Nat.not_lt_zero _)⟩ | refine And.intro ?_ ?_)
  conv => whnf
  refine brF rfl ?_
  conv => whnf
  have hpt := r4parts_ok t
  cases hf : formOf t with
  | none =>
    have hl : lookF t s = none := by unfold lookF; rw [hf]; split <;> rfl
    have e : w.rdataR t s = w.piece s := by unfold Wr.rdataR; rw [hc, hl]; rfl
    rw [hf] at hpt
    rw [e]
    refine .one (.data _ hpt rfl rfl ?_)
    conv => whnf
    refine .one (.data _ (r3raw_ok w hw.1 s (by omega)) rfl rfl ?_)
    conv => whnf
    repeat' (first | exact True.intro | exact rfl | exact ⟨rfl, rfl, .inr rfl, fun _ _ => rfl⟩ | exact ⟨rfl, rfl, .inl rfl, fun i hi => absurd hi (Nat.not_lt_zero _)⟩ | refine And.intro ?_ ?_)
  | some p =>
    rw [hf] at hpt
    obtain ⟨t1, t2, t3⟩ := formOf_cases hf
    have hcs := hc
    unfold rcheck rgood at hcs
    rw [if_neg t1, if_neg t2, if_neg t3, hf] at hcs
    simp only [Bool.and_eq_true, decide_eq_true_eq] at hcs
    obtain ⟨c1, c2⟩ := hcs
    obtain ⟨⟨x, l, r⟩, hcut⟩ := Option.isSome_iff_exists.1 c2
    have hl : lookF t s = some (p, x, l, r) := by unfold lookF; rw [if_pos c1, hf]; show (cutF p.1 p.2.1 p.2.2 s).map _ = _; rw [hcut]; rfl
    have e : w.rdataR t s = ((w.piece x).names (t != 33) l).piece r := by unfold Wr.rdataR; rw [hc, hl]; rfl
    obtain ⟨_, hll, hlen⟩ := lookF_len hl
    have hsp := r4split_ok t p hf s hs
    rw [hcut] at hsp
    rw [e]
    refine .one (.data _ hpt rfl rfl ?_)
    conv => whnf
    refine .one (.data _ hsp rfl rfl ?_)
    conv => whnf
    refine .one (.data _ (r3raw_ok w hw.1 x (by omega)) rfl rfl ?_)
    have hw1 := hw.piece x
    generalize w.piece x = w1 at hw1 ⊢
    conv => whnf
    refine .inv R6St (fun y => y.w.Good ∧ y.i ≤ l.length ∧ y.w.names (t != 33) (l.drop y.i) = w1.names (t != 33) l) (fun y => [(48, .d (.int .i64 y.i))]) (fun y => [(0, .cells 149 y.w.V)]) (fun y => l.length - y.i) ⟨⟨w1, 0⟩, [0, 1], ⟨hw1, Nat.zero_le _, rfl⟩, ?_⟩ ?_
    · conv => whnf
      repeat' (first | exact True.intro | exact rfl | exact fun _ => Iff.rfl | exact fun _ _ => rfl | exact renM_ent rfl _ | refine And.intro ?_ ?_)
    rintro y ⟨yw, yi, ye⟩
    conv => whnf
    generalize y.w = v at yw ye ⊢
    generalize y.i = i at yi ye ⊢
    refine ⟨fun d1 => ?_, fun d1 => ?_⟩
    · have d1 : (i : Int) < l.length := of_decide_eq_true d1
      have hil : i < l.length := by omega
      obtain ⟨q, hq⟩ : ∃ q, l[i]?.getD [] = q := ⟨_, rfl⟩
      have hq2 : l[i]? = some q := by rw [← hq, List.getElem?_eq_getElem hil]; rfl
      have hdr : l.drop i = q :: l.drop (i + 1) := by
        rw [List.drop_eq_getElem_cons hil]
        congr 1
        rw [List.getElem?_eq_getElem hil] at hq2
        exact Option.some.inj hq2
      have hwi : IntKind.i64.wrap ((i : Int) + 1) = ((i + 1 : Nat) : Int) := by rw [w64_in _ (by omega)]; omega
      rw [hdr] at ye
      conv => whnf
      refine ⟨by omega, ?_⟩
      conv => whnf
      rw [Int.toNat_natCast, hq]
      refine ⟨fun d2 => ?_, fun d2 => ?_⟩
      · have hp : (t != 33) = false := by have : t = 33 := by simpa using d2
                                          simp [this]
        rw [hp] at ye
        conv => whnf
        refine .one (.data _ (r3Full_ok v yw q) rfl rfl ?_)
        conv => whnf
        refine ⟨⟨v.name q false, i + 1⟩, [0, 1], ⟨yw.name q false, hil, ?_⟩, by show l.length - (i + 1) < l.length - i; omega, ?_⟩
        · rw [hp]; exact ye
        conv => whnf
        rw [hwi]
        repeat' (first | exact True.intro | exact rfl | exact fun _ => Iff.rfl | exact fun _ _ => rfl | exact renM_ent rfl _ | refine And.intro ?_ ?_)
      · have hp : (t != 33) = true := by have : t ≠ 33 := by simpa using d2
                                         simp [this]
        rw [hp] at ye
        conv => whnf
        refine .one (.data _ (r3Name_ok v yw q) rfl rfl ?_)
        conv => whnf
        refine ⟨⟨v.name q true, i + 1⟩, [0, 1], ⟨yw.name q true, hil, ?_⟩, by show l.length - (i + 1) < l.length - i; omega, ?_⟩
        · rw [hp]; exact ye
        conv => whnf
        rw [hwi]
        repeat' (first | exact True.intro | exact rfl | exact fun _ => Iff.rfl | exact fun _ _ => rfl | exact renM_ent rfl _ | refine And.intro ?_ ?_)
    · have d1 : ¬ (i : Int) < l.length := of_decide_eq_false d1
      rw [List.drop_of_length_le (by omega)] at ye
      have ye : v = w1.names (t != 33) l := ye
      rw [← ye]
      conv => whnf
      refine .one (.data _ (r3raw_ok v yw.1 r (by omega)) rfl rfl ?_)
      conv => whnf
      repeat' (first | exact True.intro | exact rfl | exact ⟨rfl, rfl, .inr rfl, fun _ _ => rfl⟩ | exact ⟨rfl, rfl, .inl rfl, fun i hi => absurd hi (Nat.not_lt_zero _)⟩ | refine And.intro ?_ ?_)
end Go.Proofs.Ytdphkaiijlekhaa
namespace Go.Proofs.Ytdphkaiijlekhaa
open Go Go.Eng
set_option maxRecDepth 100000 in
set_option maxHeartbeats 8000000 in
theorem r5write_ok (w : Wr) (hw : w.Good) (r : RR) (ho : r.Ok) (hd : r.d.length ≤ 100000) : FnOk Try.prog 85 [.agg w.V, r.V] (.tup [.agg (w.recR r).V, .d (.int .i64 (errno r.check))]) := by
  refine fnOk_of_run (TT := TT) (IN := lookI []) TT_ok INok_nil mixed 1000 Try.func85 rfl (enters Try.func85 (by kernel_rfl) rfl) rfl 57 (by kernel_rfl) ?_
  have hty := ho.ty
  have hcl := ho.cl
  have htt := ho.ttl
  have hu : ∀ x : Int, 0 ≤ x ∧ x < 18446744073709551616 → IntKind.u64.wrap x = x := fun x hx => by rw [IntKind.wrap_u64]; omega
  conv => whnf
  refine .one (.data _ (r5check_ok r hd) rfl rfl ?_)
  cases hc : r.check
  · have e : w.recR r = w := by unfold Wr.recR; rw [if_neg (by simp [hc])]
    rw [e]
    conv => whnf
    refine brT rfl ?_
    conv => whnf
    repeat' (first | exact True.intro | exact rfl | exact ⟨rfl, rfl, .inr rfl, fun _ _ => rfl⟩ | exact ⟨rfl, rfl, .inl rfl, fun i hi => absurd hi (Nat.not_lt_zero _)⟩ | refine And.intro ?_ ?_)
  have e : w.recR r = w.recR r := rfl
  conv at e => rhs; unfold Wr.recR; rw [if_pos hc]
  dsimp only at e
  rw [e]
  clear e
  conv => whnf
  refine brF rfl ?_
  conv => whnf
  refine .data _ (r3Name_ok w hw r.nm) rfl rfl ?_
  have ga := hw.name r.nm true
  generalize w.name r.nm true = wa at ga ⊢
  conv => whnf
  rw [hu r.ty (by omega)]
  refine .data _ (r3num_ok wa ga.1 2 (.inl rfl) r.ty (by omega)) rfl rfl ?_
  have gb := ga.num 2 r.ty
  generalize wa.num 2 r.ty = wb at gb ⊢
  conv => whnf
  rw [hu r.cl (by omega)]
  refine .data _ (r3num_ok wb gb.1 2 (.inl rfl) r.cl (by omega)) rfl rfl ?_
  have gc := gb.num 2 r.cl
  generalize wb.num 2 r.cl = wc at gc ⊢
  conv => whnf
  rw [hu r.ttl (by omega)]
  refine .data _ (r3num_ok wc gc.1 4 (.inr rfl) r.ttl (by omega)) rfl rfl ?_
  have gd := gc.num 4 r.ttl
  generalize wc.num 4 r.ttl = w1 at gd ⊢
  conv => whnf
  refine .one (.data _ (r3num_ok w1 gd.1 2 (.inl rfl) 0 (by omega)) rfl rfl ?_)
  have ge := gd.num 2 0
  generalize w1.num 2 0 = w2 at ge ⊢
  conv => whnf
  refine .one (.data _ (r4write_ok w2 ge r.ty r.d hd) rfl rfl ?_)
  have gf := ge.rdataR r.ty r.d
  generalize w2.rdataR r.ty r.d = w3 at gf ⊢
  have k1 := gd.1.len
  have k1' := gd.1.hi
  have k2 := ge.1.len
  have k2' := ge.1.hi
  have k3 := gf.1.len
  have k3' := gf.1.hi
  conv => whnf
  rw [w64_in ((w1.buf.length : Int) + 2) (by omega)]
  refine ⟨fun h1 => ?_, fun h1 => ?_⟩
  · have h1 : w2.buf.length = w1.buf.length + 2 := by have h : (w2.buf.length : Int) = (w1.buf.length : Int) + 2 := by simpa using h1
                                                      omega
    rw [if_pos h1]
    conv => whnf
    rw [w64_in ((w3.buf.length : Int) - (w2.buf.length : Int)) (by omega)]
    refine .one (.data _ (r3set_ok w3 gf.1 (w1.buf.length : Int) (IntKind.u16.wrap ((w3.buf.length : Int) - w2.buf.length)) (by have := u16_in ((w3.buf.length : Int) - w2.buf.length); omega) (by omega)) rfl rfl ?_)
    conv => whnf
    repeat' (first | exact True.intro | exact rfl | exact ⟨rfl, rfl, .inr rfl, fun _ _ => rfl⟩ | exact ⟨rfl, rfl, .inl rfl, fun i hi => absurd hi (Nat.not_lt_zero _)⟩ | refine And.intro ?_ ?_)
  · have h1 : ¬ w2.buf.length = w1.buf.length + 2 := by have h : ¬ (w2.buf.length : Int) = (w1.buf.length : Int) + 2 := by simpa using h1
                                                        omega
    rw [if_neg h1]
    conv => whnf
    repeat' (first | exact True.intro | exact rfl | exact ⟨rfl, rfl, .inr rfl, fun _ _ => rfl⟩ | exact ⟨rfl, rfl, .inl rfl, fun i hi => absurd hi (Nat.not_lt_zero _)⟩ | refine And.intro ?_ ?_)
end Go.Proofs.Ytdphkaiijlekhaa
namespace Go.Proofs.Ytdphkaiijlekhaa
open Go Go.Eng
theorem good0 (limit : Int) (h : -9223372036854775808 ≤ limit) : (Wr.mk [] (lm limit) false []).Good := ⟨⟨by show _ ≤ lm limit; unfold lm; split <;> omega, by show lm limit ≤ _; unfold lm; split <;> omega, .inl rfl, fun e he => by cases he⟩, Nat.le_refl _⟩
theorem Wr.Good.asks : ∀ (l : List Q) {w : Wr}, w.Good → (w.asks l).Good
  | [], _, h => h
  | q :: l, _, h => Wr.Good.asks l (((h.name q.nm true).num 2 q.ty).num 2 q.cl)
set_option maxRecDepth 100000
theorem r3out_ok (w : Wr) : FnOk Try.prog 86 [.agg w.V] (.tup [.d (.str (if w.full then ([], (7 : Int)) else (w.buf, 0)).1), .d (.int .i64 (if w.full then (([] : List UInt8), (7 : Int)) else (w.buf, 0)).2)]) := by
  obtain ⟨buf, limit, full, rests⟩ := w
  refine fnOk_of_run (TT := TT) (IN := lookI []) TT_ok INok_nil mixed 1000 Try.func86 rfl (enters Try.func86 (by kernel_rfl) rfl) rfl 7 (by kernel_rfl) ?_
  cases full
  · conv => whnf
    repeat (first | (refine brF rfl ?_; conv => whnf) | (refine brT rfl ?_; conv => whnf))
    repeat' (first | exact True.intro | exact rfl | exact ⟨rfl, rfl, .inr rfl, fun _ _ => rfl⟩ | exact ⟨rfl, rfl, .inl rfl, fun i hi => absurd hi (Nat.not_lt_zero _)⟩ | refine And.intro ?_ ?_)
  · conv => whnf
    repeat (first | (refine brF rfl ?_; conv => whnf) | (refine brT rfl ?_; conv => whnf))
    repeat' (first | exact True.intro | exact rfl | exact ⟨rfl, rfl, .inr rfl, fun _ _ => rfl⟩ | exact ⟨rfl, rfl, .inl rfl, fun i hi => absurd hi (Nat.not_lt_zero _)⟩ | refine And.intro ?_ ?_)
set_option maxHeartbeats 16000000 in
theorem r6write_ok (m : Msg) (hm : m.Ok) (hsays : ∀ r ∈ m.says, r.d.length ≤ 100000) (hheads : ∀ r ∈ m.heads, r.d.length ≤ 100000) (hextra : ∀ r ∈ m.extra, r.d.length ≤ 100000) (limit : Int) (hlim : -9223372036854775808 ≤ limit ∧ limit ≤ 9223372036854775807) : FnOk Try.prog 36 [.agg m.cells, .d (.int .i64 limit)] (.tup [.d (.str (m.write limit).1), .d (.int .i64 (m.write limit).2)]) := by
  rw [← writeR_eq]
  refine fnOk_of_run (TT := TT) (IN := lookI []) TT_ok INok_nil mixed 1000 Try.func36 rfl (enters Try.func36 (by kernel_rfl) rfl) rfl 96 (by kernel_rfl) ?_
  have hid := hm.id
  have hbits := hm.bits
  have hu : ∀ x : Int, 0 ≤ x ∧ x < 18446744073709551616 → IntKind.u64.wrap x = x := fun x hx => by rw [IntKind.wrap_u64]; omega
  conv => whnf
  refine .one (.data _ (r6check_ok m hsays hheads hextra) rfl rfl ?_)
  cases hc : m.check
  · have e : m.writeR limit = ([], 2) := by unfold Msg.writeR; rw [hc]; rfl
    rw [e]
    conv => whnf
    refine brT rfl ?_
    conv => whnf
    repeat' (first | exact True.intro | exact rfl | exact ⟨rfl, rfl, .inr rfl, fun _ _ => rfl⟩ | exact ⟨rfl, rfl, .inl rfl, fun i hi => absurd hi (Nat.not_lt_zero _)⟩ | refine And.intro ?_ ?_)
  have hcs := hc
  simp only [Msg.check, Bool.and_eq_true, decide_eq_true_eq] at hcs
  obtain ⟨⟨⟨⟨⟨⟨⟨l1, l2⟩, l3⟩, l4⟩, k1⟩, k2⟩, k3⟩, k4⟩ := hcs
  have hwr : m.writeR limit = if (m.lastR limit).full then ([], 7) else ((m.lastR limit).buf, 0) := by unfold Msg.writeR; rw [hc]; rfl
  have hlast : m.lastR limit = ((((((Wr.mk [] (lm limit) false []).head m).asks m.asks).recsR m.says).recsR m.heads).recsR m.extra) := rfl
  have g0 := good0 limit hlim.1
  rw [hwr]
  conv => whnf
  refine brF rfl ?_
  conv => whnf
  have c1 := (r3num_ok (Wr.mk [] (lm limit) false []) g0.1 2 (.inl rfl) m.id (by omega)).convA (args' := [.agg [.d (.str []), .d (.int .i64 (lm limit)), .d .ff, nilS], .d (.int .i64 2), .d (.int .u64 m.id)]) ⟨AEq.aggL ⟨.refl _, .refl _, .d .fb, .none _ _ _ _ _, True.intro⟩, .refl _, .refl _, True.intro⟩
  generalize Wr.mk [] (lm limit) false [] = w at g0 hlast c1
  rw [hu m.id (by omega)]
  refine .data _ c1 rfl rfl ?_
  have g0 := g0.num 2 m.id
  conv => whnf
  rw [hu m.bits (by omega)]
  refine .data _ (r3num_ok (w.num 2 m.id) g0.1 2 (.inl rfl) m.bits (by omega)) rfl rfl ?_
  have g0 := g0.num 2 m.bits
  conv => whnf
  rw [hu (m.asks.length : Int) (by omega)]
  refine .data _ (r3num_ok ((w.num 2 m.id).num 2 m.bits) g0.1 2 (.inl rfl) (m.asks.length : Int) (by omega)) rfl rfl ?_
  have g0 := g0.num 2 (m.asks.length : Int)
  conv => whnf
  rw [hu (m.says.length : Int) (by omega)]
  refine .data _ (r3num_ok (((w.num 2 m.id).num 2 m.bits).num 2 (m.asks.length : Int)) g0.1 2 (.inl rfl) (m.says.length : Int) (by omega)) rfl rfl ?_
  have g0 := g0.num 2 (m.says.length : Int)
  conv => whnf
  rw [hu (m.heads.length : Int) (by omega)]
  refine .data _ (r3num_ok ((((w.num 2 m.id).num 2 m.bits).num 2 (m.asks.length : Int)).num 2 (m.says.length : Int)) g0.1 2 (.inl rfl) (m.heads.length : Int) (by omega)) rfl rfl ?_
  have g0 := g0.num 2 (m.heads.length : Int)
  conv => whnf
  rw [hu (m.extra.length : Int) (by omega)]
  refine .data _ (r3num_ok (((((w.num 2 m.id).num 2 m.bits).num 2 (m.asks.length : Int)).num 2 (m.says.length : Int)).num 2 (m.heads.length : Int)) g0.1 2 (.inl rfl) (m.extra.length : Int) (by omega)) rfl rfl ?_
  have g0 := g0.num 2 (m.extra.length : Int)
  conv => whnf
  have hhead : w.head m = (((((w.num 2 m.id).num 2 m.bits).num 2 (m.asks.length : Int)).num 2 (m.says.length : Int)).num 2 (m.heads.length : Int)).num 2 (m.extra.length : Int) := rfl
  rw [hhead] at hlast
  generalize (((((w.num 2 m.id).num 2 m.bits).num 2 (m.asks.length : Int)).num 2 (m.says.length : Int)).num 2 (m.heads.length : Int)).num 2 (m.extra.length : Int) = w1 at g0 hlast ⊢
  clear hhead c1
  refine .inv MwSt (fun s => s.w.Good ∧ s.i ≤ m.asks.length ∧ s.w.asks (m.asks.drop s.i) = w1.asks m.asks) (fun s => [(51, .d (.int .i64 s.i))]) (fun s => [(1, .cells 149 s.w.V)]) (fun s => m.asks.length - s.i) ⟨⟨w1, 0⟩, [0, 1], ⟨g0, Nat.zero_le _, rfl⟩, ?_⟩ ?_
  · conv => whnf
    repeat' (first | exact True.intro | exact rfl | exact fun _ => Iff.rfl | exact fun _ _ => rfl | exact renM_ent rfl _ | refine And.intro ?_ ?_)
  clear g0
  intro s hs
  obtain ⟨hok, hi, hrest⟩ := hs
  conv => whnf
  generalize s.w = wc at hok hrest ⊢
  generalize s.i = i at hi hrest ⊢
  refine ⟨fun c5 => ?_, fun c5 => ?_⟩
  · have c5' : i < m.asks.length := (by have h : (i : Int) < m.asks.length := of_decide_eq_true c5; omega)
    obtain ⟨q, hq⟩ : ∃ q, m.asks.getD i default = q := ⟨_, rfl⟩
    have hq2 : m.asks[i]? = some q := by rw [← hq, List.getD, List.getElem?_eq_getElem c5']; rfl
    have hqo : q.Ok := hm.asks q (List.mem_of_getElem? hq2)
    have hqt := hqo.ty
    have hqc := hqo.cl
    have hdr : m.asks.drop i = q :: m.asks.drop (i + 1) := by
      rw [List.drop_eq_getElem_cons c5']
      congr 1
      rw [List.getElem?_eq_getElem c5'] at hq2
      exact Option.some.inj hq2
    have hw1 : IntKind.i64.wrap ((i : Int) + 1) = ((i + 1 : Nat) : Int) := by rw [w64_in _ (by omega)]; omega
    conv => whnf
    refine ⟨by omega, ?_⟩
    conv => whnf
    rw [Int.toNat_natCast, hq]
    refine .data _ (r3Name_ok wc hok q.nm) rfl rfl ?_
    have hoa := hok.name q.nm true
    conv => whnf
    rw [hu q.ty (by omega)]
    refine .data _ (r3num_ok _ hoa.1 2 (.inl rfl) q.ty (by omega)) rfl rfl ?_
    have hob := hoa.num 2 q.ty
    conv => whnf
    rw [hu q.cl (by omega)]
    refine .data _ (r3num_ok _ hob.1 2 (.inl rfl) q.cl (by omega)) rfl rfl ?_
    have hoc := hob.num 2 q.cl
    conv => whnf
    refine ⟨⟨_, i + 1⟩, [0, 1], ⟨hoc, c5', ?_⟩, by show m.asks.length - (i + 1) < m.asks.length - i; omega, ?_⟩
    · rw [← hrest, hdr]
      rfl
    conv => whnf
    rw [hw1]
    repeat' (first | exact True.intro | exact rfl | exact fun _ => Iff.rfl | exact fun _ _ => rfl | exact renM_ent rfl _ | refine And.intro ?_ ?_)
  have hia : i = m.asks.length := (by have h : ¬ (i : Int) < m.asks.length := of_decide_eq_false c5; omega)
  rw [hia, List.drop_of_length_le (Nat.le_refl _)] at hrest
  rw [← hrest] at hlast
  have hlast : m.lastR limit = ((wc.recsR m.says).recsR m.heads).recsR m.extra := hlast
  clear hrest hi c5
  conv => whnf
  refine .once ?_
  conv => whnf
  refine brT rfl ?_
  conv => whnf
  refine ⟨by decide, ?_⟩
  conv => whnf
  refine .inv MwSt (fun s => s.w.Good ∧ s.i ≤ m.says.length ∧ s.w.recsR (m.says.drop s.i) = wc.recsR m.says) (fun s => [(82, .d (.int .i64 s.i))]) (fun s => [(1, .cells 149 s.w.V)]) (fun s => m.says.length - s.i) ⟨⟨wc, 0⟩, [0, 1, 2], ⟨hok, Nat.zero_le _, rfl⟩, ?_⟩ ?_
  · conv => whnf
    repeat' (first | exact True.intro | exact rfl | exact fun _ => Iff.rfl | exact fun _ _ => rfl | exact renM_ent rfl _ | refine And.intro ?_ ?_)
  clear hok
  intro s hs
  obtain ⟨hok, hi, hrest⟩ := hs
  conv => whnf
  generalize s.w = wd at hok hrest ⊢
  generalize s.i = i at hi hrest ⊢
  refine ⟨fun c5 => ?_, fun c5 => ?_⟩
  · have c5' : i < m.says.length := (by have h : (i : Int) < m.says.length := of_decide_eq_true c5; omega)
    obtain ⟨q, hq⟩ : ∃ q, m.says.getD i default = q := ⟨_, rfl⟩
    have hq2 : m.says[i]? = some q := by rw [← hq, List.getD, List.getElem?_eq_getElem c5']; rfl
    have hqo : q.Ok := hm.says q (List.mem_of_getElem? hq2)
    have hqd := hsays q (List.mem_of_getElem? hq2)
    have hdr : m.says.drop i = q :: m.says.drop (i + 1) := by
      rw [List.drop_eq_getElem_cons c5']
      congr 1
      rw [List.getElem?_eq_getElem c5'] at hq2
      exact Option.some.inj hq2
    have hw1 : IntKind.i64.wrap ((i : Int) + 1) = ((i + 1 : Nat) : Int) := by rw [w64_in _ (by omega)]; omega
    conv => whnf
    refine ⟨by omega, ?_⟩
    conv => whnf
    rw [Int.toNat_natCast, hq]
    refine .one (.data _ (r5write_ok wd hok q hqo hqd) rfl rfl ?_)
    conv => whnf
    refine ⟨⟨wd.recR q, i + 1⟩, [0, 1, 2], ⟨hok.recR q, c5', ?_⟩, by show m.says.length - (i + 1) < m.says.length - i; omega, ?_⟩
    · rw [← hrest, hdr]
      rfl
    conv => whnf
    rw [hw1]
    repeat' (first | exact True.intro | exact rfl | exact fun _ => Iff.rfl | exact fun _ _ => rfl | exact renM_ent rfl _ | refine And.intro ?_ ?_)
  have hia : i = m.says.length := (by have h : ¬ (i : Int) < m.says.length := of_decide_eq_false c5; omega)
  rw [hia, List.drop_of_length_le (Nat.le_refl _)] at hrest
  rw [← hrest] at hlast
  have hlast : m.lastR limit = (wd.recsR m.heads).recsR m.extra := hlast
  clear hrest hi c5
  conv => whnf
  refine .once ?_
  conv => whnf
  refine brT rfl ?_
  conv => whnf
  refine ⟨by decide, ?_⟩
  conv => whnf
  refine .inv MwSt (fun s => s.w.Good ∧ s.i ≤ m.heads.length ∧ s.w.recsR (m.heads.drop s.i) = wd.recsR m.heads) (fun s => [(82, .d (.int .i64 s.i))]) (fun s => [(1, .cells 149 s.w.V)]) (fun s => m.heads.length - s.i) ⟨⟨wd, 0⟩, [0, 1, 2], ⟨hok, Nat.zero_le _, rfl⟩, ?_⟩ ?_
  · conv => whnf
    repeat' (first | exact True.intro | exact rfl | exact fun _ => Iff.rfl | exact fun _ _ => rfl | exact renM_ent rfl _ | refine And.intro ?_ ?_)
  clear hok
  intro s hs
  obtain ⟨hok, hi, hrest⟩ := hs
  conv => whnf
  generalize s.w = we at hok hrest ⊢
  generalize s.i = i at hi hrest ⊢
  refine ⟨fun c5 => ?_, fun c5 => ?_⟩
  · have c5' : i < m.heads.length := (by have h : (i : Int) < m.heads.length := of_decide_eq_true c5; omega)
    obtain ⟨q, hq⟩ : ∃ q, m.heads.getD i default = q := ⟨_, rfl⟩
    have hq2 : m.heads[i]? = some q := by rw [← hq, List.getD, List.getElem?_eq_getElem c5']; rfl
    have hqo : q.Ok := hm.heads q (List.mem_of_getElem? hq2)
    have hqd := hheads q (List.mem_of_getElem? hq2)
    have hdr : m.heads.drop i = q :: m.heads.drop (i + 1) := by
      rw [List.drop_eq_getElem_cons c5']
      congr 1
      rw [List.getElem?_eq_getElem c5'] at hq2
      exact Option.some.inj hq2
    have hw1 : IntKind.i64.wrap ((i : Int) + 1) = ((i + 1 : Nat) : Int) := by rw [w64_in _ (by omega)]; omega
    conv => whnf
    refine ⟨by omega, ?_⟩
    conv => whnf
    rw [Int.toNat_natCast, hq]
    refine .one (.data _ (r5write_ok we hok q hqo hqd) rfl rfl ?_)
    conv => whnf
    refine ⟨⟨we.recR q, i + 1⟩, [0, 1, 2], ⟨hok.recR q, c5', ?_⟩, by show m.heads.length - (i + 1) < m.heads.length - i; omega, ?_⟩
    · rw [← hrest, hdr]
      rfl
    conv => whnf
    rw [hw1]
    repeat' (first | exact True.intro | exact rfl | exact fun _ => Iff.rfl | exact fun _ _ => rfl | exact renM_ent rfl _ | refine And.intro ?_ ?_)
  have hia : i = m.heads.length := (by have h : ¬ (i : Int) < m.heads.length := of_decide_eq_false c5; omega)
  rw [hia, List.drop_of_length_le (Nat.le_refl _)] at hrest
  rw [← hrest] at hlast
  have hlast : m.lastR limit = we.recsR m.extra := hlast
  clear hrest hi c5
  conv => whnf
  refine .once ?_
  conv => whnf
  refine brT rfl ?_
  conv => whnf
  refine ⟨by decide, ?_⟩
  conv => whnf
  refine .inv MwSt (fun s => s.w.Good ∧ s.i ≤ m.extra.length ∧ s.w.recsR (m.extra.drop s.i) = we.recsR m.extra) (fun s => [(82, .d (.int .i64 s.i))]) (fun s => [(1, .cells 149 s.w.V)]) (fun s => m.extra.length - s.i) ⟨⟨we, 0⟩, [0, 1, 2], ⟨hok, Nat.zero_le _, rfl⟩, ?_⟩ ?_
  · conv => whnf
    repeat' (first | exact True.intro | exact rfl | exact fun _ => Iff.rfl | exact fun _ _ => rfl | exact renM_ent rfl _ | refine And.intro ?_ ?_)
  clear hok
  intro s hs
  obtain ⟨hok, hi, hrest⟩ := hs
  conv => whnf
  generalize s.w = wf at hok hrest ⊢
  generalize s.i = i at hi hrest ⊢
  refine ⟨fun c5 => ?_, fun c5 => ?_⟩
  · have c5' : i < m.extra.length := (by have h : (i : Int) < m.extra.length := of_decide_eq_true c5; omega)
    obtain ⟨q, hq⟩ : ∃ q, m.extra.getD i default = q := ⟨_, rfl⟩
    have hq2 : m.extra[i]? = some q := by rw [← hq, List.getD, List.getElem?_eq_getElem c5']; rfl
    have hqo : q.Ok := hm.extra q (List.mem_of_getElem? hq2)
    have hqd := hextra q (List.mem_of_getElem? hq2)
    have hdr : m.extra.drop i = q :: m.extra.drop (i + 1) := by
      rw [List.drop_eq_getElem_cons c5']
      congr 1
      rw [List.getElem?_eq_getElem c5'] at hq2
      exact Option.some.inj hq2
    have hw1 : IntKind.i64.wrap ((i : Int) + 1) = ((i + 1 : Nat) : Int) := by rw [w64_in _ (by omega)]; omega
    conv => whnf
    refine ⟨by omega, ?_⟩
    conv => whnf
    rw [Int.toNat_natCast, hq]
    refine .one (.data _ (r5write_ok wf hok q hqo hqd) rfl rfl ?_)
    conv => whnf
    refine ⟨⟨wf.recR q, i + 1⟩, [0, 1, 2], ⟨hok.recR q, c5', ?_⟩, by show m.extra.length - (i + 1) < m.extra.length - i; omega, ?_⟩
    · rw [← hrest, hdr]
      rfl
    conv => whnf
    rw [hw1]
    repeat' (first | exact True.intro | exact rfl | exact fun _ => Iff.rfl | exact fun _ _ => rfl | exact renM_ent rfl _ | refine And.intro ?_ ?_)
  have hia : i = m.extra.length := (by have h : ¬ (i : Int) < m.extra.length := of_decide_eq_false c5; omega)
  rw [hia, List.drop_of_length_le (Nat.le_refl _)] at hrest
  rw [← hrest] at hlast
  have hlast : m.lastR limit = wf := hlast
  clear hrest hi c5
  conv => whnf
  refine .once ?_
  conv => whnf
  refine brF rfl ?_
  rw [hlast]
  conv => whnf
  refine .one (.data _ (r3out_ok wf) rfl rfl ?_)
  conv => whnf
  repeat' (first | exact True.intro | exact rfl | exact ⟨rfl, rfl, .inr rfl, fun _ _ => rfl⟩ | exact ⟨rfl, rfl, .inl rfl, fun i hi => absurd hi (Nat.not_lt_zero _)⟩ | refine And.intro ?_ ?_)
set_option maxHeartbeats 8000000 in
theorem r6fit_ok (m : Msg) (hm : m.Ok) (hsays : ∀ r ∈ m.says, r.d.length ≤ 100000) (hheads : ∀ r ∈ m.heads, r.d.length ≤ 100000) (hextra : ∀ r ∈ m.extra, r.d.length ≤ 100000) (limit : Int) (hlim : -9223372036854775808 ≤ limit ∧ limit ≤ 9223372036854775807) (he : m.extra.length ≤ 1000000) : FnOk Try.prog 38 [.agg m.cells, .d (.int .i64 limit)] (.tup [.d (.str (m.fit limit).1), .d (.int .i64 (m.fit limit).2)]) := by
  refine fnOk_of_run (TT := TT) (IN := lookI []) TT_ok INok_nil mixed 1000 Try.func38 rfl (enters Try.func38 (by kernel_rfl) rfl) rfl 47 (by kernel_rfl) ?_
  conv => whnf
  refine .one (.data _ (r6write_ok m hm hsays hheads hextra limit hlim) rfl rfl ?_)
  conv => whnf
  refine ⟨fun h1 => ?_, fun h1 => ?_⟩
  · have h1 : (m.write limit).2 ≠ 7 := by simpa using h1
    have e : m.fit limit = m.write limit := by unfold Msg.fit; rw [if_neg h1]
    rw [e]
    conv => whnf
    exact ⟨rfl, rfl, True.intro⟩
  have h1 : (m.write limit).2 = 7 := by simpa using h1
  have e : m.fit limit = m.less.write limit := by unfold Msg.fit; rw [if_pos h1]
  rw [e]
  conv => whnf
  refine .nilT 8 60 5 (fun _ => []) _ _ rfl ?_
  refine .inv FtSt (fun s => s.i ≤ m.extra.length) (fun s => [(24, .d (.int .i64 s.i)), (8, .all 1)]) (fun s => [(1, .row 60 5 (opts (m.extra.take s.i)).length .iff (fun j => ((opts (m.extra.take s.i)).getD j default).enc))]) (fun s => m.extra.length - s.i) ⟨⟨0⟩, [0, 1], Nat.zero_le _, ?_⟩ ?_
  · conv => whnf
    repeat' (first | exact True.intro | exact rfl | (intro i hi; exact absurd hi (Nat.not_lt_zero _)) | exact fun _ _ => rfl | refine And.intro ?_ ?_)
  intro s hs
  conv => whnf
  generalize s.i = i at hs ⊢
  refine ⟨fun c5 => ?_, fun c5 => ?_⟩
  · have c5' : i < m.extra.length := (by have h : (i : Int) < m.extra.length := of_decide_eq_true c5; omega)
    conv => whnf
    refine ⟨by omega, ?_⟩
    obtain ⟨q, hq⟩ : ∃ q, m.extra.getD i default = q := ⟨_, rfl⟩
    have htk : m.extra.take (i + 1) = m.extra.take i ++ [q] := by
      rw [List.take_add_one, List.getElem?_eq_getElem c5', ← hq, List.getD, List.getElem?_eq_getElem c5']
      rfl
    have hw : IntKind.i64.wrap ((i : Int) + 1) = ((i + 1 : Nat) : Int) := by rw [w64_in _ (by omega)]; omega
    have hol : (opts (m.extra.take i)).length ≤ i := Nat.le_trans (List.length_filter_le _ _) (by rw [List.length_take]; omega)
    conv => whnf
    rw [Int.toNat_natCast, hq]
    refine ⟨fun h2 => ?_, fun h2 => ?_⟩
    · have h2 : (q.ty == 41) = true := h2
      have ho : opts (m.extra.take (i + 1)) = opts (m.extra.take i) ++ [q] := by
        rw [htk]
        unfold opts
        rw [List.filter_append, List.filter_cons, if_pos h2]
        rfl
      conv => whnf
      refine ⟨by omega, ?_⟩
      conv => whnf
      refine ⟨⟨i + 1⟩, [0, 4], c5', by show m.extra.length - (i + 1) < m.extra.length - i; omega, ?_⟩
      conv => whnf
      rw [hw]
      repeat' (first | exact True.intro | exact rfl | refine And.intro ?_ ?_)
      all_goals try exact fun _ _ => rfl
      · rw [ho, List.length_append]
        rfl
      all_goals try exact fun _ _ => rfl
      · intro j hj
        show catF _ _ _ j = ((opts (m.extra.take (i + 1))).getD j default).enc
        rw [ho]
        exact rr_cat _ q j hj
    · have h2 : (q.ty == 41) = false := h2
      have ho : opts (m.extra.take (i + 1)) = opts (m.extra.take i) := by
        rw [htk]
        unfold opts
        rw [List.filter_append, List.filter_cons, if_neg (by rw [h2]; simp)]
        exact List.append_nil _
      conv => whnf
      refine ⟨⟨i + 1⟩, [0, 1], c5', by show m.extra.length - (i + 1) < m.extra.length - i; omega, ?_⟩
      conv => whnf
      rw [hw]
      repeat' (first | exact True.intro | exact rfl | refine And.intro ?_ ?_)
      · show (opts (m.extra.take i)).length = (opts (m.extra.take (i + 1))).length
        rw [ho]
      all_goals try exact fun _ _ => rfl
      · intro j hj
        show ((opts (m.extra.take i)).getD j default).enc = ((opts (m.extra.take (i + 1))).getD j default).enc
        rw [ho]
  have hie : i = m.extra.length := (by have h : ¬ (i : Int) < m.extra.length := of_decide_eq_false c5; omega)
  rw [hie, List.take_of_length_le (Nat.le_refl _)]
  conv => whnf
  refine .one (.look (.tup [.d (.str (m.less.write limit).1), .d (.int .i64 (m.less.write limit).2)]) ?_ rfl ?_)
  · conv => whnf
    refine ⟨(r6write_ok m.less (less_Ok hm) (fun r hr => absurd hr (by show r ∉ []; simp)) (fun r hr => absurd hr (by show r ∉ []; simp)) (fun r hr => hextra r (List.mem_filter.1 hr).1) limit hlim).convA ⟨AEq.aggL ⟨.refl _, .refl _, .refl _, .none _ _ _ _ _, .none _ _ _ _ _, .refl _, True.intro⟩, .refl _, True.intro⟩, rfl⟩
  conv => whnf
  exact ⟨rfl, rfl, True.intro⟩
def Msg.replyR (m : Msg) (code : Int) : Msg := { m.reply code with za := false }
set_option maxHeartbeats 4000000 in
theorem r6reply_ok (m : Msg) (code : Int) (ha : m.asks.length ≤ 1000000) : FnOk Try.prog 45 [.agg m.cells, .d (.int .i64 code)] (.agg (m.replyR code).cells) := by
  have e : (m.replyR code).bits = Go.bits BinOp.or IntKind.u16 (Go.bits BinOp.or IntKind.u16 (Go.bits BinOp.and IntKind.u16 m.bits 30976) 32768) (IntKind.u16.wrap (Go.bits BinOp.and IntKind.i64 code 15)) := (or_order _ _).symm
  have ec : (m.replyR code).cells = [.d (.int .u16 m.id), .d (.int .u16 (m.replyR code).bits), .d (qsD false m.asks), .d (rrsD true []), .d (rrsD true []), .d (rrsD true [])] := rfl
  rw [ec, e]
  refine fnOk_of_run (TT := TT) (IN := lookI []) TT_ok INok_nil mixed 1000 Try.func45 rfl (enters Try.func45 (by kernel_rfl) rfl) rfl 18 (by kernel_rfl) ?_
  conv => whnf
  refine ⟨by omega, ?_⟩
  conv => whnf
  repeat' (first | exact True.intro | exact rfl | exact ⟨rfl, rfl, .inr rfl, fun _ _ => rfl⟩ | exact ⟨rfl, rfl, .inl rfl, fun i hi => absurd hi (Nat.not_lt_zero _)⟩ | refine And.intro ?_ ?_)
end Go.Proofs.Ytdphkaiijlekhaa
