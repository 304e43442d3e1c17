/-
  rdata: what the functions of package rdata compute: the name with which bytes begin, texts, parts of data by their type, Check. No conditions but lengths where they are named.
-/
import Derived.Test.YtdphkaiijlekhaaFold
namespace Go.Proofs.Ytdphkaiijlekhaa
open Go Go.Eng
/-- How many bytes the name has with which s begins from k on; 0: there is none. -/
def firstF (s : List UInt8) : Nat → Nat → Nat
  | 0, _ => 0
  | m + 1, k => if k < s.length ∧ k < 255 then (if bt s k = 0 then (if isName (s.take (k + 1)) then k + 1 else 0) else firstF s m (k + 1 + bt s k)) else 0
def firstN (s : List UInt8) : Nat := firstF s 256 0
def FAt (s : List UInt8) (k : Nat) : Prop := k ≤ 510 ∧ ∃ m, 256 ≤ k + m ∧ firstF s m k = firstN s
theorem FAt.zero (s : List UInt8) : FAt s 0 := ⟨by omega, 256, by omega, rfl⟩
theorem FAt.step {s : List UInt8} {k : Nat} (h : FAt s k) (h1 : k < s.length) (h2 : k < 255) : (firstN s = if bt s k = 0 then (if isName (s.take (k + 1)) then k + 1 else 0) else firstN s) ∧ (bt s k ≠ 0 → FAt s (k + 1 + bt s k)) := by
  obtain ⟨hk, m, hm, e⟩ := h
  cases m with
  | zero => omega
  | succ m =>
    simp only [firstF, h1, h2, and_self, if_true] at e
    have := bt_lt s k
    refine ⟨?_, fun hb => ⟨by omega, m, by omega, ?_⟩⟩
    · split
      · rename_i hb; rw [if_pos hb] at e; exact e.symm
      · rfl
    · rw [if_neg hb] at e; exact e
theorem FAt.last {s : List UInt8} {k : Nat} (h : FAt s k) (h1 : ¬ (k < s.length ∧ k < 255)) : firstN s = 0 := by
  obtain ⟨hk, m, hm, e⟩ := h
  rw [← e]
  cases m with
  | zero => rfl
  | succ m => simp only [firstF, if_neg h1]
theorem brT {b : Bool} {p q : Prop} (h : b = true) (hp : p) : (b = true → p) ∧ (b = false → q) := ⟨fun _ => hp, fun e => (by rw [h] at e; cases e)⟩
theorem brF {b : Bool} {p q : Prop} (h : b = false) (hq : q) : (b = true → p) ∧ (b = false → q) := ⟨fun e => (by rw [h] at e; cases e), fun _ => hq⟩
set_option maxRecDepth 100000
set_option maxHeartbeats 2000000 in
theorem first_ok (s : List UInt8) : FnOk Try.prog 160 [.d (.str s)] (.d (.int .i64 (firstN s))) := by
  refine fnOk_of_run (TT := TT) (IN := lookI []) TT_ok INok_nil mixed 1000 Try.func160 rfl (enters Try.func160 (by kernel_rfl) rfl) rfl 30 (by kernel_rfl) ?_
  conv => whnf
  refine .inv Nat (fun k => FAt s k) (fun k => [(3, .d (.int .i64 k))]) (fun k => []) (fun k => 600 - k) ⟨0, [], FAt.zero s, ?_⟩ ?_
  · conv => whnf
    repeat' (first | exact True.intro | exact rfl | refine And.intro ?_ ?_)
  intro k hk
  have hk1 := hk.1
  have hby := bt_lt s k
  conv => whnf
  refine ⟨fun hlt => ?_, fun hge => ?_⟩
  · conv => whnf
    refine ⟨fun hlt2 => ?_, fun hge2 => ?_⟩
    · have h1 : k < s.length := by simpa using hlt
      have h2 : k < 255 := by simp at hlt2; omega
      obtain ⟨e1, e2⟩ := hk.step h1 h2
      conv => whnf
      refine ⟨by simp; omega, ?_⟩
      conv => whnf
      rw [bt_eq]
      refine ⟨fun hb => ?_, fun hb => ?_⟩
      · have hb' : bt s k ≠ 0 := by simpa using hb
        conv => whnf
        refine ⟨by simp; omega, ?_⟩
        conv => whnf
        refine ⟨k + 1 + bt s k, [], e2 hb', by show 600 - (k + 1 + bt s k) < 600 - k; omega, ?_⟩
        have hnx : IntKind.i64.wrap ((k : Int) + IntKind.i64.wrap (1 + IntKind.i64.wrap (byteAt s (k : Int)))) = ((k + 1 + bt s k : Nat) : Int) := by simp (disch := omega) only [bt_eq, w64_in]; omega
        conv => whnf
        repeat' (first | exact True.intro | exact rfl | refine And.intro ?_ ?_)
        all_goals exact congrArg SV.d (congrArg (DV.int _) hnx)
      · have hb' : bt s k = 0 := by simpa using hb
        rw [if_pos hb'] at e1
        have hw : IntKind.i64.wrap ((k : Int) + 1) = ((k + 1 : Nat) : Int) := by rw [w64_in _ (by omega)]; omega
        conv => whnf
        rw [hw]
        refine ⟨by omega, ?_⟩
        conv => whnf
        refine .one (.data _ (check_ok _) rfl rfl ?_)
        have hsub : sub s 0 ((k + 1 : Nat) : Int) = s.take (k + 1) := by simp [sub]
        rw [hsub]
        by_cases hn : isName (s.take (k + 1))
        · rw [if_pos hn] at e1 ⊢
          conv => whnf
          refine brF (by decide) ?_
          conv => whnf
          refine congrArg (DV.int _) ?_
          rw [e1, hw]
        · rw [if_neg hn] at e1 ⊢
          conv => whnf
          refine brT (by decide) ?_
          conv => whnf
          exact congrArg (DV.int _) (by rw [e1]; rfl)
    · conv => whnf
      exact congrArg (DV.int _) (by rw [hk.last (by simp at hge2; omega)]; rfl)
  · conv => whnf
    exact congrArg (DV.int _) (by rw [hk.last (by simp at hge; omega)]; rfl)
/-- The texts of which data are made. -/
def textsF : Nat → List UInt8 → Option (List (List UInt8))
  | _, [] => some []
  | 0, _ :: _ => none
  | m + 1, a :: r => if a.toNat ≤ r.length then (textsF m (r.drop a.toNat)).map (r.take a.toNat :: ·) else none
def textsOf (s : List UInt8) : Option (List (List UInt8)) := textsF s.length s
def textsOk (s : List UInt8) : Bool := match textsOf s with
  | some l => decide (0 < l.length)
  | none => false
/-- A row of texts. -/
def strs (l : List (List UInt8)) (i : Nat) : List DV := [.str (l[i]?.getD [])]
theorem strs_cat (l : List (List UInt8)) (x : List UInt8) (g : Nat → List DV) (hg : g 0 = [.str x]) : ∀ i, i < l.length + 1 → catF l.length (strs l) g i = strs (l ++ [x]) i := fun i hi => by
  unfold catF strs
  split
  · rename_i h; rw [List.getElem?_append_left h]
  · rename_i h
    have : i = l.length := by omega
    subst this
    simp [hg]
def TAt (s : List UInt8) (k : Nat) (l : List (List UInt8)) : Prop := k ≤ s.length ∧ l.length ≤ k ∧ ∃ m, s.length ≤ k + m ∧ (textsF m (s.drop k)).map (l ++ ·) = textsOf s
theorem TAt.zero (s : List UInt8) : TAt s 0 [] := ⟨Nat.zero_le _, Nat.zero_le _, s.length, by omega, by simp [textsOf]⟩
theorem TAt.step {s : List UInt8} {k : Nat} {l : List (List UInt8)} (h : TAt s k l) (hk : k < s.length) : (s.length < k + 1 + bt s k → textsOf s = none) ∧ (k + 1 + bt s k ≤ s.length → TAt s (k + 1 + bt s k) (l ++ [(s.drop (k + 1)).take (bt s k)])) := by
  obtain ⟨h1, h2, m, h3, h4⟩ := h
  have hd : s.drop k = s[k] :: s.drop (k + 1) := List.drop_eq_getElem_cons hk
  have hb : bt s k = s[k].toNat := by simp [bt, hk]
  cases m with
  | zero => omega
  | succ m =>
    rw [hd] at h4
    simp only [textsF, List.length_drop, ← hb] at h4
    refine ⟨fun hlt => ?_, fun hle => ⟨hle, by simp; omega, m, by omega, ?_⟩⟩
    · rw [if_neg (by omega)] at h4
      simpa using h4.symm
    · rw [if_pos (by omega), List.drop_drop] at h4
      rw [← h4]
      simp [Function.comp_def]
theorem TAt.last {s : List UInt8} {k : Nat} {l : List (List UInt8)} (h : TAt s k l) (hk : k = s.length) : textsOf s = some l := by
  obtain ⟨h1, h2, m, h3, h4⟩ := h
  rw [← h4, hk, List.drop_length]
  cases m <;> simp [textsF]
set_option maxHeartbeats 2000000 in
theorem texts_ok (s : List UInt8) (hs : s.length ≤ 4096) : FnOk Try.prog 121 [.d (.str s)] (.tup [.any, .d (.bool (textsOk s))]) := by
  refine fnOk_of_run (TT := TT) (IN := lookI []) TT_ok INok_nil mixed 1000 Try.func121 rfl (enters Try.func121 (by kernel_rfl) rfl) rfl 28 (by kernel_rfl) ?_
  conv => whnf
  refine .nilT 4 9 1 (fun _ => []) _ _ rfl ?_
  conv => whnf
  refine .inv (Nat × List (List UInt8)) (fun p => TAt s p.1 p.2) (fun p => [(0, .d (.str (s.drop p.1))), (4, .all 0)]) (fun p => [(0, .row 9 1 p.2.length .iff (strs p.2))]) (fun p => s.length - p.1) ⟨(0, []), [0], TAt.zero s, ?_⟩ ?_
  · conv => whnf
    repeat' (first | exact True.intro | exact rfl | refine And.intro ?_ ?_)
    intro i hi
    exact absurd hi (by simp)
  intro p hk
  have hk0 : p.1 ≤ s.length := hk.1
  have hk2 : p.2.length ≤ p.1 := hk.2.1
  have hby := bt_lt s p.1
  have hlen : (s.drop p.1).length = s.length - p.1 := by simp
  conv => whnf
  refine ⟨fun hne => ?_, fun heq => ?_⟩
  · have hlt : p.1 < s.length := by
      rcases Nat.lt_or_ge p.1 s.length with e | e
      · exact e
      · rw [List.drop_eq_nil_of_le e] at hne; simp at hne
    obtain ⟨e1, e2⟩ := TAt.step hk hlt
    have hb0 : byteAt (s.drop p.1) 0 = (bt s p.1 : Int) := by
      rw [show (0 : Int) = ((0 : Nat) : Int) from rfl, bt_eq]
      simp [bt]
    conv => whnf
    refine ⟨by omega, ?_⟩
    have hsz : IntKind.i64.wrap (1 + IntKind.i64.wrap (byteAt (s.drop p.1) 0)) = ((1 + bt s p.1 : Nat) : Int) := by rw [hb0]; simp (disch := omega) only [w64_in]; omega
    conv => whnf
    rw [hsz]
    refine ⟨fun hgt => ?_, fun hle => ?_⟩
    · conv => whnf
      refine ⟨True.intro, ?_, True.intro⟩
      have : textsOk s = false := by unfold textsOk; rw [e1 (by simp at hgt; omega)]
      rw [this]
      exact rfl
    · have hle' : p.1 + 1 + bt s p.1 ≤ s.length := by simp at hle; omega
      conv => whnf
      refine ⟨by omega, ?_⟩
      conv => whnf
      refine ⟨by omega, ?_⟩
      conv => whnf
      refine ⟨by omega, ?_⟩
      conv => whnf
      refine ⟨(p.1 + 1 + bt s p.1, p.2 ++ [(s.drop (p.1 + 1)).take (bt s p.1)]), [2], e2 hle', by show s.length - (p.1 + 1 + bt s p.1) < s.length - p.1; omega, ?_⟩
      conv => whnf
      repeat' (first | exact True.intro | exact rfl | refine And.intro ?_ ?_)
      · refine congrArg SV.d (congrArg DV.str ?_)
        show sub (s.drop p.1) _ _ = s.drop (p.1 + 1 + bt s p.1)
        simp only [sub, Int.toNat_natCast, List.drop_drop]
        rw [List.take_of_length_le (by simp; omega)]
        congr 1
        omega
      · simp
      · refine strs_cat _ _ _ ?_
        show [DV.str _] = [DV.str _]
        congr 2
        simp only [sub, Int.toNat_natCast, List.drop_drop]
        rw [show (1 : Int).toNat = 1 from rfl]
        congr 1
        omega
  · have hke : p.1 = s.length := by
      simp at heq
      omega
    conv => whnf
    refine ⟨True.intro, ?_, True.intro⟩
    have : textsOk s = decide (0 < p.2.length) := by unfold textsOk; rw [TAt.last hk hke]
    rw [this]
    refine congrArg DV.bool ?_
    simp
theorem DEq_refl (x : DV) : DEq x x := by
  cases x <;> simp [DEq]
theorem firstF_le (s : List UInt8) : ∀ m k, firstF s m k ≤ s.length ∧ firstF s m k ≤ 255 := by
  intro m
  induction m with
  | zero => intro k; simp [firstF]
  | succ m ih =>
    intro k
    simp only [firstF]
    split
    · split
      · split
        · omega
        · omega
      · exact ih _
    · omega
theorem firstN_le (s : List UInt8) : firstN s ≤ s.length ∧ firstN s ≤ 255 := firstF_le s _ _
/-- The names with which bytes begin, and what stands behind them. -/
def namesF : Nat → List UInt8 → Option (List (List UInt8) × List UInt8)
  | 0, s => some ([], s)
  | n + 1, s => if firstN s = 0 then none else (namesF n (s.drop (firstN s))).map (fun p => (s.take (firstN s) :: p.1, p.2))
def cutF (a n c : Nat) (s : List UInt8) : Option (List UInt8 × List (List UInt8) × List UInt8) :=
  if s.length < 2 * a then none else (namesF n (s.drop (2 * a))).bind fun p => if p.2.length = 4 * c then some (s.take (2 * a), p.1, p.2) else none
def partsV (x : List UInt8) (l : List (List UInt8)) (r : List UInt8) : SV := .agg [.d (.str x), .d (.sl (Nat.beq l.length 0) l.length 1 (strs l)), .d (.str r)]
def noParts : SV := .agg [.d (.str []), nilS, .d (.str [])]
def cutR : Option (List UInt8 × List (List UInt8) × List UInt8) → SV
  | none => .tup [noParts, .d .ff]
  | some (x, l, r) => .tup [partsV x l r, .d .tt]
/-- Behind i names. -/
structure NAt (n : Nat) (s : List UInt8) (i : Nat) (l : List (List UInt8)) (r : List UInt8) : Prop where
  le : i ≤ n
  len : l.length = i
  short : r.length ≤ s.length
  eq : (namesF (n - i) r).map (fun p => (l ++ p.1, p.2)) = namesF n s
theorem NAt.zero (n : Nat) (s : List UInt8) : NAt n s 0 [] s := ⟨Nat.zero_le _, rfl, Nat.le_refl _, by simp⟩
theorem NAt.step {n : Nat} {s : List UInt8} {i : Nat} {l : List (List UInt8)} {r : List UInt8} (h : NAt n s i l r) (hi : i < n) : (firstN r = 0 → namesF n s = none) ∧ (firstN r ≠ 0 → NAt n s (i + 1) (l ++ [r.take (firstN r)]) (r.drop (firstN r))) := by
  have e := h.eq
  rw [show n - i = (n - (i + 1)) + 1 from by omega] at e
  simp only [namesF] at e
  refine ⟨fun h0 => by rw [if_pos h0] at e; simpa using e.symm, fun h0 => ⟨hi, by simp [h.len], by have := h.short; simp; omega, ?_⟩⟩
  rw [if_neg h0] at e
  rw [← e]
  simp [Function.comp_def]
theorem NAt.last {n : Nat} {s : List UInt8} {l : List (List UInt8)} {r : List UInt8} (h : NAt n s n l r) : namesF n s = some (l, r) := by
  rw [← h.eq]
  simp [namesF]
set_option maxHeartbeats 4000000 in
theorem cut_ok (a n c : Nat) (ha : a ≤ 100) (hn : n ≤ 100) (hc : c ≤ 100) (s : List UInt8) : FnOk Try.prog 123 [.agg [.d (.int .i64 a), .d (.int .i64 n), .d (.int .i64 c)], .d (.str s)] (cutR (cutF a n c s)) := by
  refine fnOk_of_run (TT := TT) (IN := lookI []) TT_ok INok_nil mixed 1000 Try.func123 rfl (enters Try.func123 (by kernel_rfl) rfl) rfl 56 (by kernel_rfl) ?_
  have h2a : IntKind.i64.wrap (2 * (a : Int)) = ((2 * a : Nat) : Int) := by rw [w64_in _ (by omega)]; omega
  have h4c : IntKind.i64.wrap (4 * (c : Int)) = ((4 * c : Nat) : Int) := by rw [w64_in _ (by omega)]; omega
  conv => whnf
  rw [h2a]
  refine ⟨fun hlt => ?_, fun hge => ?_⟩
  · have : cutF a n c s = none := by unfold cutF; rw [if_pos (by simp at hlt; omega)]
    rw [this]
    conv => whnf
    repeat' (first | exact True.intro | exact rfl | exact Or.inl rfl | exact Or.inr rfl | exact fun _ _ => rfl | refine And.intro ?_ ?_)
  · have hge' : 2 * a ≤ s.length := by simp at hge; omega
    conv => whnf
    rw [h2a]
    refine ⟨by omega, ?_⟩
    conv => whnf
    rw [h2a]
    refine ⟨by omega, ?_⟩
    conv => whnf
    refine .nilC 2 1 9 1 (fun _ => []) _ _ _ _ rfl rfl ?_
    conv => whnf
    have hr0 : sub s ((2 * a : Nat) : Int) (s.length : Int) = s.drop (2 * a) := by
      simp only [sub, Int.toNat_natCast]
      rw [List.take_of_length_le (by simp)]
    have hx0 : sub s 0 ((2 * a : Nat) : Int) = s.take (2 * a) := by simp only [sub, Int.toNat_natCast]; simp
    rw [hr0, hx0]
    refine .inv (Nat × List (List UInt8) × List UInt8) (fun p => NAt n (s.drop (2 * a)) p.1 p.2.1 p.2.2) (fun p => [(7, .d (.str p.2.2)), (29, .d (.int .i64 p.1))]) (fun p => [(2, .cells 198 [.d (.str (s.take (2 * a))), .all 3, .d (.str [])]), (3, .row 9 1 p.2.1.length .iff (strs p.2.1))]) (fun p => n - p.1) ⟨(0, [], s.drop (2 * a)), [0, 1, 2, 3], NAt.zero _ _, ?_⟩ ?_
    · conv => whnf
      repeat' (first | exact True.intro | exact rfl | refine And.intro ?_ ?_)
      intro i hi
      omega
    intro p hp
    have hp1 := hp.le
    have hp2 := hp.len
    have hp3 := hp.short
    have hf := firstN_le p.2.2
    simp only [List.length_drop] at hp3
    conv => whnf
    refine ⟨fun hlt => ?_, fun hge => ?_⟩
    · have hi : p.1 < n := by simpa using hlt
      obtain ⟨e1, e2⟩ := hp.step hi
      conv => whnf
      refine .one (.data _ (first_ok _) rfl rfl ?_)
      conv => whnf
      refine ⟨fun h0 => ?_, fun h0 => ?_⟩
      · have h0' : firstN p.2.2 = 0 := by simpa using h0
        have : cutF a n c s = none := by unfold cutF; rw [if_neg (by omega), e1 h0']; rfl
        rw [this]
        conv => whnf
        repeat' (first | exact True.intro | exact rfl | exact Or.inl rfl | exact Or.inr rfl | exact fun _ _ => rfl | refine And.intro ?_ ?_)
      · have h0' : firstN p.2.2 ≠ 0 := by simpa using h0
        conv => whnf
        refine ⟨by omega, ?_⟩
        conv => whnf
        refine ⟨by omega, ?_⟩
        conv => whnf
        refine ⟨by omega, ?_⟩
        conv => whnf
        refine ⟨(p.1 + 1, p.2.1 ++ [p.2.2.take (firstN p.2.2)], p.2.2.drop (firstN p.2.2)), [0, 1, 2, 5], e2 h0', by show n - (p.1 + 1) < n - p.1; omega, ?_⟩
        have hw : IntKind.i64.wrap ((p.1 : Int) + 1) = ((p.1 + 1 : Nat) : Int) := by rw [w64_in _ (by omega)]; omega
        conv => whnf
        repeat' (first | exact True.intro | exact rfl | refine And.intro ?_ ?_)
        · refine congrArg SV.d (congrArg DV.str ?_)
          simp only [sub, Int.toNat_natCast]
          rw [List.take_of_length_le (by simp)]
        · exact congrArg SV.d (congrArg (DV.int _) hw)
        · simp
        · refine strs_cat _ _ _ ?_
          show [DV.str _] = [DV.str _]
          simp [sub]
    · have hi : p.1 = n := by simp at hge; omega
      rw [hi] at hp
      have hnm := hp.last
      conv => whnf
      rw [h4c]
      refine ⟨fun hne => ?_, fun heq => ?_⟩
      · have : cutF a n c s = none := by unfold cutF; rw [if_neg (by omega), hnm]; simp at hne ⊢; omega
        rw [this]
        conv => whnf
        repeat' (first | exact True.intro | exact rfl | exact Or.inl rfl | exact Or.inr rfl | exact fun _ _ => rfl | refine And.intro ?_ ?_)
      · have : cutF a n c s = some (s.take (2 * a), p.2.1, p.2.2) := by unfold cutF; rw [if_neg (by omega), hnm]; simp at heq ⊢; omega
        rw [this]
        conv => whnf
        repeat' (first | exact True.intro | exact rfl | exact Or.inl rfl | exact Or.inr rfl | exact fun _ _ => rfl | refine And.intro ?_ ?_)


/-- How data with names are made: numbers of 2 bytes, names, numbers of 4 bytes. -/
def formOf (t : Int) : Option (Nat × Nat × Nat) :=
  if t = 2 ∨ t = 5 ∨ t = 12 then some (0, 1, 0) else if t = 15 then some (1, 1, 0) else if t = 33 then some (3, 1, 0) else if t = 6 then some (0, 2, 5) else none
def formV (p : Nat × Nat × Nat) : SV := .agg [.d (.int .i64 p.1), .d (.int .i64 p.2.1), .d (.int .i64 p.2.2)]
def formR : Option (Nat × Nat × Nat) → SV
  | some p => .tup [formV p, .d .tt]
  | none => .tup [formV (0, 0, 0), .d .ff]
theorem formOf_le {t : Int} {p : Nat × Nat × Nat} (h : formOf t = some p) : p.1 ≤ 100 ∧ p.2.1 ≤ 100 ∧ p.2.2 ≤ 100 := by
  unfold formOf at h
  repeat' (split at h)
  all_goals first | (cases h; decide) | cases h
set_option maxHeartbeats 4000000 in
theorem formOf_ok (t : Int) : FnOk Try.prog 122 [.d (.int .u16 t)] (formR (formOf t)) := by
  refine fnOk_of_run (TT := TT) (IN := lookI []) TT_ok INok_nil mixed 1000 Try.func122 rfl (enters Try.func122 (by kernel_rfl) rfl) rfl 19 (by kernel_rfl) ?_
  have fin1 : t = 2 ∨ t = 5 ∨ t = 12 → formOf t = some (0, 1, 0) := fun h => by unfold formOf; rw [if_pos h]
  conv => whnf
  refine ⟨fun h1 => ?_, fun h1 => ?_⟩
  · rw [fin1 (.inl (by simpa using h1))]
    conv => whnf
    refine brT h1 ?_
    conv => whnf
    repeat' (first | exact True.intro | exact rfl | refine And.intro ?_ ?_)
  simp only [beq_eq_false_iff_ne, ne_eq] at h1
  conv => whnf
  refine ⟨fun h2 => ?_, fun h2 => ?_⟩
  · rw [fin1 (.inr (.inl (by simpa using h2)))]
    conv => whnf
    refine brT h2 ?_
    conv => whnf
    repeat' (first | exact True.intro | exact rfl | refine And.intro ?_ ?_)
  simp only [beq_eq_false_iff_ne, ne_eq] at h2
  conv => whnf
  refine ⟨fun h3 => ?_, fun h3 => ?_⟩
  · rw [fin1 (.inr (.inr (by simpa using h3)))]
    conv => whnf
    repeat' (first | exact True.intro | exact rfl | refine And.intro ?_ ?_)
  simp only [beq_eq_false_iff_ne, ne_eq] at h3
  conv => whnf
  refine ⟨fun h4 => ?_, fun h4 => ?_⟩
  · have : formOf t = some (1, 1, 0) := by unfold formOf; simp at h4; simp [h4]
    rw [this]
    conv => whnf
    repeat' (first | exact True.intro | exact rfl | refine And.intro ?_ ?_)
  simp only [beq_eq_false_iff_ne, ne_eq] at h4
  conv => whnf
  refine ⟨fun h5 => ?_, fun h5 => ?_⟩
  · have : formOf t = some (3, 1, 0) := by unfold formOf; simp at h5; simp [h5]
    rw [this]
    conv => whnf
    repeat' (first | exact True.intro | exact rfl | refine And.intro ?_ ?_)
  simp only [beq_eq_false_iff_ne, ne_eq] at h5
  conv => whnf
  refine ⟨fun h6 => ?_, fun h6 => ?_⟩
  · have : formOf t = some (0, 2, 5) := by unfold formOf; simp at h6; simp [h6]
    rw [this]
    conv => whnf
    repeat' (first | exact True.intro | exact rfl | refine And.intro ?_ ?_)
  simp only [beq_eq_false_iff_ne, ne_eq] at h6
  have : formOf t = none := by unfold formOf; simp [h1, h2, h3, h4, h5, h6]
  rw [this]
  conv => whnf
  repeat' (first | exact True.intro | exact rfl | refine And.intro ?_ ?_)
/-- Are data right for a type? -/
def rgood (t : Int) (s : List UInt8) : Bool :=
  if t = 1 then s.length == 4 else if t = 28 then s.length == 16 else if t = 16 then textsOk s else match formOf t with
  | some p => (cutF p.1 p.2.1 p.2.2 s).isSome
  | none => true
def rcheck (t : Int) (s : List UInt8) : Bool := decide (s.length ≤ 4096) && rgood t s
def errno (b : Bool) : Int := if b then 0 else 2
theorem lenEq (s : List UInt8) (n : Nat) : ((s.length : Int) == (n : Int)) = (s.length == n) := by
  rw [Bool.eq_iff_iff]; simp; omega
set_option maxHeartbeats 4000000 in
theorem rcheck_ok (t : Int) (s : List UInt8) : FnOk Try.prog 69 [.d (.int .u16 t), .d (.str s)] (.d (.int .i64 (errno (rcheck t s)))) := by
  refine fnOk_of_run (TT := TT) (IN := lookI []) TT_ok INok_nil mixed 1000 Try.func69 rfl (enters Try.func69 (by kernel_rfl) rfl) rfl 43 (by kernel_rfl) ?_
  conv => whnf
  refine ⟨fun h0 => ?_, fun h0 => ?_⟩
  · have : rcheck t s = false := by unfold rcheck; simp at h0; simp; intro h; omega
    rw [this]
    conv => whnf
    exact rfl
  have hle : s.length ≤ 4096 := by simp at h0; omega
  have hr : rcheck t s = rgood t s := by unfold rcheck; simp [hle]
  rw [hr]
  have hlast : ∀ b : Bool, rgood t s = b → (((!b) = true → (if rgood t s = true then (0 : Int) else 2) = 2) ∧ ((!b) = false → (if rgood t s = true then (0 : Int) else 2) = 0)) := fun b h => by rw [h]; cases b <;> simp
  conv => whnf
  refine ⟨fun h1 => ?_, fun h1 => ?_⟩
  · simp only [beq_iff_eq] at h1
    have e : rgood t s = ((s.length : Int) == 4) := by unfold rgood; rw [if_pos h1, ← lenEq]; rfl
    obtain ⟨l1, l2⟩ := hlast _ e
    conv => whnf
    refine ⟨fun h => ?_, fun h => ?_⟩
    · conv => whnf
      exact congrArg (DV.int _) (l1 h).symm
    · conv => whnf
      exact congrArg (DV.int _) (l2 h).symm
  simp only [beq_eq_false_iff_ne, ne_eq] at h1
  conv => whnf
  refine ⟨fun h2 => ?_, fun h2 => ?_⟩
  · simp only [beq_iff_eq] at h2
    have e : rgood t s = ((s.length : Int) == 16) := by unfold rgood; rw [if_neg h1, if_pos h2, ← lenEq]; rfl
    obtain ⟨l1, l2⟩ := hlast _ e
    conv => whnf
    refine ⟨fun h => ?_, fun h => ?_⟩
    · conv => whnf
      exact congrArg (DV.int _) (l1 h).symm
    · conv => whnf
      exact congrArg (DV.int _) (l2 h).symm
  simp only [beq_eq_false_iff_ne, ne_eq] at h2
  conv => whnf
  refine ⟨fun h3 => ?_, fun h3 => ?_⟩
  · simp only [beq_iff_eq] at h3
    have e : rgood t s = textsOk s := by unfold rgood; rw [if_neg h1, if_neg h2, if_pos h3]
    obtain ⟨l1, l2⟩ := hlast _ e
    conv => whnf
    refine .one (.data _ (texts_ok s hle) rfl rfl ?_)
    conv => whnf
    refine ⟨fun h => ?_, fun h => ?_⟩
    · conv => whnf
      exact congrArg (DV.int _) (l1 h).symm
    · conv => whnf
      exact congrArg (DV.int _) (l2 h).symm
  simp only [beq_eq_false_iff_ne, ne_eq] at h3
  conv => whnf
  refine .one (.data _ (formOf_ok t) rfl ?_ ?_)
  · cases formOf t <;> rfl
  cases hf : formOf t with
  | none =>
    have e : rgood t s = true := by unfold rgood; rw [if_neg h1, if_neg h2, if_neg h3, hf]
    obtain ⟨l1, l2⟩ := hlast _ e
    conv => whnf
    refine brF (by simpa using h0) ?_
    conv => whnf
    exact congrArg (DV.int _) (l2 rfl).symm
  | some p =>
    obtain ⟨f1, f2, f3⟩ := formOf_le hf
    have e : rgood t s = (cutF p.1 p.2.1 p.2.2 s).isSome := by unfold rgood; rw [if_neg h1, if_neg h2, if_neg h3, hf]
    obtain ⟨l1, l2⟩ := hlast _ e
    conv => whnf
    refine .one (.data _ (cut_ok p.1 p.2.1 p.2.2 f1 f2 f3 s) rfl ?_ ?_)
    · cases cutF p.1 p.2.1 p.2.2 s <;> rfl
    cases hc : cutF p.1 p.2.1 p.2.2 s with
    | none =>
      rw [hc] at l1
      conv => whnf
      exact congrArg (DV.int _) (l1 rfl).symm
    | some q =>
      rw [hc] at l2
      conv => whnf
      exact congrArg (DV.int _) (l2 rfl).symm
end Go.Proofs.Ytdphkaiijlekhaa
