/-
  rdata.look, rdata.Fold, sets.Check. No conditions.
-/
import Derived.Test.YtdphkaiijlekhaaJoin
namespace Go.Proofs.Ytdphkaiijlekhaa
open Go Go.Eng

/-- Right data of a form, in their parts. -/
def lookF (t : Int) (s : List UInt8) : Option ((Nat × Nat × Nat) × (List UInt8 × List (List UInt8) × List UInt8)) :=
  if s.length ≤ 4096 then (formOf t).bind fun p => (cutF p.1 p.2.1 p.2.2 s).map fun q => (p, q) else none
def lookR : Option ((Nat × Nat × Nat) × (List UInt8 × List (List UInt8) × List UInt8)) → SV
  | none => .tup [.agg [.any, .any, .any], noParts, .d .ff]
  | some (p, x, l, r) => .tup [formV p, partsV x l r, .d .tt]
set_option maxRecDepth 100000
set_option maxHeartbeats 4000000 in
theorem look_ok (t : Int) (s : List UInt8) : FnOk Try.prog 124 [.d (.int .u16 t), .d (.str s)] (lookR (lookF t s)) := by
  refine fnOk_of_run (TT := TT) (IN := lookI []) TT_ok INok_nil mixed 1000 Try.func124 rfl (enters Try.func124 (by kernel_rfl) rfl) rfl 32 (by kernel_rfl) ?_
  conv => whnf
  refine .one (.data _ (formOf_ok t) rfl ?_ ?_)
  · cases formOf t <;> rfl
  cases hf : formOf t with
  | none =>
    have e : lookF t s = none := by unfold lookF; rw [hf]; split <;> rfl
    rw [e]
    conv => whnf
    repeat' (first | exact True.intro | exact rfl | exact Or.inl rfl | exact Or.inr rfl | exact fun _ _ => rfl | refine And.intro ?_ ?_)
  | some p =>
    obtain ⟨f1, f2, f3⟩ := formOf_le hf
    conv => whnf
    refine ⟨fun hgt => ?_, fun hle => ?_⟩
    · have e : lookF t s = none := by unfold lookF; rw [if_neg (by simp at hgt; omega)]
      rw [e]
      conv => whnf
      repeat' (first | exact True.intro | exact rfl | exact Or.inl rfl | exact Or.inr rfl | exact fun _ _ => rfl | refine And.intro ?_ ?_)
    · have e : lookF t s = (cutF p.1 p.2.1 p.2.2 s).map fun q => (p, q) := by unfold lookF; rw [if_pos (by simp at hle; omega), hf]; rfl
      rw [e]
      conv => whnf
      refine .one (.data _ (cut_ok p.1 p.2.1 p.2.2 f1 f2 f3 s) rfl ?_ ?_)
      · cases cutF p.1 p.2.1 p.2.2 s <;> rfl
      cases hc : cutF p.1 p.2.1 p.2.2 s with
      | none =>
        conv => whnf
        (apply Exists.intro; apply Exists.intro; apply And.intro; focus ((conv => whnf); repeat' (first | exact True.intro | exact rfl | apply And.intro)))
        conv => whnf
        repeat' (first | exact True.intro | exact rfl | exact Or.inl rfl | exact Or.inr rfl | exact fun _ _ => rfl | refine And.intro ?_ ?_)
      | some q =>
        conv => whnf
        (apply Exists.intro; apply Exists.intro; apply And.intro; focus ((conv => whnf); repeat' (first | exact True.intro | exact rfl | apply And.intro)))
        conv => whnf
        repeat' (first | exact True.intro | exact rfl | exact Or.inl rfl | exact Or.inr rfl | exact fun _ _ => rfl | refine And.intro ?_ ?_)

/-- Data, their names with small letters. -/
def rfold (t : Int) (s : List UInt8) : List UInt8 := match lookF t s with
  | none => s
  | some (_, x, l, r) => x ++ fold (Lib.join l []) ++ r
theorem join_nil (l : List (List UInt8)) : Lib.join l [] = l.flatten := by
  induction l with
  | nil => rfl
  | cons a l ih => cases l with
    | nil => simp [Lib.join]
    | cons b l => simp [Lib.join] at ih ⊢; rw [ih]
theorem namesF_len : ∀ (n : Nat) (s : List UInt8) (l : List (List UInt8)) (r : List UInt8), namesF n s = some (l, r) → l.length = n ∧ l.flatten.length + r.length = s.length := by
  intro n
  induction n with
  | zero => intro s l r h; simp only [namesF, Option.some.injEq, Prod.mk.injEq] at h; obtain ⟨rfl, rfl⟩ := h; simp
  | succ n ih =>
    intro s l r h
    simp only [namesF] at h
    split at h
    · cases h
    · cases hn : namesF n (s.drop (firstN s)) with
      | none => rw [hn] at h; cases h
      | some p =>
        rw [hn] at h
        simp only [Option.map_some, Option.some.injEq, Prod.mk.injEq] at h
        obtain ⟨rfl, rfl⟩ := h
        obtain ⟨h1, h2⟩ := ih _ p.1 p.2 hn
        have := firstN_le s
        refine ⟨by simp [h1], ?_⟩
        simp only [List.flatten_cons, List.length_append, List.length_take, List.length_drop] at h2 ⊢
        omega
theorem lookF_len {t : Int} {s : List UInt8} {p : Nat × Nat × Nat} {x : List UInt8} {l : List (List UInt8)} {r : List UInt8} (h : lookF t s = some (p, x, l, r)) : s.length ≤ 4096 ∧ l.length ≤ 100 ∧ x.length + l.flatten.length + r.length = s.length := by
  unfold lookF at h
  split at h
  · rename_i hs
    cases hf : formOf t with
    | none => rw [hf] at h; cases h
    | some q =>
      rw [hf] at h
      simp only [Option.bind_some] at h
      cases hc : cutF q.1 q.2.1 q.2.2 s with
      | none => rw [hc] at h; cases h
      | some c =>
        rw [hc] at h
        simp only [Option.map_some, Option.some.injEq, Prod.mk.injEq] at h
        obtain ⟨rfl, rfl⟩ := h
        unfold cutF at hc
        split at hc
        · cases hc
        · cases hn : namesF q.2.1 (s.drop (2 * q.1)) with
          | none => rw [hn] at hc; cases hc
          | some y =>
            rw [hn] at hc
            simp only [Option.bind_some] at hc
            split at hc
            · simp only [Option.some.injEq, Prod.mk.injEq] at hc
              obtain ⟨rfl, rfl, rfl⟩ := hc
              obtain ⟨h1, h2⟩ := namesF_len _ _ y.1 y.2 hn
              have := (formOf_le hf).2.1
              refine ⟨hs, by omega, ?_⟩
              simp only [List.length_take, List.length_drop] at h2 ⊢
              omega
            · cases hc
  · cases h
set_option maxHeartbeats 4000000 in
theorem rfold_ok (t : Int) (s : List UInt8) : FnOk Try.prog 70 [.d (.int .u16 t), .d (.str s)] (.d (.str (rfold t s))) := by
  refine fnOk_of_run (TT := TT) (IN := lookI []) TT_ok INok_nil mixed 1000 Try.func70 rfl (enters Try.func70 (by kernel_rfl) rfl) rfl 26 (by kernel_rfl) ?_
  conv => whnf
  refine .one (.data _ (look_ok t s) rfl ?_ ?_)
  · cases lookF t s <;> rfl
  cases hf : lookF t s with
  | none =>
    have e : rfold t s = s := by unfold rfold; rw [hf]
    rw [e]
    conv => whnf
  | some p =>
    obtain ⟨p, x, l, r⟩ := p
    obtain ⟨h1, h2, h3⟩ := lookF_len hf
    have e : rfold t s = x ++ fold (Lib.join l []) ++ r := by unfold rfold; rw [hf]
    rw [e]
    conv => whnf
    refine .data _ (join_ok _ l [] (by omega) (by rw [join_nil]; omega)) rfl rfl ?_
    conv => whnf
    refine .data _ (fold_ok _ (by rw [join_nil]; omega)) rfl rfl ?_
    have hfl : (fold (Lib.join l [])).length = l.flatten.length := by rw [join_nil]; simp only [fold, List.length_map]
    conv => whnf
    refine ⟨by omega, ?_⟩
    conv => whnf
    refine ⟨by simp only [List.length_append]; omega, ?_⟩
    conv => whnf

/-- Are data right for a type, and rising? last: those ahead. -/
def rising (t : Int) : Bool → List UInt8 → List (List UInt8) → Bool
  | _, _, [] => true
  | b, last, d :: l => rcheck t d && !(b && (Op.bytesLess (rfold t d) last || rfold t d == last)) && rising t true (rfold t d) l
/-- Is a set right? -/
def scheck (name : List UInt8) (t ttl : Int) (l : List (List UInt8)) : Bool :=
  isName name && decide (ttl ≤ 2147483647) && decide (0 < l.length ∧ l.length ≤ 64) && rising t false [] l
def setV (name : List UInt8) (t ttl : Int) (b : Bool) (l : List (List UInt8)) : SV := .agg [.d (.str name), .d (.int .u16 t), .d (.int .u32 ttl), .d (.sl b l.length 1 (strs l))]
set_option maxHeartbeats 4000000 in
theorem scheck_ok (name : List UInt8) (t ttl : Int) (b : Bool) (l : List (List UInt8)) : FnOk Try.prog 28 [setV name t ttl b l] (.d (.int .i64 (errno (scheck name t ttl l)))) := by
  refine fnOk_of_run (TT := TT) (IN := lookI []) TT_ok INok_nil mixed 1000 Try.func28 rfl (enters Try.func28 (by kernel_rfl) rfl) rfl 51 (by kernel_rfl) ?_
  have bad : scheck name t ttl l = false → errno (scheck name t ttl l) = 2 := fun h => by rw [h]; rfl
  conv => whnf
  refine .one (.data _ (check_ok _) rfl rfl ?_)
  by_cases hn : isName name
  · rw [if_pos hn]
    conv => whnf
    refine brF (by decide) ?_
    conv => whnf
    refine ⟨fun hgt => ?_, fun hle => ?_⟩
    · rw [bad (by simp only [scheck, Bool.and_eq_false_iff, decide_eq_false_iff_not]; simp at hgt; omega)]
      conv => whnf
    conv => whnf
    refine ⟨fun h0 => ?_, fun h0 => ?_⟩
    · rw [bad (by simp only [scheck, Bool.and_eq_false_iff, decide_eq_false_iff_not]; simp at h0; simp [h0])]
      conv => whnf
    conv => whnf
    refine ⟨fun h1 => ?_, fun h1 => ?_⟩
    · rw [bad (by simp only [scheck, Bool.and_eq_false_iff, decide_eq_false_iff_not]; simp at h1; omega)]
      conv => whnf
    have hl : 0 < l.length ∧ l.length ≤ 64 := by simp at h0 h1; exact ⟨by rw [List.length_pos_iff]; exact h0, by omega⟩
    have hsc : scheck name t ttl l = rising t false [] l := by
      unfold scheck
      rw [decide_eq_true hl]
      have : ttl ≤ 2147483647 := by simpa using hle
      simp [hn, this]
    rw [hsc]
    conv => whnf
    refine .inv (Nat × List UInt8) (fun p => p.1 ≤ l.length ∧ rising t (decide (0 < p.1)) p.2 (l.drop p.1) = rising t false [] l) (fun p => [(3, .d (.str p.2)), (29, .d (.int .i64 p.1))]) (fun p => []) (fun p => l.length - p.1) ⟨(0, []), [0], ⟨by omega, rfl⟩, ?_⟩ ?_
    · conv => whnf
      repeat' (first | exact True.intro | exact rfl | refine And.intro ?_ ?_)
    intro p hp
    obtain ⟨hp1, hp2⟩ := hp
    conv => whnf
    refine ⟨fun hlt => ?_, fun hge => ?_⟩
    · have hi : p.1 < l.length := by simpa using hlt
      have hd : l.drop p.1 = l[p.1] :: l.drop (p.1 + 1) := List.drop_eq_getElem_cons hi
      rw [hd] at hp2
      simp only [rising] at hp2
      conv => whnf
      refine ⟨by omega, ?_⟩
      conv => whnf
      have hel : l[((p.1 : Nat) : Int).toNat]?.getD [] = l[p.1] := by simp [hi]
      rw [hel]
      generalize hdd : l[p.1] = d at hp2 ⊢
      refine .one (.data _ (rcheck_ok t d) rfl rfl ?_)
      cases hr : rcheck t d with
      | false =>
        rw [hr, Bool.false_and, Bool.false_and] at hp2
        rw [show rising t false [] l = false from hp2.symm]
        conv => whnf
        refine brT (by decide) ?_
        conv => whnf
        exact rfl
      | true =>
        rw [hr, Bool.true_and] at hp2
        conv => whnf
        refine brF (by decide) ?_
        conv => whnf
        refine .one (.data _ (rfold_ok t d) rfl rfl ?_)
        conv => whnf
        have fin : ∀ z : Bool, ((decide (0 < p.1) && (Op.bytesLess (rfold t d) p.2 || rfold t d == p.2)) = z) → z = false → rising t true (rfold t d) (l.drop (p.1 + 1)) = rising t false [] l := fun z h1 h2 => by rw [h2] at h1; rw [h1] at hp2; simpa using hp2
        have hw : IntKind.i64.wrap ((p.1 : Int) + 1) = ((p.1 + 1 : Nat) : Int) := by rw [w64_in _ (by omega)]; omega
        refine ⟨fun hg => ?_, fun hg => ?_⟩
        · have hg' : 0 < p.1 := by simp at hg; omega
          conv => whnf
          refine ⟨fun hle => ?_, fun hle => ?_⟩
          · have : (Op.bytesLess (rfold t d) p.2 || rfold t d == p.2) = true := hle
            rw [this] at hp2
            rw [decide_eq_true hg'] at hp2
            rw [show rising t false [] l = false from hp2.symm]
            conv => whnf
            exact rfl
          · conv => whnf
            refine ⟨(p.1 + 1, rfold t d), [0], ⟨hi, ?_⟩, by show l.length - (p.1 + 1) < l.length - p.1; omega, ?_⟩
            · rw [decide_eq_true (Nat.succ_pos _)]
              exact fin _ rfl (by rw [show (Op.bytesLess (rfold t d) p.2 || rfold t d == p.2) = false from hle, Bool.and_false])
            conv => whnf
            repeat' (first | exact True.intro | exact rfl | refine And.intro ?_ ?_)
            all_goals exact congrArg SV.d (congrArg (DV.int _) hw)
        · have hg' : p.1 = 0 := by simp at hg; omega
          conv => whnf
          refine ⟨(p.1 + 1, rfold t d), [0], ⟨hi, ?_⟩, by show l.length - (p.1 + 1) < l.length - p.1; omega, ?_⟩
          · rw [decide_eq_true (Nat.succ_pos _)]
            exact fin _ rfl (by rw [hg']; rfl)
          conv => whnf
          repeat' (first | exact True.intro | exact rfl | refine And.intro ?_ ?_)
          all_goals exact congrArg SV.d (congrArg (DV.int _) hw)
    · have hi : p.1 = l.length := by simp at hge; omega
      rw [hi, List.drop_length] at hp2
      rw [← hp2]
      conv => whnf
      exact congrArg (DV.int _) rfl
  · rw [if_neg hn]
    rw [bad (by simp [scheck, hn])]
    conv => whnf
    refine brT (by decide) ?_
    conv => whnf
end Go.Proofs.Ytdphkaiijlekhaa
