/-
  message.Read. Conditions: the bytes are fewer than 2 to the 40. What is written is read again: messages. Plain lemmas. slices.Clone of questions. Conditions: a nil slice has no elements. message.Reply. Conditions: a nil slice has no elements; no more than a million questions. message.Code, message.Op. No conditions. slices.Equal of questions. Conditions: fewer than 2 to the 62. message.Same. Conditions: lists of fewer than 2 to the 62. message.Head. Conditions: fewer than 2 to the 62 bytes. hardtacklaw06.Small. No conditions. hardtacklaw06.lives. No conditions. What is written and read, case by case. Plain lemmas. What is read is right; a reply's bits. Plain lemmas. What all rows of this seat need: the tables of the program, texts and sets out of their cells. No conditions. Messages out of their cells. No conditions.
-/
import Derived.ChangeSame
import Derived.ChangeVars
import Derived.JoinedOf
import Derived.RowKit
import Derived.RowKitTokens
import Derived.LaidLaws
import Derived.LaidHandle
import Derived.Stop.Joined
import Derived.SevenTiedAt
import Derived.Test.YtdphkaiijlekhaaB2
import Derived.Test.YtdphkaiijlekhaaM4
import Derived.Test.YtdphkaiijlekhaaB1
set_option linter.unusedVariables false
set_option linter.unusedSimpArgs false
namespace Go.Proofs.Ytdphkaiijlekhaa
open Go Go.Eng
/-- Questions are read, behind those that were. -/
def Rdr.qs : Nat → Rdr → List Q → Rdr × List Q × Bool
  | 0, r, l => (r, l, true)
  | n + 1, r, l => if ((r.name.1.num 2).1.num 2).1.bad then (((r.name.1.num 2).1.num 2).1, l, false)
    else Rdr.qs n ((r.name.1.num 2).1.num 2).1 (l ++ [⟨r.name.2, IntKind.u16.wrap (r.name.1.num 2).2, IntKind.u16.wrap ((r.name.1.num 2).1.num 2).2⟩])
/-- Records are read, behind those that were. -/
def Rdr.rs : Nat → Rdr → List RR → Rdr × List RR × Int
  | 0, r, l => (r, l, 0)
  | n + 1, r, l => if r.recd.2.2 ≠ 0 then (r.recd.1, l, r.recd.2.2) else Rdr.rs n r.recd.1 (l ++ [r.recd.2.1])
def Msg.no : Msg := ⟨0, 0, true, [], true, [], true, [], true, []⟩
def Msg.of (i b : Int) (q : List Q) (x y z : List RR) : Msg := ⟨i, b, Nat.beq q.length 0, q, Nat.beq x.length 0, x, Nat.beq y.length 0, y, Nat.beq z.length 0, z⟩
def Rdr.fin (r : Rdr) (m : Msg) : Msg × Int := if r.bad = false ∧ 0 < r.s.length - r.p then (Msg.no, 6) else (m, 0)
/-- A section, and what comes behind it. -/
def Rdr.sec (r : Rdr) (n : Nat) (k : Rdr → List RR → Msg × Int) : Msg × Int := if (r.rs n []).2.2 ≠ 0 then (Msg.no, (r.rs n []).2.2) else k (r.rs n []).1 (r.rs n []).2.1
/-- What is read behind the numbers. -/
def Rdr.rest (r : Rdr) (i b c d e f : Nat) : Msg × Int :=
  if c > 4096 ∨ d > 4096 ∨ e > 4096 ∨ f > 4096 then (Msg.no, 7) else
  if (r.qs c []).2.2 = false then (Msg.no, 5) else
  (r.qs c []).1.sec d fun r1 x => r1.sec e fun r2 y => r2.sec f fun r3 z => r3.fin (Msg.of (IntKind.u16.wrap i) (IntKind.u16.wrap b) (r.qs c []).2.1 x y z)
def Msg.read (s : List UInt8) : Msg × Int :=
  if s.length < 12 then (Msg.no, 5) else
  let a := (Rdr.mk s 0 false).num 2
  let b := a.1.num 2
  let c := b.1.num 2
  let d := c.1.num 2
  let e := d.1.num 2
  let f := e.1.num 2
  f.1.rest a.2 b.2 c.2 d.2 e.2 f.2
theorem Rdr.num_lt (r : Rdr) : (r.num 2).2 < 65536 := by
  unfold Rdr.num
  split
  · show (0 : Nat) < 65536
    omega
  · rename_i h
    have h1 : (r.raw ((2 : Nat) : Int)).2.length = 2 := Rdr.raw_len 2 (by simpa using h)
    show numOf (r.raw ((2 : Nat) : Int)).2 < 65536
    generalize (r.raw ((2 : Nat) : Int)).2 = x at h1
    match x, h1 with
    | [a, b], _ =>
      have ha := UInt8.toNat_lt a
      have hb := UInt8.toNat_lt b
      show (0 * 256 + a.toNat) * 256 + b.toNat < 65536
      omega
theorem q_cat (l : List Q) (q : Q) (j : Nat) (hj : j < l.length + 1) : catF l.length (fun j => (l.getD j default).enc) (chunk q.enc 3) j = ((l ++ [q]).getD j default).enc := by
  unfold catF
  split
  · rename_i h
    show (l.getD j default).enc = _
    rw [List.getD, List.getD, List.getElem?_append_left h]
  · rename_i h
    have : j = l.length := by omega
    subst this
    rw [Nat.sub_self, List.getD, List.getElem?_append_right (Nat.le_refl _), Nat.sub_self]
    rfl
structure MrQ where
  r : Rdr
  l : List Q
  i : Nat
structure MrR where
  r : Rdr
  l : List RR
  i : Nat
set_option maxRecDepth 100000 in
set_option maxHeartbeats 16000000 in
theorem mread_ok (s : List UInt8) (hs : s.length < 1099511627776) : FnOk Try.prog 46 [.d (.str s)] (.tup [.agg (Msg.read s).1.cells, .d (.int .i64 (Msg.read s).2)]) := by
  refine fnOk_of_run (TT := TT) (IN := lookI [(80, Try.f80, 1), (129, Try.f129, 2), (94, Try.f94, 1), (96, Try.f96, 1)]) TT_ok (INok_cons (INok_cons (INok_cons (INok_cons INok_nil Try.func96 (by kernel_rfl) (by kernel_rfl)) Try.func94 (by kernel_rfl) (by kernel_rfl)) Try.func129 (by kernel_rfl) (by kernel_rfl)) Try.func80 (by kernel_rfl) (by kernel_rfl)) mixed 1000 Try.func46 rfl (enters Try.func46 (by kernel_rfl) rfl) rfl 105 (by kernel_rfl) ?_
  conv => whnf
  refine ⟨fun h1 => ?_, fun h1 => ?_⟩
  · have h : s.length < 12 := by have h : (s.length : Int) < 12 := of_decide_eq_true h1
                                 omega
    have e : Msg.read s = (Msg.no, 5) := by unfold Msg.read; rw [if_pos h]
    rw [e]
    conv => whnf
    repeat' (first | exact True.intro | exact rfl | exact ⟨rfl, rfl, .inr rfl, fun _ _ => rfl⟩ | exact ⟨rfl, rfl, .inl rfl, fun i hi => absurd hi (Nat.not_lt_zero _)⟩ | refine And.intro ?_ ?_)
  have h : ¬ s.length < 12 := by have h : ¬ (s.length : Int) < 12 := of_decide_eq_false h1
                                 omega
  have hsp : Msg.read s = Msg.read s := rfl
  conv at hsp => rhs; unfold Msg.read; rw [if_neg h]
  dsimp only at hsp
  have hr : (Rdr.mk s 0 false).Ok := ⟨by show s.length < _; omega, Nat.zero_le _⟩
  conv => whnf
  refine .rel _ (new_among (fun _ => rfl) (open_ok s) [_, _] (fun _ => rfl)) (fun x ks' hR => ?_)
  obtain ⟨rfl, rfl⟩ := hR
  conv => whnf
  refine .once ?_
  conv => whnf
  refine brT rfl ?_
  conv => whnf
  have hsa := Rdr.num_s (Rdr.mk s 0 false) 2
  have hla := Rdr.num_lt (Rdr.mk s 0 false)
  refine .rel _ (rdr_fam (rnum_ok _ hr 2 (.inr (.inl rfl))) [_, _] [_, _] _ rfl rfl) (fun x ks' hR => ?_)
  obtain ⟨_, q, ⟨rfl, rfl⟩, rfl, rfl⟩ := hR
  have hra := hr.num 2
  generalize Rdr.num (Rdr.mk s 0 false) 2 = a at hsa hla hra hsp ⊢
  have hwa : IntKind.i64.wrap (a.2 : Int) = (a.2 : Int) := w64_in _ (by omega)
  conv => whnf
  refine ⟨by decide, ?_⟩
  rw [hwa]
  conv => whnf
  refine .once ?_
  conv => whnf
  refine brT rfl ?_
  conv => whnf
  have hsb := Rdr.num_s a.1 2
  have hlb := Rdr.num_lt a.1
  refine .rel _ (rdr_fam (rnum_ok _ hra 2 (.inr (.inl rfl))) [_, _] [_, _] _ rfl rfl) (fun x ks' hR => ?_)
  obtain ⟨_, q, ⟨rfl, rfl⟩, rfl, rfl⟩ := hR
  have hrb := hra.num 2
  generalize Rdr.num a.1 2 = b at hsb hlb hrb hsp ⊢
  have hwb : IntKind.i64.wrap (b.2 : Int) = (b.2 : Int) := w64_in _ (by omega)
  conv => whnf
  refine ⟨by decide, ?_⟩
  rw [hwb]
  conv => whnf
  refine .once ?_
  conv => whnf
  refine brT rfl ?_
  conv => whnf
  have hsc := Rdr.num_s b.1 2
  have hlc := Rdr.num_lt b.1
  refine .rel _ (rdr_fam (rnum_ok _ hrb 2 (.inr (.inl rfl))) [_, _] [_, _] _ rfl rfl) (fun x ks' hR => ?_)
  obtain ⟨_, q, ⟨rfl, rfl⟩, rfl, rfl⟩ := hR
  have hrc := hrb.num 2
  generalize Rdr.num b.1 2 = c at hsc hlc hrc hsp ⊢
  have hwc : IntKind.i64.wrap (c.2 : Int) = (c.2 : Int) := w64_in _ (by omega)
  conv => whnf
  refine ⟨by decide, ?_⟩
  rw [hwc]
  conv => whnf
  refine .once ?_
  conv => whnf
  refine brT rfl ?_
  conv => whnf
  have hsd := Rdr.num_s c.1 2
  have hld := Rdr.num_lt c.1
  refine .rel _ (rdr_fam (rnum_ok _ hrc 2 (.inr (.inl rfl))) [_, _] [_, _] _ rfl rfl) (fun x ks' hR => ?_)
  obtain ⟨_, q, ⟨rfl, rfl⟩, rfl, rfl⟩ := hR
  have hrd := hrc.num 2
  generalize Rdr.num c.1 2 = d at hsd hld hrd hsp ⊢
  have hwd : IntKind.i64.wrap (d.2 : Int) = (d.2 : Int) := w64_in _ (by omega)
  conv => whnf
  refine ⟨by decide, ?_⟩
  rw [hwd]
  conv => whnf
  refine .once ?_
  conv => whnf
  refine brT rfl ?_
  conv => whnf
  have hse := Rdr.num_s d.1 2
  have hle := Rdr.num_lt d.1
  refine .rel _ (rdr_fam (rnum_ok _ hrd 2 (.inr (.inl rfl))) [_, _] [_, _] _ rfl rfl) (fun x ks' hR => ?_)
  obtain ⟨_, q, ⟨rfl, rfl⟩, rfl, rfl⟩ := hR
  have hre := hrd.num 2
  generalize Rdr.num d.1 2 = e at hse hle hre hsp ⊢
  have hwe : IntKind.i64.wrap (e.2 : Int) = (e.2 : Int) := w64_in _ (by omega)
  conv => whnf
  refine ⟨by decide, ?_⟩
  rw [hwe]
  conv => whnf
  refine .once ?_
  conv => whnf
  refine brT rfl ?_
  conv => whnf
  have hsf := Rdr.num_s e.1 2
  have hlf := Rdr.num_lt e.1
  refine .rel _ (rdr_fam (rnum_ok _ hre 2 (.inr (.inl rfl))) [_, _] [_, _] _ rfl rfl) (fun x ks' hR => ?_)
  obtain ⟨_, q, ⟨rfl, rfl⟩, rfl, rfl⟩ := hR
  have hrf := hre.num 2
  generalize Rdr.num e.1 2 = f at hsf hlf hrf hsp ⊢
  have hwf : IntKind.i64.wrap (f.2 : Int) = (f.2 : Int) := w64_in _ (by omega)
  conv => whnf
  refine ⟨by decide, ?_⟩
  rw [hwf]
  conv => whnf
  refine .once ?_
  conv => whnf
  refine brF rfl ?_
  conv => whnf
  refine ⟨by decide, ?_⟩
  conv => whnf
  refine .once ?_
  conv => whnf
  refine brT rfl ?_
  conv => whnf
  refine ⟨by decide, ?_⟩
  conv => whnf
  refine ⟨fun h2 => ?_, fun h2 => ?_⟩
  · have h2 : ((c.2 : Nat) : Int) > 4096 := of_decide_eq_true h2
    have hx : Msg.read s = (Msg.no, 7) := by rw [hsp]; unfold Rdr.rest; rw [if_pos (by omega)]
    rw [hx]
    conv => whnf
    repeat' (first | exact True.intro | exact rfl | exact ⟨rfl, rfl, .inr rfl, fun _ _ => rfl⟩ | exact ⟨rfl, rfl, .inl rfl, fun i hi => absurd hi (Nat.not_lt_zero _)⟩ | refine And.intro ?_ ?_)
  have hmc : ¬ ((c.2 : Nat) : Int) > 4096 := of_decide_eq_false h2
  clear h2
  conv => whnf
  refine .once ?_
  conv => whnf
  refine brT rfl ?_
  conv => whnf
  refine ⟨by decide, ?_⟩
  conv => whnf
  refine ⟨fun h2 => ?_, fun h2 => ?_⟩
  · have h2 : ((d.2 : Nat) : Int) > 4096 := of_decide_eq_true h2
    have hx : Msg.read s = (Msg.no, 7) := by rw [hsp]; unfold Rdr.rest; rw [if_pos (by omega)]
    rw [hx]
    conv => whnf
    repeat' (first | exact True.intro | exact rfl | exact ⟨rfl, rfl, .inr rfl, fun _ _ => rfl⟩ | exact ⟨rfl, rfl, .inl rfl, fun i hi => absurd hi (Nat.not_lt_zero _)⟩ | refine And.intro ?_ ?_)
  have hmd : ¬ ((d.2 : Nat) : Int) > 4096 := of_decide_eq_false h2
  clear h2
  conv => whnf
  refine .once ?_
  conv => whnf
  refine brT rfl ?_
  conv => whnf
  refine ⟨by decide, ?_⟩
  conv => whnf
  refine ⟨fun h2 => ?_, fun h2 => ?_⟩
  · have h2 : ((e.2 : Nat) : Int) > 4096 := of_decide_eq_true h2
    have hx : Msg.read s = (Msg.no, 7) := by rw [hsp]; unfold Rdr.rest; rw [if_pos (by omega)]
    rw [hx]
    conv => whnf
    repeat' (first | exact True.intro | exact rfl | exact ⟨rfl, rfl, .inr rfl, fun _ _ => rfl⟩ | exact ⟨rfl, rfl, .inl rfl, fun i hi => absurd hi (Nat.not_lt_zero _)⟩ | refine And.intro ?_ ?_)
  have hme : ¬ ((e.2 : Nat) : Int) > 4096 := of_decide_eq_false h2
  clear h2
  conv => whnf
  refine .once ?_
  conv => whnf
  refine brT rfl ?_
  conv => whnf
  refine ⟨by decide, ?_⟩
  conv => whnf
  refine ⟨fun h2 => ?_, fun h2 => ?_⟩
  · have h2 : ((f.2 : Nat) : Int) > 4096 := of_decide_eq_true h2
    have hx : Msg.read s = (Msg.no, 7) := by rw [hsp]; unfold Rdr.rest; rw [if_pos (by omega)]
    rw [hx]
    conv => whnf
    repeat' (first | exact True.intro | exact rfl | exact ⟨rfl, rfl, .inr rfl, fun _ _ => rfl⟩ | exact ⟨rfl, rfl, .inl rfl, fun i hi => absurd hi (Nat.not_lt_zero _)⟩ | refine And.intro ?_ ?_)
  have hmf : ¬ ((f.2 : Nat) : Int) > 4096 := of_decide_eq_false h2
  clear h2
  conv => whnf
  refine .once ?_
  conv => whnf
  refine brF rfl ?_
  conv => whnf
  refine ⟨by decide, ?_⟩
  conv => whnf
  refine ⟨by decide, ?_⟩
  conv => whnf
  refine ⟨by decide, ?_⟩
  conv => whnf
  refine .nilC 5 2 77 3 (fun _ => []) _ _ _ _ rfl rfl ?_
  refine .nilC 5 3 60 5 (fun _ => []) _ _ _ _ rfl rfl ?_
  refine .nilC 5 4 60 5 (fun _ => []) _ _ _ _ rfl rfl ?_
  refine .nilC 5 5 60 5 (fun _ => []) _ _ _ _ rfl rfl ?_
  have hfs : f.1.s.length < 1099511627776 := by rw [hsf, hse, hsd, hsc, hsb, hsa]; exact hs
  refine .inv MrQ (fun x => x.r.Ok ∧ x.r.s.length < 1099511627776 ∧ x.i ≤ c.2 ∧ x.l.length = x.i ∧ Rdr.qs (c.2 - x.i) x.r x.l = Rdr.qs c.2 f.1 []) (fun x => [(50, .d (.int .i64 c.2)), (51, .d (.int .i64 x.i))])
    (fun x => [(2, x.r.kb), (4, .cells 136 [.d (.int .i64 a.2), .d (.int .i64 b.2), .d (.int .i64 c.2), .d (.int .i64 d.2), .d (.int .i64 e.2), .d (.int .i64 f.2)]), (5, .cells 66 [.d (.int .u16 (IntKind.u16.wrap a.2)), .d (.int .u16 (IntKind.u16.wrap b.2)), .all 6, .all 7, .all 8, .all 9]), (6, .row 77 3 x.l.length .iff (fun j => (x.l.getD j default).enc))])
    (fun x => c.2 - x.i) ⟨⟨f.1, [], 0⟩, [0, 1, 2, 3, 4, 5, 6, 7, 8, 9], ⟨hrf, hfs, Nat.zero_le _, rfl, rfl⟩, ?_⟩ ?_
  · conv => whnf
    repeat' (first | exact True.intro | exact rfl | (intro i hi; exact absurd hi (Nat.not_lt_zero _)) | refine And.intro ?_ ?_)
  intro x hx
  obtain ⟨kr, ks, ki, kl, hrest⟩ := hx
  conv => whnf
  generalize x.r = rc at kr ks hrest ⊢
  generalize x.l = lc at kl hrest ⊢
  generalize x.i = i at ki kl hrest ⊢
  refine ⟨fun c5 => ?_, fun c5 => ?_⟩
  · have c5' : i < c.2 := (by have h : (i : Int) < c.2 := of_decide_eq_true c5; omega)
    have hsub : c.2 - i = (c.2 - (i + 1)) + 1 := by omega
    rw [hsub] at hrest
    conv at hrest => lhs; unfold Rdr.qs
    conv => whnf
    refine .rel _ (rdr_fam (rname_ok rc kr) [_, _] [_, _, _, _, _, _, _] _ rfl rfl) (fun x ks' hR => ?_)
    obtain ⟨_, q, ⟨rfl, rfl⟩, rfl, rfl⟩ := hR
    have ka := kr.name
    have ksa := rc.name_s
    generalize rc.name = n1 at ka ksa hrest ⊢
    conv => whnf
    refine .rel _ (rdr_fam (rnum_ok _ ka 2 (.inr (.inl rfl))) [_, _] [_, _, _, _, _, _, _] _ rfl rfl) (fun x ks' hR => ?_)
    obtain ⟨_, q, ⟨rfl, rfl⟩, rfl, rfl⟩ := hR
    have kb := ka.num 2
    have ksb := n1.1.num_s 2
    generalize n1.1.num 2 = n2 at kb ksb hrest ⊢
    conv => whnf
    refine .rel _ (rdr_fam (rnum_ok _ kb 2 (.inr (.inl rfl))) [_, _] [_, _, _, _, _, _, _] _ rfl rfl) (fun x ks' hR => ?_)
    obtain ⟨_, q, ⟨rfl, rfl⟩, rfl, rfl⟩ := hR
    have kc := kb.num 2
    have ksc := n2.1.num_s 2
    generalize n2.1.num 2 = n3 at kc ksc hrest ⊢
    have ks3 : n3.1.s.length < 1099511627776 := by rw [ksc, ksb, ksa]; exact ks
    clear ksa ksb ksc ka kb
    conv => whnf
    refine ⟨fun h2 => ?_, fun h2 => ?_⟩
    · have h2 : n3.1.bad = true := h2
      rw [if_pos h2] at hrest
      have hx : Msg.read s = (Msg.no, 5) := by rw [hsp]; unfold Rdr.rest; rw [if_neg (by omega), if_pos (by rw [← hrest])]
      rw [hx]
      conv => whnf
      repeat' (first | exact True.intro | exact rfl | exact ⟨rfl, rfl, .inr rfl, fun _ _ => rfl⟩ | exact ⟨rfl, rfl, .inl rfl, fun i hi => absurd hi (Nat.not_lt_zero _)⟩ | refine And.intro ?_ ?_)
    have h2 : n3.1.bad = false := h2
    rw [if_neg (by rw [h2]; simp)] at hrest
    conv => whnf
    refine ⟨by omega, ?_⟩
    conv => whnf
    refine ⟨⟨n3.1, lc ++ [⟨n1.2, IntKind.u16.wrap n2.2, IntKind.u16.wrap n3.2⟩], i + 1⟩, [0, 1, 2, 3, 4, 5, 11, 7, 8, 9], ⟨kc, ks3, c5', by rw [List.length_append, kl]; rfl, hrest⟩, by show c.2 - (i + 1) < c.2 - i; omega, ?_⟩
    have hw1 : IntKind.i64.wrap ((i : Int) + 1) = ((i + 1 : Nat) : Int) := by rw [w64_in _ (by omega)]; omega
    conv => whnf
    rw [hw1]
    repeat' (first | exact True.intro | exact rfl | refine And.intro ?_ ?_)
    all_goals try exact fun _ _ => rfl
    · show lc.length + 1 = (lc ++ [_]).length
      rw [List.length_append]
      rfl
    · intro j hj
      exact q_cat lc ⟨n1.2, IntKind.u16.wrap n2.2, IntKind.u16.wrap n3.2⟩ j hj
  have hic : i = c.2 := (by have h : ¬ (i : Int) < c.2 := of_decide_eq_false c5; omega)
  rw [hic, Nat.sub_self] at hrest
  have hrest : Rdr.qs c.2 f.1 [] = (rc, lc, true) := hrest.symm
  have hsp2 : Msg.read s = rc.sec d.2 fun r1 x => r1.sec e.2 fun r2 y => r2.sec f.2 fun r3 z => r3.fin (Msg.of (IntKind.u16.wrap a.2) (IntKind.u16.wrap b.2) lc x y z) := by
    rw [hsp]; unfold Rdr.rest; rw [if_neg (by omega), hrest, if_neg (by simp)]
  conv => whnf
  refine ⟨by decide, ?_⟩
  conv => whnf
  refine .moveC 7 5 3 _ _ _ _ _ _ _ rfl rfl rfl ?_
  refine .inv MrR (fun x => x.r.Ok ∧ x.r.s.length < 1099511627776 ∧ x.i ≤ d.2 ∧ x.l.length = x.i ∧ Rdr.rs (d.2 - x.i) x.r x.l = Rdr.rs d.2 rc []) (fun x => [(79, .d (.int .i64 x.i))]) (fun x => [(2, x.r.kb), (13, .row 60 5 x.l.length .iff (fun j => (x.l.getD j default).enc))]) (fun x => d.2 - x.i) ⟨⟨rc, [], 0⟩, [0, 1, 2, 3, 4, 5, 6, 7, 8, 9, 10, 11, 12, 13], ⟨kr, ks, Nat.zero_le _, rfl, rfl⟩, ?_⟩ ?_
  · conv => whnf
    repeat' (first | exact True.intro | exact rfl | (intro i hi; exact absurd hi (Nat.not_lt_zero _)) | exact fun _ _ => rfl | refine And.intro ?_ ?_)
  clear kr ks
  intro x hx
  obtain ⟨kr, ks, ki, kl, hrest⟩ := hx
  conv => whnf
  generalize x.r = ra at kr ks hrest ⊢
  generalize x.l = la at kl hrest ⊢
  generalize x.i = i at ki kl hrest ⊢
  refine ⟨fun c5 => ?_, fun c5 => ?_⟩
  · have c5' : i < d.2 := (by have h : (i : Int) < d.2 := of_decide_eq_true c5; omega)
    have hsub : d.2 - i = (d.2 - (i + 1)) + 1 := by omega
    rw [hsub] at hrest
    conv at hrest => lhs; unfold Rdr.rs
    conv => whnf
    refine .rel _ (rdr_fam (rrec_ok ra kr ks) [_, _] [_, _, _, _, _, _, _, _, _, _, _] _ rfl rfl) (fun x ks' hR => ?_)
    obtain ⟨_, q, ⟨rfl, rfl⟩, rfl, rfl⟩ := hR
    have ka := kr.recd
    have ksa : ra.recd.1.s.length < 1099511627776 := by rw [Rdr.recd_s]; exact ks
    generalize ra.recd = g at ka ksa hrest ⊢
    conv => whnf
    refine ⟨fun h2 => ?_, fun h2 => ?_⟩
    · have h2 : g.2.2 ≠ 0 := by simpa using h2
      rw [if_pos h2] at hrest
      have hx : Msg.read s = (Msg.no, g.2.2) := by rw [hsp2]; unfold Rdr.sec; rw [if_pos (by rw [← hrest]; exact h2), ← hrest]
      rw [hx]
      conv => whnf
      repeat' (first | exact True.intro | exact rfl | exact ⟨rfl, rfl, .inr rfl, fun _ _ => rfl⟩ | exact ⟨rfl, rfl, .inl rfl, fun i hi => absurd hi (Nat.not_lt_zero _)⟩ | refine And.intro ?_ ?_)
    have h2 : ¬ g.2.2 ≠ 0 := by simpa using h2
    rw [if_neg h2] at hrest
    conv => whnf
    refine ⟨by omega, ?_⟩
    conv => whnf
    refine ⟨⟨g.1, la ++ [g.2.1], i + 1⟩, [0, 1, 2, 3, 4, 5, 6, 7, 8, 9, 10, 11, 12, 16], ⟨ka, ksa, c5', by rw [List.length_append, kl]; rfl, hrest⟩, by show d.2 - (i + 1) < d.2 - i; omega, ?_⟩
    have hw1 : IntKind.i64.wrap ((i : Int) + 1) = ((i + 1 : Nat) : Int) := by rw [w64_in _ (by omega)]; omega
    conv => whnf
    rw [hw1]
    repeat' (first | exact True.intro | exact rfl | refine And.intro ?_ ?_)
    all_goals try exact fun _ _ => rfl
    · show la.length + 1 = (la ++ [_]).length
      rw [List.length_append]
      rfl
    · intro j hj
      exact rr_cat la g.2.1 j hj
  have hic : i = d.2 := (by have h : ¬ (i : Int) < d.2 := of_decide_eq_false c5; omega)
  rw [hic, Nat.sub_self] at hrest
  have hrest : Rdr.rs d.2 rc [] = (ra, la, 0) := hrest.symm
  have hsp2 : Msg.read s = ra.sec e.2 fun r2 y => r2.sec f.2 fun r3 z => r3.fin (Msg.of (IntKind.u16.wrap a.2) (IntKind.u16.wrap b.2) lc la y z) := by
    rw [hsp2]; unfold Rdr.sec; rw [hrest, if_neg (by simp)]
  clear hrest kl ki c5 hic
  conv => whnf
  refine ⟨by decide, ?_⟩
  conv => whnf
  refine .moveC 8 5 4 _ _ _ _ _ _ _ rfl rfl rfl ?_
  refine .inv MrR (fun x => x.r.Ok ∧ x.r.s.length < 1099511627776 ∧ x.i ≤ e.2 ∧ x.l.length = x.i ∧ Rdr.rs (e.2 - x.i) x.r x.l = Rdr.rs e.2 ra []) (fun x => [(79, .d (.int .i64 x.i))]) (fun x => [(2, x.r.kb), (14, .row 60 5 x.l.length .iff (fun j => (x.l.getD j default).enc))]) (fun x => e.2 - x.i) ⟨⟨ra, [], 0⟩, [0, 1, 2, 3, 4, 5, 6, 7, 8, 9, 10, 11, 12, 13, 14], ⟨kr, ks, Nat.zero_le _, rfl, rfl⟩, ?_⟩ ?_
  · conv => whnf
    repeat' (first | exact True.intro | exact rfl | (intro i hi; exact absurd hi (Nat.not_lt_zero _)) | exact fun _ _ => rfl | refine And.intro ?_ ?_)
  clear kr ks
  intro x hx
  obtain ⟨kr, ks, ki, kl, hrest⟩ := hx
  conv => whnf
  generalize x.r = rb at kr ks hrest ⊢
  generalize x.l = lb at kl hrest ⊢
  generalize x.i = i at ki kl hrest ⊢
  refine ⟨fun c5 => ?_, fun c5 => ?_⟩
  · have c5' : i < e.2 := (by have h : (i : Int) < e.2 := of_decide_eq_true c5; omega)
    have hsub : e.2 - i = (e.2 - (i + 1)) + 1 := by omega
    rw [hsub] at hrest
    conv at hrest => lhs; unfold Rdr.rs
    conv => whnf
    refine .rel _ (rdr_fam (rrec_ok rb kr ks) [_, _] [_, _, _, _, _, _, _, _, _, _, _, _] _ rfl rfl) (fun x ks' hR => ?_)
    obtain ⟨_, q, ⟨rfl, rfl⟩, rfl, rfl⟩ := hR
    have ka := kr.recd
    have ksa : rb.recd.1.s.length < 1099511627776 := by rw [Rdr.recd_s]; exact ks
    generalize rb.recd = g at ka ksa hrest ⊢
    conv => whnf
    refine ⟨fun h2 => ?_, fun h2 => ?_⟩
    · have h2 : g.2.2 ≠ 0 := by simpa using h2
      rw [if_pos h2] at hrest
      have hx : Msg.read s = (Msg.no, g.2.2) := by rw [hsp2]; unfold Rdr.sec; rw [if_pos (by rw [← hrest]; exact h2), ← hrest]
      rw [hx]
      conv => whnf
      repeat' (first | exact True.intro | exact rfl | exact ⟨rfl, rfl, .inr rfl, fun _ _ => rfl⟩ | exact ⟨rfl, rfl, .inl rfl, fun i hi => absurd hi (Nat.not_lt_zero _)⟩ | refine And.intro ?_ ?_)
    have h2 : ¬ g.2.2 ≠ 0 := by simpa using h2
    rw [if_neg h2] at hrest
    conv => whnf
    refine ⟨by omega, ?_⟩
    conv => whnf
    refine ⟨⟨g.1, lb ++ [g.2.1], i + 1⟩, [0, 1, 2, 3, 4, 5, 6, 7, 8, 9, 10, 11, 12, 13, 17], ⟨ka, ksa, c5', by rw [List.length_append, kl]; rfl, hrest⟩, by show e.2 - (i + 1) < e.2 - i; omega, ?_⟩
    have hw1 : IntKind.i64.wrap ((i : Int) + 1) = ((i + 1 : Nat) : Int) := by rw [w64_in _ (by omega)]; omega
    conv => whnf
    rw [hw1]
    repeat' (first | exact True.intro | exact rfl | refine And.intro ?_ ?_)
    all_goals try exact fun _ _ => rfl
    · show lb.length + 1 = (lb ++ [_]).length
      rw [List.length_append]
      rfl
    · intro j hj
      exact rr_cat lb g.2.1 j hj
  have hic : i = e.2 := (by have h : ¬ (i : Int) < e.2 := of_decide_eq_false c5; omega)
  rw [hic, Nat.sub_self] at hrest
  have hrest : Rdr.rs e.2 ra [] = (rb, lb, 0) := hrest.symm
  have hsp2 : Msg.read s = rb.sec f.2 fun r3 z => r3.fin (Msg.of (IntKind.u16.wrap a.2) (IntKind.u16.wrap b.2) lc la lb z) := by
    rw [hsp2]; unfold Rdr.sec; rw [hrest, if_neg (by simp)]
  clear hrest kl ki c5 hic
  conv => whnf
  refine ⟨by decide, ?_⟩
  conv => whnf
  refine .moveC 9 5 5 _ _ _ _ _ _ _ rfl rfl rfl ?_
  refine .inv MrR (fun x => x.r.Ok ∧ x.r.s.length < 1099511627776 ∧ x.i ≤ f.2 ∧ x.l.length = x.i ∧ Rdr.rs (f.2 - x.i) x.r x.l = Rdr.rs f.2 rb []) (fun x => [(79, .d (.int .i64 x.i))]) (fun x => [(2, x.r.kb), (15, .row 60 5 x.l.length .iff (fun j => (x.l.getD j default).enc))]) (fun x => f.2 - x.i) ⟨⟨rb, [], 0⟩, [0, 1, 2, 3, 4, 5, 6, 7, 8, 9, 10, 11, 12, 13, 14, 15], ⟨kr, ks, Nat.zero_le _, rfl, rfl⟩, ?_⟩ ?_
  · conv => whnf
    repeat' (first | exact True.intro | exact rfl | (intro i hi; exact absurd hi (Nat.not_lt_zero _)) | exact fun _ _ => rfl | refine And.intro ?_ ?_)
  clear kr ks
  intro x hx
  obtain ⟨kr, ks, ki, kl, hrest⟩ := hx
  conv => whnf
  generalize x.r = rd at kr ks hrest ⊢
  generalize x.l = ld at kl hrest ⊢
  generalize x.i = i at ki kl hrest ⊢
  refine ⟨fun c5 => ?_, fun c5 => ?_⟩
  · have c5' : i < f.2 := (by have h : (i : Int) < f.2 := of_decide_eq_true c5; omega)
    have hsub : f.2 - i = (f.2 - (i + 1)) + 1 := by omega
    rw [hsub] at hrest
    conv at hrest => lhs; unfold Rdr.rs
    conv => whnf
    refine .rel _ (rdr_fam (rrec_ok rd kr ks) [_, _] [_, _, _, _, _, _, _, _, _, _, _, _, _] _ rfl rfl) (fun x ks' hR => ?_)
    obtain ⟨_, q, ⟨rfl, rfl⟩, rfl, rfl⟩ := hR
    have ka := kr.recd
    have ksa : rd.recd.1.s.length < 1099511627776 := by rw [Rdr.recd_s]; exact ks
    generalize rd.recd = g at ka ksa hrest ⊢
    conv => whnf
    refine ⟨fun h2 => ?_, fun h2 => ?_⟩
    · have h2 : g.2.2 ≠ 0 := by simpa using h2
      rw [if_pos h2] at hrest
      have hx : Msg.read s = (Msg.no, g.2.2) := by rw [hsp2]; unfold Rdr.sec; rw [if_pos (by rw [← hrest]; exact h2), ← hrest]
      rw [hx]
      conv => whnf
      repeat' (first | exact True.intro | exact rfl | exact ⟨rfl, rfl, .inr rfl, fun _ _ => rfl⟩ | exact ⟨rfl, rfl, .inl rfl, fun i hi => absurd hi (Nat.not_lt_zero _)⟩ | refine And.intro ?_ ?_)
    have h2 : ¬ g.2.2 ≠ 0 := by simpa using h2
    rw [if_neg h2] at hrest
    conv => whnf
    refine ⟨by omega, ?_⟩
    conv => whnf
    refine ⟨⟨g.1, ld ++ [g.2.1], i + 1⟩, [0, 1, 2, 3, 4, 5, 6, 7, 8, 9, 10, 11, 12, 13, 14, 18], ⟨ka, ksa, c5', by rw [List.length_append, kl]; rfl, hrest⟩, by show f.2 - (i + 1) < f.2 - i; omega, ?_⟩
    have hw1 : IntKind.i64.wrap ((i : Int) + 1) = ((i + 1 : Nat) : Int) := by rw [w64_in _ (by omega)]; omega
    conv => whnf
    rw [hw1]
    repeat' (first | exact True.intro | exact rfl | refine And.intro ?_ ?_)
    all_goals try exact fun _ _ => rfl
    · show ld.length + 1 = (ld ++ [_]).length
      rw [List.length_append]
      rfl
    · intro j hj
      exact rr_cat ld g.2.1 j hj
  have hic : i = f.2 := (by have h : ¬ (i : Int) < f.2 := of_decide_eq_false c5; omega)
  rw [hic, Nat.sub_self] at hrest
  have hrest : Rdr.rs f.2 rb [] = (rd, ld, 0) := hrest.symm
  have hsp2 : Msg.read s = rd.fin (Msg.of (IntKind.u16.wrap a.2) (IntKind.u16.wrap b.2) lc la lb ld) := by
    rw [hsp2]; unfold Rdr.sec; rw [hrest, if_neg (by simp)]
  clear hrest kl ki c5 hic
  conv => whnf
  have hql := kr.len
  have hqp := kr.p
  have hsub : IntKind.i64.wrap ((rd.s.length : Int) - rd.p) = (rd.s.length : Int) - rd.p := w64_in _ (by omega)
  refine ⟨fun h2 => ?_, fun h2 => ?_⟩
  · have h2 : rd.bad = true := h2
    have hx : Msg.read s = (Msg.of (IntKind.u16.wrap a.2) (IntKind.u16.wrap b.2) lc la lb ld, 0) := by rw [hsp2]; unfold Rdr.fin; rw [if_neg (by simp [h2])]
    rw [hx]
    conv => whnf
    try (refine brF rfl ?_; conv => whnf)
    repeat' (first | exact True.intro | exact rfl | exact ⟨rfl, rfl, .inr rfl, fun _ _ => rfl⟩ | exact ⟨rfl, rfl, .inl rfl, fun i hi => absurd hi (Nat.not_lt_zero _)⟩ | refine And.intro ?_ ?_)
  have h2 : rd.bad = false := h2
  conv => whnf
  rw [hsub]
  refine ⟨fun h3 => ?_, fun h3 => ?_⟩
  · have h3 : 0 < rd.s.length - rd.p := by have h : ((rd.s.length : Int) - rd.p) > 0 := of_decide_eq_true h3
                                           omega
    have hx : Msg.read s = (Msg.no, 6) := by rw [hsp2]; unfold Rdr.fin; rw [if_pos ⟨h2, h3⟩]
    rw [hx]
    conv => whnf
    repeat' (first | exact True.intro | exact rfl | exact ⟨rfl, rfl, .inr rfl, fun _ _ => rfl⟩ | exact ⟨rfl, rfl, .inl rfl, fun i hi => absurd hi (Nat.not_lt_zero _)⟩ | refine And.intro ?_ ?_)
  · have h3 : ¬ 0 < rd.s.length - rd.p := by have h : ¬ ((rd.s.length : Int) - rd.p) > 0 := of_decide_eq_false h3
                                             omega
    have hx : Msg.read s = (Msg.of (IntKind.u16.wrap a.2) (IntKind.u16.wrap b.2) lc la lb ld, 0) := by rw [hsp2]; unfold Rdr.fin; rw [if_neg (fun h => h3 h.2)]
    rw [hx]
    conv => whnf
    repeat' (first | exact True.intro | exact rfl | exact ⟨rfl, rfl, .inr rfl, fun _ _ => rfl⟩ | exact ⟨rfl, rfl, .inl rfl, fun i hi => absurd hi (Nat.not_lt_zero _)⟩ | refine And.intro ?_ ?_)
end Go.Proofs.Ytdphkaiijlekhaa
namespace Go.Proofs.Ytdphkaiijlekhaa
open Go Go.Eng
theorem asks_op (l : List Q) : WOp (fun w => w.asks l) := by
  induction l with
  | nil => exact WOp.id
  | cons q l ih => exact (((name_op q.nm true).comp (num_op 2 q.ty)).comp (num_op 2 q.cl)).comp ih
theorem record_full {w : Wr} {r : RR} (h : (w.record r).1.full = false) : w.full = false := by
  unfold Wr.record at h
  split at h
  · have hsetf : ∀ (a : Wr) (i n : Int), (a.set i n).full = a.full := fun a i n => by unfold Wr.set; split <;> rfl
    exact ((((((name_op r.nm true).comp (num_op 2 r.ty)).comp (num_op 2 r.cl)).comp (num_op 4 r.ttl)).comp (num_op 2 0)).comp (rdata_op r.ty r.d)).full w ((hsetf _ _ _).symm.trans h)
  · exact h
theorem recs_full : ∀ (l : List RR) (w : Wr), (w.recs l).full = false → w.full = false
  | [], _, h => h
  | r :: l, w, h => record_full (recs_full l (w.record r).1 h)
theorem recs_lim : ∀ (l : List RR) (w : Wr), (w.recs l).limit = w.limit
  | [], _ => rfl
  | r :: l, w => (recs_lim l (w.record r).1).trans (record_lim w r)
theorem recs_Ok : ∀ (l : List RR) {w : Wr}, w.Ok → (w.recs l).Ok
  | [], _, h => h
  | r :: l, _, h => recs_Ok l (h.record r)
theorem asks_Ok : ∀ (l : List Q) {w : Wr}, w.Ok → (w.asks l).Ok
  | [], _, h => h
  | q :: l, _, h => asks_Ok l (((h.name q.nm true).num 2 q.ty).num 2 q.cl)
theorem asks_back : ∀ (l : List Q) (w : Wr), (∀ q ∈ l, isName q.nm ∧ q.Ok) → RO w → (w.asks l).full = false →
    RO (w.asks l) ∧ w.buf <+: (w.asks l).buf ∧ ∀ S acc, (w.asks l).buf <+: S → Rdr.qs l.length ⟨S, w.buf.length, false⟩ acc = (⟨S, (w.asks l).buf.length, false⟩, acc ++ l, true)
  | [], w, _, hro, _ => ⟨hro, List.prefix_refl _, fun S acc _ => by show (_, acc, true) = (_, acc ++ [], true); rw [List.append_nil]; rfl⟩
  | q :: l, w, hl, hro, hf => by
    obtain ⟨hn, ho⟩ := hl q (List.mem_cons_self ..)
    obtain ⟨ty, hty⟩ : ∃ n : Nat, q.ty = n := ⟨q.ty.toNat, by have := ho.ty; omega⟩
    obtain ⟨cl, hcl⟩ : ∃ n : Nat, q.cl = n := ⟨q.cl.toNat, by have := ho.cl; omega⟩
    have hty' : ty < 65536 := by have := ho.ty; omega
    have hcl' : cl < 65536 := by have := ho.cl; omega
    have e : w.asks (q :: l) = (((w.name q.nm true).num 2 q.ty).num 2 q.cl).asks l := rfl
    rw [e] at hf ⊢
    have fc := (asks_op l).full _ hf
    have fb := (num_op 2 q.cl).full _ fc
    have fa := (num_op 2 q.ty).full _ fb
    have f0 := (name_op q.nm true).full _ fa
    have fa : (w.name q.nm true).full = false := fa
    have fb : ((w.name q.nm true).num 2 q.ty).full = false := fb
    have fc : (((w.name q.nm true).num 2 q.ty).num 2 q.cl).full = false := fc
    obtain ⟨ra, pa, va⟩ := name_back f0 hro hn true fa
    generalize w.name q.nm true = wa at ra pa va fa fb fc hf ⊢
    rw [hty] at fb fc hf ⊢
    obtain ⟨_, rb, pb, vb⟩ := num_back ra 2 ty (.inl ⟨rfl, hty'⟩) fb
    generalize wa.num 2 (ty : Int) = wb at rb pb vb fb fc hf ⊢
    rw [hcl] at fc hf ⊢
    obtain ⟨_, rc, pc, vc⟩ := num_back rb 2 cl (.inl ⟨rfl, hcl'⟩) fc
    generalize wb.num 2 (cl : Int) = wc at rc pc vc fc hf ⊢
    obtain ⟨rd, pd, vd⟩ := asks_back l wc (fun x hx => hl x (List.mem_cons_of_mem _ hx)) rc hf
    refine ⟨rd, ((pa.trans pb).trans pc).trans pd, fun S acc hS => ?_⟩
    have s3 := pd.trans hS
    have s2 := pc.trans s3
    have s1 := pb.trans s2
    show (if (((Rdr.mk S w.buf.length false).name.1.num 2).1.num 2).1.bad then _ else _) = _
    have va : (Rdr.mk S w.buf.length false).name = (⟨S, wa.buf.length, false⟩, q.nm) := va S s1
    have vb : (Rdr.mk S wa.buf.length false).num 2 = (⟨S, wb.buf.length, false⟩, ty) := vb S s2
    have vc : (Rdr.mk S wb.buf.length false).num 2 = (⟨S, wc.buf.length, false⟩, cl) := vc S s3
    rw [va]
    dsimp only
    rw [vb]
    dsimp only
    rw [vc]
    dsimp only
    rw [if_neg (by simp)]
    have x1 : IntKind.u16.wrap (ty : Int) = q.ty := by rw [IntKind.wrap_u16, hty]; omega
    have x3 : IntKind.u16.wrap (cl : Int) = q.cl := by rw [IntKind.wrap_u16, hcl]; omega
    rw [x1, x3, vd S (acc ++ [q]) hS]
    simp
theorem recs_back : ∀ (l : List RR) (w : Wr), (∀ r ∈ l, r.check = true ∧ r.Ok) → w.Ok → w.limit ≤ 65535 → RO w → (w.recs l).full = false →
    RO (w.recs l) ∧ w.buf <+: (w.recs l).buf ∧ ∀ S acc, (w.recs l).buf <+: S → Rdr.rs l.length ⟨S, w.buf.length, false⟩ acc = (⟨S, (w.recs l).buf.length, false⟩, acc ++ l, 0)
  | [], w, _, _, _, hro, _ => ⟨hro, List.prefix_refl _, fun S acc _ => by show (_, acc, (0 : Int)) = (_, acc ++ [], (0 : Int)); rw [List.append_nil]; rfl⟩
  | r :: l, w, hl, hok, hlim, hro, hf => by
    obtain ⟨hc, ho⟩ := hl r (List.mem_cons_self ..)
    have e : w.recs (r :: l) = (w.record r).1.recs l := rfl
    rw [e] at hf ⊢
    have fa := recs_full l _ hf
    obtain ⟨_, ra, pa, va⟩ := record_back hok hlim hro hc ho fa
    obtain ⟨rd, pd, vd⟩ := recs_back l (w.record r).1 (fun x hx => hl x (List.mem_cons_of_mem _ hx)) (hok.record r) (by rw [record_lim]; exact hlim) ra hf
    refine ⟨rd, pa.trans pd, fun S acc hS => ?_⟩
    show (if (Rdr.mk S w.buf.length false).recd.2.2 ≠ 0 then _ else Rdr.rs l.length (Rdr.mk S w.buf.length false).recd.1 (acc ++ [(Rdr.mk S w.buf.length false).recd.2.1])) = _
    rw [va S (pd.trans hS)]
    dsimp only
    rw [if_neg (by simp), vd S (acc ++ [r]) hS]
    simp
/-- The message, as it is read. -/
def Msg.again (m : Msg) : Msg := Msg.of m.id m.bits m.asks m.says m.heads m.extra
theorem lm_le (limit : Int) : lm limit ≤ 65535 ∧ lm limit ≤ limit := by unfold lm; split <;> omega
theorem msg_back {m : Msg} (hm : m.Ok) {limit : Int} (hlo : -9223372036854775808 ≤ limit) (hc : m.check = true) (hf : (m.last limit).full = false) :
    Msg.read (m.last limit).buf = (m.again, 0) ∧ ((m.last limit).buf.length : Int) ≤ limit := by
  have hcs := hc
  simp only [Msg.check, Bool.and_eq_true, decide_eq_true_eq] at hcs
  obtain ⟨⟨⟨⟨⟨⟨⟨l1, l2⟩, l3⟩, l4⟩, k1⟩, k2⟩, k3⟩, k4⟩ := hcs
  have hl := lm_le limit
  have hw0 : (Wr.mk [] (lm limit) false []).Ok := ⟨by show _ ≤ lm limit; unfold lm; split <;> omega, by show lm limit ≤ _; omega, .inl rfl, fun e he => by cases he⟩
  have hro0 : RO (Wr.mk [] (lm limit) false []) := fun x hx => by cases hx
  have hlim0 : (Wr.mk [] (lm limit) false []).limit = lm limit := rfl
  have hlen0 : (Wr.mk [] (lm limit) false []).buf.length = 0 := rfl
  unfold Msg.last at hf ⊢
  generalize Wr.mk [] (lm limit) false [] = w0 at hw0 hro0 hlim0 hlen0 hf ⊢
  obtain ⟨id, hid⟩ : ∃ n : Nat, m.id = n := ⟨m.id.toNat, by have := hm.id; omega⟩
  obtain ⟨bs, hbs⟩ : ∃ n : Nat, m.bits = n := ⟨m.bits.toNat, by have := hm.bits; omega⟩
  have hid' : id < 65536 := by have := hm.id; omega
  have hbs' : bs < 65536 := by have := hm.bits; omega
  have f9 := recs_full _ _ hf
  have f8 := recs_full _ _ f9
  have f7 := recs_full _ _ f8
  have f6 : (w0.head m).full = false := (asks_op m.asks).full _ f7
  unfold Wr.head at f6 f7 f8 f9 hf ⊢
  rw [hid, hbs] at f6 f7 f8 f9 hf ⊢
  have f5 := (num_op 2 (m.extra.length : Int)).full _ f6
  have f4 := (num_op 2 (m.heads.length : Int)).full _ f5
  have f3 := (num_op 2 (m.says.length : Int)).full _ f4
  have f2 := (num_op 2 (m.asks.length : Int)).full _ f3
  have f1 := (num_op 2 (bs : Int)).full _ f2
  obtain ⟨_, r1, p1, v1⟩ := num_back hro0 2 id (.inl ⟨rfl, hid'⟩) f1
  have o1 := hw0.num 2 (id : Int)
  have m1 := (num_op 2 (id : Int)).lim w0
  have n1 : (w0.num 2 (id : Int)).limit = w0.limit := m1
  generalize w0.num 2 (id : Int) = w1 at *
  obtain ⟨_, r2, p2, v2⟩ := num_back r1 2 bs (.inl ⟨rfl, hbs'⟩) f2
  have o2 := o1.num 2 (bs : Int)
  have n2 : (w1.num 2 (bs : Int)).limit = w1.limit := (num_op 2 (bs : Int)).lim w1
  generalize w1.num 2 (bs : Int) = w2 at *
  obtain ⟨_, r3, p3, v3⟩ := num_back r2 2 m.asks.length (.inl ⟨rfl, by omega⟩) f3
  have o3 := o2.num 2 (m.asks.length : Int)
  have n3 : (w2.num 2 (m.asks.length : Int)).limit = w2.limit := (num_op 2 (m.asks.length : Int)).lim w2
  generalize w2.num 2 (m.asks.length : Int) = w3 at *
  obtain ⟨_, r4, p4, v4⟩ := num_back r3 2 m.says.length (.inl ⟨rfl, by omega⟩) f4
  have o4 := o3.num 2 (m.says.length : Int)
  have n4 : (w3.num 2 (m.says.length : Int)).limit = w3.limit := (num_op 2 (m.says.length : Int)).lim w3
  generalize w3.num 2 (m.says.length : Int) = w4 at *
  obtain ⟨_, r5, p5, v5⟩ := num_back r4 2 m.heads.length (.inl ⟨rfl, by omega⟩) f5
  have o5 := o4.num 2 (m.heads.length : Int)
  have n5 : (w4.num 2 (m.heads.length : Int)).limit = w4.limit := (num_op 2 (m.heads.length : Int)).lim w4
  generalize w4.num 2 (m.heads.length : Int) = w5 at *
  obtain ⟨_, r6, p6, v6⟩ := num_back r5 2 m.extra.length (.inl ⟨rfl, by omega⟩) f6
  have o6 := o5.num 2 (m.extra.length : Int)
  have n6 : (w5.num 2 (m.extra.length : Int)).limit = w5.limit := (num_op 2 (m.extra.length : Int)).lim w5
  have b6 : (w5.num 2 (m.extra.length : Int)).buf = w5.buf ++ be 2 (m.extra.length : Int) := (piece_fit_rests f6).2.1
  generalize w5.num 2 (m.extra.length : Int) = w6 at *
  obtain ⟨r7, p7, v7⟩ := asks_back m.asks w6 (fun q hq => ⟨of_decide_eq_true (List.all_eq_true.mp k1 q hq), hm.asks q hq⟩) r6 f7
  have o7 := asks_Ok m.asks o6
  have n7 : (w6.asks m.asks).limit = w6.limit := (asks_op m.asks).lim w6
  generalize w6.asks m.asks = w7 at *
  have hl7 : w7.limit = lm limit := by rw [n7, n6, n5, n4, n3, n2, n1, hlim0]
  obtain ⟨r8, p8, v8⟩ := recs_back m.says w7 (fun r hr => ⟨List.all_eq_true.mp k2 r hr, hm.says r hr⟩) o7 (by omega) r7 f8
  have o8 := recs_Ok m.says o7
  have n8 := recs_lim m.says w7
  generalize w7.recs m.says = w8 at *
  obtain ⟨r9, p9, v9⟩ := recs_back m.heads w8 (fun r hr => ⟨List.all_eq_true.mp k3 r hr, hm.heads r hr⟩) o8 (by omega) r8 f9
  have o9 := recs_Ok m.heads o8
  have n9 := recs_lim m.heads w8
  generalize w8.recs m.heads = w9 at *
  obtain ⟨_, p10, v10⟩ := recs_back m.extra w9 (fun r hr => ⟨List.all_eq_true.mp k4 r hr, hm.extra r hr⟩) o9 (by omega) r9 hf
  have o10 := recs_Ok m.extra o9
  have n10 := recs_lim m.extra w9
  generalize w9.recs m.extra = w10 at *
  have q9 := p10
  have q8 := p9.trans q9
  have q7 := p8.trans q8
  have q6 := p7.trans q7
  have q5 := p6.trans q6
  have q4 := p5.trans q5
  have q3 := p4.trans q4
  have q2 := p3.trans q3
  have q1 := p2.trans q2
  have g1 := v1 _ q1
  have g2 := v2 _ q2
  have g3 := v3 _ q3
  have g4 := v4 _ q4
  have g5 := v5 _ q5
  have g6 := v6 _ q6
  dsimp only at g1 g2 g3 g4 g5 g6
  rw [hlen0] at g1
  have g7 := v7 _ [] q7
  have g8 := v8 _ [] q8
  have g9 := v9 _ [] q9
  have g10 := v10 _ [] (List.prefix_refl _)
  rw [List.nil_append] at g7 g8 g9 g10
  -- twelve bytes at least
  have pos : ∀ {S : List UInt8} {a b k : Nat}, (Rdr.mk S a false).num 2 = (⟨S, b, false⟩, k) → b = a + 2 ∧ b ≤ S.length := by
    intro S a b k h
    have h1 : ((Rdr.mk S a false).raw ((2 : Nat) : Int)).1 = ⟨S, b, false⟩ := congrArg Prod.fst h
    unfold Rdr.raw at h1
    rw [if_neg (by simp)] at h1
    split at h1
    · have := congrArg Rdr.bad h1
      cases this
    · rename_i hc
      have h2 : a + (((2 : Nat) : Int)).toNat = b := congrArg Rdr.p h1
      rw [Int.toNat_natCast] at h2
      have hc : ¬ (((2 : Nat) : Int) < 0 ∨ ((2 : Nat) : Int) > (S.length : Int) - a) := hc
      omega
  have t1 := pos g1
  have t2 := pos g2
  have t3 := pos g3
  have t4 := pos g4
  have t5 := pos g5
  have t6 := pos g6
  have h12 : 12 ≤ w10.buf.length := by omega
  constructor
  · unfold Msg.read
    rw [if_neg (by omega)]
    rw [g1]
    dsimp only
    rw [g2]
    dsimp only
    rw [g3]
    dsimp only
    rw [g4]
    dsimp only
    rw [g5]
    dsimp only
    rw [g6]
    dsimp only
    unfold Rdr.rest
    rw [if_neg (by omega), g7]
    dsimp only
    rw [if_neg (by simp)]
    unfold Rdr.sec
    rw [g8]
    dsimp only
    rw [if_neg (by simp), g9]
    dsimp only
    rw [if_neg (by simp), g10]
    dsimp only
    rw [if_neg (by simp)]
    unfold Rdr.fin
    rw [if_neg (by simp)]
    have x1 : IntKind.u16.wrap (id : Int) = m.id := by rw [IntKind.wrap_u16, hid]; omega
    have x2 : IntKind.u16.wrap (bs : Int) = m.bits := by rw [IntKind.wrap_u16, hbs]; omega
    rw [x1, x2]
    rfl
  · have := o10.len
    rw [n10, n9, n8, hl7] at this
    omega
end Go.Proofs.Ytdphkaiijlekhaa
namespace Go.Proofs.Ytdphkaiijlekhaa
open Go Go.Eng
set_option maxRecDepth 100000 in
set_option maxHeartbeats 4000000 in
theorem qclone_ok (y : Bool) (a : List Q) (h : y = true → a = []) (ha : a.length ≤ 1000000) : FnOk Try.prog 90 [.d (qsD y a)] (.d (qsD y a)) := by
  refine fnOk_of_run (TT := TT) (IN := lookI []) TT_ok INok_nil mixed 1000 Try.func90 rfl (enters Try.func90 (by kernel_rfl) rfl) rfl 7 (by kernel_rfl) ?_
  conv => whnf
  refine ⟨fun h1 => ?_, fun h1 => ?_⟩
  · have h1 : y = true := h1
    rw [h h1, h1]
    conv => whnf
    exact ⟨rfl, rfl, .inl rfl, fun i hi => absurd hi (Nat.not_lt_zero _)⟩
  · have h1 : y = false := h1
    rw [h1]
    conv => whnf
    refine ⟨by omega, ?_⟩
    conv => whnf
    refine ⟨rfl, Nat.zero_add _, .inr rfl, fun i hi => ?_⟩
    unfold catF
    rw [if_neg (Nat.not_lt_zero _), Nat.sub_zero]
end Go.Proofs.Ytdphkaiijlekhaa
namespace Go.Proofs.Ytdphkaiijlekhaa
open Go Go.Eng
def Msg.reply (m : Msg) (code : Int) : Msg := ⟨m.id, Go.bits BinOp.or IntKind.u16 (Go.bits BinOp.and IntKind.u16 m.bits 30976) (Go.bits BinOp.or IntKind.u16 32768 (IntKind.u16.wrap (Go.bits BinOp.and IntKind.i64 code 15))), m.za, m.asks, true, [], true, [], true, []⟩
set_option maxRecDepth 100000 in
set_option maxHeartbeats 4000000 in
theorem reply_ok (m : Msg) (code : Int) (h : m.za = true → m.asks = []) (ha : m.asks.length ≤ 1000000) : FnOk Try.prog 44 [.agg m.cells, .d (.int .i64 code)] (.agg (m.reply code).cells) := by
  refine fnOk_of_run (TT := TT) (IN := lookI []) TT_ok INok_nil mixed 1000 Try.func44 rfl (enters Try.func44 (by kernel_rfl) rfl) rfl 20 (by kernel_rfl) ?_
  conv => whnf
  refine .data _ (qclone_ok m.za m.asks h ha) rfl rfl ?_
  conv => whnf
  repeat' (first | exact True.intro | exact rfl | exact ⟨rfl, rfl, .inr rfl, fun _ _ => rfl⟩ | exact ⟨rfl, rfl, .inl rfl, fun i hi => absurd hi (Nat.not_lt_zero _)⟩ | refine And.intro ?_ ?_)
end Go.Proofs.Ytdphkaiijlekhaa
namespace Go.Proofs.Ytdphkaiijlekhaa
open Go Go.Eng
def Msg.code (m : Msg) : Int := IntKind.i64.wrap (Go.bits BinOp.and IntKind.u16 m.bits 15)
theorem code_ok (m : Msg) : FnOk Try.prog 41 [.agg m.cells] (.d (.int .i64 m.code)) := by
  refine fnOk_of_run (TT := TT) (IN := lookI []) TT_ok INok_nil mixed 1000 Try.func41 rfl (enters Try.func41 (by kernel_rfl) rfl) rfl 6 (by kernel_rfl) ?_
  conv => whnf
  exact rfl
def Msg.op (m : Msg) : Int := (IntKind.i64.wrap (Go.bits BinOp.and IntKind.u16 m.bits 30720)).fdiv (2 ^ 11)
theorem op_ok (m : Msg) : FnOk Try.prog 42 [.agg m.cells] (.d (.int .i64 m.op)) := by
  refine fnOk_of_run (TT := TT) (IN := lookI []) TT_ok INok_nil mixed 1000 Try.func42 rfl (enters Try.func42 (by kernel_rfl) rfl) rfl 7 (by kernel_rfl) ?_
  conv => whnf
  refine ⟨by decide, ?_⟩
  conv => whnf
  exact rfl
end Go.Proofs.Ytdphkaiijlekhaa
namespace Go.Proofs.Ytdphkaiijlekhaa
open Go Go.Eng
def eqQ (a b : Q) : Bool := a.nm == b.nm && (a.ty == b.ty && a.cl == b.cl)
def qsEq : List Q → List Q → Bool
  | [], [] => true
  | a :: l, b :: m => eqQ a b && qsEq l m
  | _, _ => false
theorem qsEq_len {a b : List Q} (h : a.length ≠ b.length) : qsEq a b = false := by
  induction a generalizing b with
  | nil => cases b with
    | nil => exact absurd rfl h
    | cons x b => rfl
  | cons x a ih => cases b with
    | nil => rfl
    | cons y b => unfold qsEq; rw [ih (by simpa using h)]; simp
set_option maxRecDepth 100000 in
set_option maxHeartbeats 4000000 in
theorem qeq_ok (y z : Bool) (a b : List Q) (ha : a.length < 4611686018427387904) (hb : b.length < 4611686018427387904) : FnOk Try.prog 88 [.d (qsD y a), .d (qsD z b)] (.d (.bool (qsEq a b))) := by
  refine fnOk_of_run (TT := TT) (IN := lookI []) TT_ok INok_nil mixed 1000 Try.func88 rfl (enters Try.func88 (by kernel_rfl) rfl) rfl 24 (by kernel_rfl) ?_
  conv => whnf
  refine ⟨fun h1 => ?_, fun h1 => ?_⟩
  · have h : a.length ≠ b.length := by intro e; rw [e] at h1; simp at h1
    rw [qsEq_len h]
    conv => whnf
    first | done | exact rfl
  have hl : a.length = b.length := by simp at h1; omega
  conv => whnf
  refine .inv Nat (fun i => i ≤ a.length ∧ qsEq (a.drop i) (b.drop i) = qsEq a b) (fun i => [(13, .d (.int .i64 i))]) (fun _ => []) (fun i => a.length - i) ⟨0, [], ⟨Nat.zero_le _, rfl⟩, ?_⟩ ?_
  · conv => whnf
    repeat' (first | exact True.intro | exact rfl | exact fun _ => Iff.rfl | exact fun _ _ => rfl | exact renM_ent rfl _ | refine And.intro ?_ ?_)
  rintro i ⟨hi, hrest⟩
  conv => whnf
  refine ⟨fun c5 => ?_, fun c5 => ?_⟩
  · have c5' : i < a.length := (by have h : (i : Int) < a.length := of_decide_eq_true c5; omega)
    conv => whnf
    refine ⟨by omega, ?_⟩
    conv => whnf
    refine ⟨by omega, ?_⟩
    conv => whnf
    obtain ⟨q, hq⟩ : ∃ q, a.getD i default = q := ⟨_, rfl⟩
    obtain ⟨r, hr⟩ : ∃ r, b.getD i default = r := ⟨_, rfl⟩
    rw [Int.toNat_natCast, hq, hr]
    have hda : a.drop i = q :: a.drop (i + 1) := by
      rw [List.drop_eq_getElem_cons c5', ← hq, List.getD, List.getElem?_eq_getElem c5']
      rfl
    have hdb : b.drop i = r :: b.drop (i + 1) := by
      rw [List.drop_eq_getElem_cons (by omega), ← hr, List.getD, List.getElem?_eq_getElem (by omega)]
      rfl
    have hst : (eqQ q r && qsEq (a.drop (i + 1)) (b.drop (i + 1))) = qsEq a b := by rw [← hrest, hda, hdb]; rfl
    have hqr : (q.nm == r.nm && (q.ty == r.ty && (q.cl == r.cl && true))) = eqQ q r := by unfold eqQ; rw [Bool.and_true]
    rw [hqr]
    cases he : eqQ q r
    · rw [he, Bool.false_and] at hst
      rw [← hst]
      refine brT rfl ?_
      conv => whnf
      first | done | exact rfl
    · rw [he, Bool.true_and] at hst
      refine brF rfl ?_
      conv => whnf
      have hw1 : IntKind.i64.wrap ((i : Int) + 1) = ((i + 1 : Nat) : Int) := by rw [w64_in _ (by omega)]; omega
      refine ⟨i + 1, [], ⟨c5', hst⟩, by omega, ?_⟩
      conv => whnf
      rw [hw1]
      repeat' (first | exact True.intro | exact rfl | exact fun _ => Iff.rfl | exact fun _ _ => rfl | exact renM_ent rfl _ | refine And.intro ?_ ?_)
  have hia : i = a.length := (by have h : ¬ (i : Int) < a.length := of_decide_eq_false c5; omega)
  rw [List.drop_of_length_le (by omega), List.drop_of_length_le (by omega)] at hrest
  rw [← hrest]
  conv => whnf
  exact rfl
def eqR (a b : RR) : Bool := a.nm == b.nm && (a.ty == b.ty && (a.cl == b.cl && (a.ttl == b.ttl && a.d == b.d)))
def rsEq : List RR → List RR → Bool
  | [], [] => true
  | a :: l, b :: m => eqR a b && rsEq l m
  | _, _ => false
theorem rsEq_len {a b : List RR} (h : a.length ≠ b.length) : rsEq a b = false := by
  induction a generalizing b with
  | nil => cases b with
    | nil => exact absurd rfl h
    | cons x b => rfl
  | cons x a ih => cases b with
    | nil => rfl
    | cons y b => unfold rsEq; rw [ih (by simpa using h)]; simp
set_option maxRecDepth 100000 in
set_option maxHeartbeats 4000000 in
theorem req_ok (y z : Bool) (a b : List RR) (ha : a.length < 4611686018427387904) (hb : b.length < 4611686018427387904) : FnOk Try.prog 89 [.d (rrsD y a), .d (rrsD z b)] (.d (.bool (rsEq a b))) := by
  refine fnOk_of_run (TT := TT) (IN := lookI []) TT_ok INok_nil mixed 1000 Try.func89 rfl (enters Try.func89 (by kernel_rfl) rfl) rfl 24 (by kernel_rfl) ?_
  conv => whnf
  refine ⟨fun h1 => ?_, fun h1 => ?_⟩
  · have h : a.length ≠ b.length := by intro e; rw [e] at h1; simp at h1
    rw [rsEq_len h]
    conv => whnf
    first | done | exact rfl
  have hl : a.length = b.length := by simp at h1; omega
  conv => whnf
  refine .inv Nat (fun i => i ≤ a.length ∧ rsEq (a.drop i) (b.drop i) = rsEq a b) (fun i => [(13, .d (.int .i64 i))]) (fun _ => []) (fun i => a.length - i) ⟨0, [], ⟨Nat.zero_le _, rfl⟩, ?_⟩ ?_
  · conv => whnf
    repeat' (first | exact True.intro | exact rfl | exact fun _ => Iff.rfl | exact fun _ _ => rfl | exact renM_ent rfl _ | refine And.intro ?_ ?_)
  rintro i ⟨hi, hrest⟩
  conv => whnf
  refine ⟨fun c5 => ?_, fun c5 => ?_⟩
  · have c5' : i < a.length := (by have h : (i : Int) < a.length := of_decide_eq_true c5; omega)
    conv => whnf
    refine ⟨by omega, ?_⟩
    conv => whnf
    refine ⟨by omega, ?_⟩
    conv => whnf
    obtain ⟨q, hq⟩ : ∃ q, a.getD i default = q := ⟨_, rfl⟩
    obtain ⟨r, hr⟩ : ∃ r, b.getD i default = r := ⟨_, rfl⟩
    rw [Int.toNat_natCast, hq, hr]
    have hda : a.drop i = q :: a.drop (i + 1) := by
      rw [List.drop_eq_getElem_cons c5', ← hq, List.getD, List.getElem?_eq_getElem c5']
      rfl
    have hdb : b.drop i = r :: b.drop (i + 1) := by
      rw [List.drop_eq_getElem_cons (by omega), ← hr, List.getD, List.getElem?_eq_getElem (by omega)]
      rfl
    have hst : (eqR q r && rsEq (a.drop (i + 1)) (b.drop (i + 1))) = rsEq a b := by rw [← hrest, hda, hdb]; rfl
    have hqr : (q.nm == r.nm && (q.ty == r.ty && (q.cl == r.cl && (q.ttl == r.ttl && (q.d == r.d && true))))) = eqR q r := by unfold eqR; rw [Bool.and_true]
    rw [hqr]
    cases he : eqR q r
    · rw [he, Bool.false_and] at hst
      rw [← hst]
      refine brT rfl ?_
      conv => whnf
      first | done | exact rfl
    · rw [he, Bool.true_and] at hst
      refine brF rfl ?_
      conv => whnf
      have hw1 : IntKind.i64.wrap ((i : Int) + 1) = ((i + 1 : Nat) : Int) := by rw [w64_in _ (by omega)]; omega
      refine ⟨i + 1, [], ⟨c5', hst⟩, by omega, ?_⟩
      conv => whnf
      rw [hw1]
      repeat' (first | exact True.intro | exact rfl | exact fun _ => Iff.rfl | exact fun _ _ => rfl | exact renM_ent rfl _ | refine And.intro ?_ ?_)
  have hia : i = a.length := (by have h : ¬ (i : Int) < a.length := of_decide_eq_false c5; omega)
  rw [List.drop_of_length_le (by omega), List.drop_of_length_le (by omega)] at hrest
  rw [← hrest]
  conv => whnf
  exact rfl
end Go.Proofs.Ytdphkaiijlekhaa
namespace Go.Proofs.Ytdphkaiijlekhaa
open Go Go.Eng
def Msg.same (m k : Msg) : Bool := m.id == k.id && (m.bits == k.bits && (qsEq m.asks k.asks && (rsEq m.says k.says && (rsEq m.heads k.heads && rsEq m.extra k.extra))))
structure Msg.Len (m : Msg) : Prop where
  asks : m.asks.length < 4611686018427387904
  says : m.says.length < 4611686018427387904
  heads : m.heads.length < 4611686018427387904
  extra : m.extra.length < 4611686018427387904
set_option linter.unusedSimpArgs false in
set_option maxRecDepth 100000 in
set_option maxHeartbeats 4000000 in
theorem same_ok (m k : Msg) (hm : m.Len) (hk : k.Len) : FnOk Try.prog 43 [.agg m.cells, .agg k.cells] (.d (.bool (m.same k))) := by
  refine fnOk_of_run (TT := TT) (IN := lookI []) TT_ok INok_nil mixed 1000 Try.func43 rfl (enters Try.func43 (by kernel_rfl) rfl) rfl 43 (by kernel_rfl) ?_
  conv => whnf
  refine ⟨fun c0 => ?_, fun c0 => ?_⟩
  rotate_left
  · have e : m.same k = false := by simp only [Msg.same, c0, Bool.true_and, Bool.false_and, Bool.and_false]
    rw [e]
    conv => whnf
    first | done | exact rfl
  conv => whnf
  refine ⟨fun c1 => ?_, fun c1 => ?_⟩
  rotate_left
  · have e : m.same k = false := by simp only [Msg.same, c0, c1, Bool.true_and, Bool.false_and, Bool.and_false]
    rw [e]
    conv => whnf
    first | done | exact rfl
  conv => whnf
  refine .one (.data _ (qeq_ok m.za k.za m.asks k.asks hm.asks hk.asks) rfl rfl ?_)
  conv => whnf
  refine ⟨fun c2 => ?_, fun c2 => ?_⟩
  rotate_left
  · have e : m.same k = false := by simp only [Msg.same, c0, c1, c2, Bool.true_and, Bool.false_and, Bool.and_false]
    rw [e]
    conv => whnf
    first | done | exact rfl
  conv => whnf
  refine .one (.data _ (req_ok m.zs k.zs m.says k.says hm.says hk.says) rfl rfl ?_)
  conv => whnf
  refine ⟨fun c3 => ?_, fun c3 => ?_⟩
  rotate_left
  · have e : m.same k = false := by simp only [Msg.same, c0, c1, c2, c3, Bool.true_and, Bool.false_and, Bool.and_false]
    rw [e]
    conv => whnf
    first | done | exact rfl
  conv => whnf
  refine .one (.data _ (req_ok m.zh k.zh m.heads k.heads hm.heads hk.heads) rfl rfl ?_)
  conv => whnf
  refine ⟨fun c4 => ?_, fun c4 => ?_⟩
  rotate_left
  · have e : m.same k = false := by simp only [Msg.same, c0, c1, c2, c3, c4, Bool.true_and, Bool.false_and, Bool.and_false]
    rw [e]
    conv => whnf
    first | done | exact rfl
  conv => whnf
  refine .one (.data _ (req_ok m.ze k.ze m.extra k.extra hm.extra hk.extra) rfl rfl ?_)
  have e : m.same k = rsEq m.extra k.extra := by simp only [Msg.same, c0, c1, c2, c3, c4, Bool.true_and]
  rw [e]
  conv => whnf
  first | done | exact rfl
end Go.Proofs.Ytdphkaiijlekhaa
namespace Go.Proofs.Ytdphkaiijlekhaa
open Go Go.Eng
def headOf (s : List UInt8) : Int × Int × Int :=
  if s.length < 12 then (0, 0, 5) else
  let a := (Rdr.mk s 0 false).num 2
  (IntKind.u16.wrap a.2, IntKind.u16.wrap (a.1.num 2).2, 0)
set_option maxRecDepth 100000 in
set_option maxHeartbeats 4000000 in
theorem mhead_ok (s : List UInt8) (hs : s.length < 4611686018427387904) : FnOk Try.prog 76 [.d (.str s)] (.tup [.d (.int .u16 (headOf s).1), .d (.int .u16 (headOf s).2.1), .d (.int .i64 (headOf s).2.2)]) := by
  refine fnOk_of_run (TT := TT) (IN := lookI []) TT_ok INok_nil mixed 1000 Try.func76 rfl (enters Try.func76 (by kernel_rfl) rfl) rfl 18 (by kernel_rfl) ?_
  conv => whnf
  refine ⟨fun h1 => ?_, fun h1 => ?_⟩
  · have h : s.length < 12 := by have h : (s.length : Int) < 12 := of_decide_eq_true h1
                                 omega
    have e : headOf s = (0, 0, 5) := by unfold headOf; rw [if_pos h]
    rw [e]
    conv => whnf
    exact ⟨rfl, rfl, rfl, True.intro⟩
  have h : ¬ s.length < 12 := by have h : ¬ (s.length : Int) < 12 := of_decide_eq_false h1
                                 omega
  have e : headOf s = (IntKind.u16.wrap ((Rdr.mk s 0 false).num 2).2, IntKind.u16.wrap (((Rdr.mk s 0 false).num 2).1.num 2).2, 0) := by unfold headOf; rw [if_neg h]
  rw [e]
  have hr : (Rdr.mk s 0 false).Ok := ⟨hs, Nat.zero_le _⟩
  conv => whnf
  refine .rel _ (open_ok s) (fun x ks' hR => ?_)
  obtain ⟨rfl, rfl⟩ := hR
  conv => whnf
  refine .rel _ (rdr_fam (rnum_ok ⟨s, 0, false⟩ hr 2 (.inr (.inl rfl))) [] [] _ rfl rfl) (fun x ks' hR => ?_)
  obtain ⟨_, q, ⟨rfl, rfl⟩, rfl, rfl⟩ := hR
  have ha := hr.num 2
  generalize (Rdr.mk s 0 false).num 2 = a at ha ⊢
  conv => whnf
  refine .rel _ (rdr_fam (rnum_ok a.1 ha 2 (.inr (.inl rfl))) [] [] _ rfl rfl) (fun x ks' hR => ?_)
  obtain ⟨_, q, ⟨rfl, rfl⟩, rfl, rfl⟩ := hR
  conv => whnf
  exact ⟨rfl, rfl, rfl, True.intro⟩
end Go.Proofs.Ytdphkaiijlekhaa
namespace Go.Proofs.Ytdphkaiijlekhaa
open Go Go.Eng
def smallR (r : RR) : Bool := decide (r.d.length ≤ 5000) && decide (r.nm.length ≤ 1000)
def smallQ (q : Q) : Bool := decide (q.nm.length ≤ 1000)
def Msg.few (m : Msg) : Bool := decide (m.asks.length ≤ 20) && decide (m.says.length ≤ 20) && decide (m.heads.length ≤ 20) && decide (m.extra.length ≤ 20)
def Msg.small (m : Msg) : Bool := m.few && (m.says.all smallR && (m.heads.all smallR && (m.extra.all smallR && m.asks.all smallQ)))
set_option maxRecDepth 100000 in
set_option maxHeartbeats 16000000 in
theorem small_ok (m : Msg) : FnOk Try.prog 33 [.agg m.cells] (.d (.int .i64 (if m.small then 1 else 0))) := by
  refine fnOk_of_run (TT := TT) (IN := lookI []) TT_ok INok_nil mixed 1000 Try.func33 rfl (enters Try.func33 (by kernel_rfl) rfl) rfl 72 (by kernel_rfl) ?_
  have no : m.few = false → m.small = false := fun h => by unfold Msg.small; rw [h]; rfl
  conv => whnf
  refine ⟨fun h1 => ?_, fun h1 => ?_⟩
  · have h1 : (m.asks.length : Int) > 20 := of_decide_eq_true h1
    rw [no (by unfold Msg.few; rw [decide_eq_false (p := m.asks.length ≤ 20) (by omega)]; simp)]
    conv => whnf
    exact rfl
  have casks : ¬ (m.asks.length : Int) > 20 := of_decide_eq_false h1
  clear h1
  conv => whnf
  refine ⟨fun h1 => ?_, fun h1 => ?_⟩
  · have h1 : (m.says.length : Int) > 20 := of_decide_eq_true h1
    rw [no (by unfold Msg.few; rw [decide_eq_false (p := m.says.length ≤ 20) (by omega)]; simp)]
    conv => whnf
    exact rfl
  have csays : ¬ (m.says.length : Int) > 20 := of_decide_eq_false h1
  clear h1
  conv => whnf
  refine ⟨fun h1 => ?_, fun h1 => ?_⟩
  · have h1 : (m.heads.length : Int) > 20 := of_decide_eq_true h1
    rw [no (by unfold Msg.few; rw [decide_eq_false (p := m.heads.length ≤ 20) (by omega)]; simp)]
    conv => whnf
    exact rfl
  have cheads : ¬ (m.heads.length : Int) > 20 := of_decide_eq_false h1
  clear h1
  conv => whnf
  refine ⟨fun h1 => ?_, fun h1 => ?_⟩
  · have h1 : (m.extra.length : Int) > 20 := of_decide_eq_true h1
    rw [no (by unfold Msg.few; rw [decide_eq_false (p := m.extra.length ≤ 20) (by omega)]; simp)]
    conv => whnf
    exact rfl
  have cextra : ¬ (m.extra.length : Int) > 20 := of_decide_eq_false h1
  clear h1
  conv => whnf
  refine .once ?_
  conv => whnf
  refine brT rfl ?_
  conv => whnf
  refine ⟨by decide, ?_⟩
  conv => whnf
  refine .inv Nat (fun i => i ≤ m.says.length ∧ (m.says.take i).all smallR = true) (fun i => [(45, .d (.int .i64 i))]) (fun _ => []) (fun i => m.says.length - i) ⟨0, [0, 1], ⟨Nat.zero_le _, rfl⟩, ?_⟩ ?_
  · conv => whnf
    repeat' (first | exact True.intro | exact rfl | exact fun _ => Iff.rfl | exact fun _ _ => rfl | exact renM_ent rfl _ | refine And.intro ?_ ?_)
  rintro i ⟨hi, hall⟩
  conv => whnf
  refine ⟨fun c5 => ?_, fun c5 => ?_⟩
  · have c5' : i < m.says.length := (by have h : (i : Int) < m.says.length := of_decide_eq_true c5; omega)
    obtain ⟨q, hq⟩ : ∃ q, m.says.getD i default = q := ⟨_, rfl⟩
    have hq2 : m.says[i]? = some q := by rw [← hq, List.getD, List.getElem?_eq_getElem c5']; rfl
    have htk : m.says.take (i + 1) = m.says.take i ++ [q] := by rw [List.take_add_one, hq2]; rfl
    have bad : smallR q = false → m.small = false := fun h => by
      have : m.says.all smallR = false := by
        rw [List.all_eq_false]
        exact ⟨q, List.mem_of_getElem? hq2, by simp [h]⟩
      simp only [Msg.small, this, Bool.and_false, Bool.false_and]
    conv => whnf
    refine ⟨by omega, ?_⟩
    conv => whnf
    rw [Int.toNat_natCast, hq]
    refine ⟨fun h1 => ?_, fun h1 => ?_⟩
    · have h1 : (q.d.length : Int) > 5000 := of_decide_eq_true h1
      rw [bad (by unfold smallR; rw [decide_eq_false (p := q.d.length ≤ 5000) (by omega)]; simp)]
      conv => whnf
      exact rfl
    have h1 : ¬ (q.d.length : Int) > 5000 := of_decide_eq_false h1
    conv => whnf
    refine ⟨fun h2 => ?_, fun h2 => ?_⟩
    · have h2 : (q.nm.length : Int) > 1000 := of_decide_eq_true h2
      rw [bad (by unfold smallR; rw [decide_eq_false (p := q.nm.length ≤ 1000) (by omega)]; simp)]
      conv => whnf
      exact rfl
    have h2 : ¬ (q.nm.length : Int) > 1000 := of_decide_eq_false h2
    conv => whnf
    have hw1 : IntKind.i64.wrap ((i : Int) + 1) = ((i + 1 : Nat) : Int) := by rw [w64_in _ (by omega)]; omega
    refine ⟨i + 1, [0, 1], ⟨c5', by rw [htk, List.all_append, hall]; simp only [List.all_cons, List.all_nil, smallR, Bool.and_true, Bool.true_and, Bool.and_eq_true, decide_eq_true_eq]; omega⟩, by omega, ?_⟩
    conv => whnf
    rw [hw1]
    repeat' (first | exact True.intro | exact rfl | exact fun _ => Iff.rfl | exact fun _ _ => rfl | exact renM_ent rfl _ | refine And.intro ?_ ?_)
  have ssays : m.says.all smallR = true := by
    have : ¬ i < m.says.length := (by have h : ¬ (i : Int) < m.says.length := of_decide_eq_false c5; omega)
    rwa [List.take_of_length_le (by omega)] at hall
  clear hall hi c5
  conv => whnf
  refine .once ?_
  conv => whnf
  refine brT rfl ?_
  conv => whnf
  refine ⟨by decide, ?_⟩
  conv => whnf
  refine .inv Nat (fun i => i ≤ m.heads.length ∧ (m.heads.take i).all smallR = true) (fun i => [(45, .d (.int .i64 i))]) (fun _ => []) (fun i => m.heads.length - i) ⟨0, [0, 1], ⟨Nat.zero_le _, rfl⟩, ?_⟩ ?_
  · conv => whnf
    repeat' (first | exact True.intro | exact rfl | exact fun _ => Iff.rfl | exact fun _ _ => rfl | exact renM_ent rfl _ | refine And.intro ?_ ?_)
  rintro i ⟨hi, hall⟩
  conv => whnf
  refine ⟨fun c5 => ?_, fun c5 => ?_⟩
  · have c5' : i < m.heads.length := (by have h : (i : Int) < m.heads.length := of_decide_eq_true c5; omega)
    obtain ⟨q, hq⟩ : ∃ q, m.heads.getD i default = q := ⟨_, rfl⟩
    have hq2 : m.heads[i]? = some q := by rw [← hq, List.getD, List.getElem?_eq_getElem c5']; rfl
    have htk : m.heads.take (i + 1) = m.heads.take i ++ [q] := by rw [List.take_add_one, hq2]; rfl
    have bad : smallR q = false → m.small = false := fun h => by
      have : m.heads.all smallR = false := by
        rw [List.all_eq_false]
        exact ⟨q, List.mem_of_getElem? hq2, by simp [h]⟩
      simp only [Msg.small, this, Bool.and_false, Bool.false_and]
    conv => whnf
    refine ⟨by omega, ?_⟩
    conv => whnf
    rw [Int.toNat_natCast, hq]
    refine ⟨fun h1 => ?_, fun h1 => ?_⟩
    · have h1 : (q.d.length : Int) > 5000 := of_decide_eq_true h1
      rw [bad (by unfold smallR; rw [decide_eq_false (p := q.d.length ≤ 5000) (by omega)]; simp)]
      conv => whnf
      exact rfl
    have h1 : ¬ (q.d.length : Int) > 5000 := of_decide_eq_false h1
    conv => whnf
    refine ⟨fun h2 => ?_, fun h2 => ?_⟩
    · have h2 : (q.nm.length : Int) > 1000 := of_decide_eq_true h2
      rw [bad (by unfold smallR; rw [decide_eq_false (p := q.nm.length ≤ 1000) (by omega)]; simp)]
      conv => whnf
      exact rfl
    have h2 : ¬ (q.nm.length : Int) > 1000 := of_decide_eq_false h2
    conv => whnf
    have hw1 : IntKind.i64.wrap ((i : Int) + 1) = ((i + 1 : Nat) : Int) := by rw [w64_in _ (by omega)]; omega
    refine ⟨i + 1, [0, 1], ⟨c5', by rw [htk, List.all_append, hall]; simp only [List.all_cons, List.all_nil, smallR, Bool.and_true, Bool.true_and, Bool.and_eq_true, decide_eq_true_eq]; omega⟩, by omega, ?_⟩
    conv => whnf
    rw [hw1]
    repeat' (first | exact True.intro | exact rfl | exact fun _ => Iff.rfl | exact fun _ _ => rfl | exact renM_ent rfl _ | refine And.intro ?_ ?_)
  have sheads : m.heads.all smallR = true := by
    have : ¬ i < m.heads.length := (by have h : ¬ (i : Int) < m.heads.length := of_decide_eq_false c5; omega)
    rwa [List.take_of_length_le (by omega)] at hall
  clear hall hi c5
  conv => whnf
  refine .once ?_
  conv => whnf
  refine brT rfl ?_
  conv => whnf
  refine ⟨by decide, ?_⟩
  conv => whnf
  refine .inv Nat (fun i => i ≤ m.extra.length ∧ (m.extra.take i).all smallR = true) (fun i => [(45, .d (.int .i64 i))]) (fun _ => []) (fun i => m.extra.length - i) ⟨0, [0, 1], ⟨Nat.zero_le _, rfl⟩, ?_⟩ ?_
  · conv => whnf
    repeat' (first | exact True.intro | exact rfl | exact fun _ => Iff.rfl | exact fun _ _ => rfl | exact renM_ent rfl _ | refine And.intro ?_ ?_)
  rintro i ⟨hi, hall⟩
  conv => whnf
  refine ⟨fun c5 => ?_, fun c5 => ?_⟩
  · have c5' : i < m.extra.length := (by have h : (i : Int) < m.extra.length := of_decide_eq_true c5; omega)
    obtain ⟨q, hq⟩ : ∃ q, m.extra.getD i default = q := ⟨_, rfl⟩
    have hq2 : m.extra[i]? = some q := by rw [← hq, List.getD, List.getElem?_eq_getElem c5']; rfl
    have htk : m.extra.take (i + 1) = m.extra.take i ++ [q] := by rw [List.take_add_one, hq2]; rfl
    have bad : smallR q = false → m.small = false := fun h => by
      have : m.extra.all smallR = false := by
        rw [List.all_eq_false]
        exact ⟨q, List.mem_of_getElem? hq2, by simp [h]⟩
      simp only [Msg.small, this, Bool.and_false, Bool.false_and]
    conv => whnf
    refine ⟨by omega, ?_⟩
    conv => whnf
    rw [Int.toNat_natCast, hq]
    refine ⟨fun h1 => ?_, fun h1 => ?_⟩
    · have h1 : (q.d.length : Int) > 5000 := of_decide_eq_true h1
      rw [bad (by unfold smallR; rw [decide_eq_false (p := q.d.length ≤ 5000) (by omega)]; simp)]
      conv => whnf
      exact rfl
    have h1 : ¬ (q.d.length : Int) > 5000 := of_decide_eq_false h1
    conv => whnf
    refine ⟨fun h2 => ?_, fun h2 => ?_⟩
    · have h2 : (q.nm.length : Int) > 1000 := of_decide_eq_true h2
      rw [bad (by unfold smallR; rw [decide_eq_false (p := q.nm.length ≤ 1000) (by omega)]; simp)]
      conv => whnf
      exact rfl
    have h2 : ¬ (q.nm.length : Int) > 1000 := of_decide_eq_false h2
    conv => whnf
    have hw1 : IntKind.i64.wrap ((i : Int) + 1) = ((i + 1 : Nat) : Int) := by rw [w64_in _ (by omega)]; omega
    refine ⟨i + 1, [0, 1], ⟨c5', by rw [htk, List.all_append, hall]; simp only [List.all_cons, List.all_nil, smallR, Bool.and_true, Bool.true_and, Bool.and_eq_true, decide_eq_true_eq]; omega⟩, by omega, ?_⟩
    conv => whnf
    rw [hw1]
    repeat' (first | exact True.intro | exact rfl | exact fun _ => Iff.rfl | exact fun _ _ => rfl | exact renM_ent rfl _ | refine And.intro ?_ ?_)
  have sextra : m.extra.all smallR = true := by
    have : ¬ i < m.extra.length := (by have h : ¬ (i : Int) < m.extra.length := of_decide_eq_false c5; omega)
    rwa [List.take_of_length_le (by omega)] at hall
  clear hall hi c5
  conv => whnf
  refine .once ?_
  conv => whnf
  refine brF rfl ?_
  conv => whnf
  refine .inv Nat (fun i => i ≤ m.asks.length ∧ (m.asks.take i).all smallQ = true) (fun i => [(64, .d (.int .i64 i))]) (fun _ => []) (fun i => m.asks.length - i) ⟨0, [0, 1], ⟨Nat.zero_le _, rfl⟩, ?_⟩ ?_
  · conv => whnf
    repeat' (first | exact True.intro | exact rfl | exact fun _ => Iff.rfl | exact fun _ _ => rfl | exact renM_ent rfl _ | refine And.intro ?_ ?_)
  rintro i ⟨hi, hall⟩
  conv => whnf
  refine ⟨fun c5 => ?_, fun c5 => ?_⟩
  · have c5' : i < m.asks.length := (by have h : (i : Int) < m.asks.length := of_decide_eq_true c5; omega)
    obtain ⟨q, hq⟩ : ∃ q, m.asks.getD i default = q := ⟨_, rfl⟩
    have hq2 : m.asks[i]? = some q := by rw [← hq, List.getD, List.getElem?_eq_getElem c5']; rfl
    have htk : m.asks.take (i + 1) = m.asks.take i ++ [q] := by rw [List.take_add_one, hq2]; rfl
    conv => whnf
    refine ⟨by omega, ?_⟩
    conv => whnf
    rw [Int.toNat_natCast, hq]
    refine ⟨fun h1 => ?_, fun h1 => ?_⟩
    · have h1 : (q.nm.length : Int) > 1000 := of_decide_eq_true h1
      have : m.small = false := by
        have : m.asks.all smallQ = false := by
          rw [List.all_eq_false]
          exact ⟨q, List.mem_of_getElem? hq2, by unfold smallQ; rw [decide_eq_false (by omega)]; simp⟩
        simp only [Msg.small, this, Bool.and_false]
      rw [this]
      conv => whnf
      exact rfl
    have h1 : ¬ (q.nm.length : Int) > 1000 := of_decide_eq_false h1
    conv => whnf
    have hw1 : IntKind.i64.wrap ((i : Int) + 1) = ((i + 1 : Nat) : Int) := by rw [w64_in _ (by omega)]; omega
    refine ⟨i + 1, [0, 1], ⟨c5', by rw [htk, List.all_append, hall]; simp only [List.all_cons, List.all_nil, smallQ, Bool.and_true, Bool.true_and, decide_eq_true_eq]; omega⟩, by omega, ?_⟩
    conv => whnf
    rw [hw1]
    repeat' (first | exact True.intro | exact rfl | exact fun _ => Iff.rfl | exact fun _ _ => rfl | exact renM_ent rfl _ | refine And.intro ?_ ?_)
  have sasks : m.asks.all smallQ = true := by
    have : ¬ i < m.asks.length := (by have h : ¬ (i : Int) < m.asks.length := of_decide_eq_false c5; omega)
    rwa [List.take_of_length_le (by omega)] at hall
  have yes : m.small = true := by
    unfold Msg.small Msg.few
    rw [ssays, sheads, sextra, sasks]
    simp only [Bool.and_true, Bool.and_eq_true, decide_eq_true_eq]
    omega
  rw [yes]
  conv => whnf
  exact rfl
end Go.Proofs.Ytdphkaiijlekhaa
namespace Go.Proofs.Ytdphkaiijlekhaa
open Go Go.Eng
def mA : Msg := ⟨4660, 256, false, [⟨[1, 97, 0], 1, 1⟩], true, [], true, [], true, []⟩
def rA : RR := ⟨[1, 97, 0], 1, 1, 5, [1, 2, 3, 4]⟩
def mT : Msg := ⟨4660, 33027, false, [⟨[1, 97, 0], 1, 1⟩], false, [rA], true, [], true, []⟩
def sA : List UInt8 := [18, 52, 1, 0, 0, 1, 0, 0, 0, 0, 0, 0, 1, 97, 0, 0, 1, 0, 1]
def mN : Msg := ⟨0, 0, false, [⟨[], 0, 0⟩], true, [], true, [], true, []⟩
def mO : Msg := ⟨0, 10240, true, [], true, [], true, [], true, []⟩
set_option maxRecDepth 100000
theorem l1 : mA.reply 3 = { mT with zs := true, says := [] } := by kernel_rfl
theorem l2 : mA.write 512 = (sA, 0) := by kernel_rfl
theorem l3 : (mT.write 512).2 = 0 := by kernel_rfl
theorem l4 : (Msg.read (mT.write 512).1) = (mT, 0) := by kernel_rfl
theorem l5 : (mT.fit 20).2 = 0 := by kernel_rfl
theorem l6 : (Msg.read (mT.fit 20).1) = ({ mT with bits := 33539, zs := true, says := [] }, 0) := by kernel_rfl
theorem l7 : (mT.write 20).2 = 7 := by kernel_rfl
theorem l8 : (Msg.read (sA ++ [33])).2 = 6 := by kernel_rfl
theorem l9 : headOf sA = (4660, 256, 0) := by kernel_rfl
theorem l10 : mT.same mT = true := by kernel_rfl
theorem l11 : mT.code = 3 := by kernel_rfl
theorem l12 : mO.op = 5 := by kernel_rfl
theorem l13 : mA.check = true := by kernel_rfl
theorem l14 : mN.check = false := by kernel_rfl
theorem l15 : ∃ b, mT.write 512 = (b, 0) ∧ Msg.read b = (mT, 0) ∧ b.length < 1099511627776 := ⟨(mT.write 512).1, by kernel_rfl, l4, of_decide_eq_true (by kernel_rfl)⟩
def mF : Msg := { mT with bits := 33539, zs := true, says := [] }
theorem l16 : ∃ b, mT.fit 20 = (b, 0) ∧ Msg.read b = (mF, 0) ∧ b.length < 1099511627776 := ⟨(mT.fit 20).1, by kernel_rfl, l6, of_decide_eq_true (by kernel_rfl)⟩
theorem l17 : ∃ b, mT.write 20 = (b, 7) := ⟨(mT.write 20).1, by kernel_rfl⟩
theorem l18 : ∃ x, Msg.read (sA ++ [33]) = (x, 6) := ⟨(Msg.read (sA ++ [33])).1, by kernel_rfl⟩
def mR : Msg := { mT with zs := true, says := [] }
def qD : DV := .sl false 1 3 (chunk [.str [1, 97, 0], .int .u16 1, .int .u16 1] 3)
def rD : DV := .sl false 1 5 (chunk [.str [1, 97, 0], .int .u16 1, .int .u16 1, .int .u32 5, .str [1, 2, 3, 4]] 5)
def aC : List SV := [.d (.int .u16 4660), .d (.int .u16 256), .d qD, nilS, nilS, nilS]
def tC : List SV := [.d (.int .u16 4660), .d (.int .u16 33027), .d (qsD false [⟨[1, 97, 0], 1, 1⟩]), .d rD, .d (rrsD true []), .d (rrsD true [])]
theorem aq : AEq (.d qD) (.d (qsD false [⟨[1, 97, 0], 1, 1⟩])) := AEq.row fun i hi => match i with
  | 0 => rfl
  | i + 1 => absurd hi (by omega)
theorem ar : AEq (.d rD) (.d (rrsD false [rA])) := AEq.row fun i hi => match i with
  | 0 => rfl
  | i + 1 => absurd hi (by omega)
theorem aA : AEq (.agg aC) (.agg mA.cells) := AEq.aggL ⟨.refl _, .refl _, aq, .none _ _ _ _ _, .none _ _ _ _ _, .none _ _ _ _ _, True.intro⟩
theorem aT : AEq (.agg tC) (.agg mT.cells) := AEq.aggL ⟨.refl _, .refl _, .refl _, ar, .refl _, .refl _, True.intro⟩
theorem okA : mA.Ok := ⟨by decide, by decide, fun q hq => (by rw [List.mem_singleton.1 hq]; exact ⟨(by decide), (by decide)⟩), fun r hr => (by cases hr), fun r hr => (by cases hr), fun r hr => (by cases hr), by decide⟩
theorem okT : mT.Ok := ⟨by decide, by decide, fun q hq => (by rw [List.mem_singleton.1 hq]; exact ⟨(by decide), (by decide)⟩), fun r hr => (by rw [List.mem_singleton.1 hr]; exact ⟨(by decide), (by decide), (by decide)⟩), fun r hr => (by cases hr), fun r hr => (by cases hr), by decide⟩
theorem lenT : mT.Len := by constructor <;> decide
set_option maxHeartbeats 16000000 in
theorem lives6_ok : FnOk Try.prog 34 [] (.d (.bool true)) := by
  obtain ⟨bT, e15, r15, n15⟩ := l15
  obtain ⟨bF, e16, r16, n16⟩ := l16
  obtain ⟨bX, e17⟩ := l17
  obtain ⟨mX, e18⟩ := l18
  have c1 := (reply_ok mA 3 (fun h => by cases h) (by decide)).convA (args' := [.agg aC, .d (.int .i64 3)]) ⟨aA, .refl _, True.intro⟩
  rw [l1] at c1
  have c2 := (mwrite_ok mA okA 512 (by decide)).convA (args' := [.agg aC, .d (.int .i64 512)]) ⟨aA, .refl _, True.intro⟩
  rw [l2] at c2
  have c3 := (mwrite_ok mT okT 512 (by decide)).convA (args' := [.agg tC, .d (.int .i64 512)]) ⟨aT, .refl _, True.intro⟩
  rw [e15] at c3
  have c4 := mread_ok bT n15
  rw [r15] at c4
  have c5 := (fit_ok mT okT 20 (by decide) (by decide)).convA (args' := [.agg tC, .d (.int .i64 20)]) ⟨aT, .refl _, True.intro⟩
  rw [e16] at c5
  have c6 := mread_ok bF n16
  rw [r16] at c6
  have c7 := (mwrite_ok mT okT 20 (by decide)).convA (args' := [.agg tC, .d (.int .i64 20)]) ⟨aT, .refl _, True.intro⟩
  rw [e17] at c7
  have c8 := mread_ok (sA ++ [33]) (by decide)
  rw [e18] at c8
  have c9 := mhead_ok sA (by decide)
  rw [l9] at c9
  have c10 := (same_ok mT mT lenT lenT).convA (args' := [.agg mT.cells, .agg tC]) ⟨.refl _, aT, True.intro⟩
  rw [l10] at c10
  have c11 := code_ok mT
  rw [l11] at c11
  have c12 := (op_ok mO).convA (args' := [.agg [.d (.int .u16 0), .d (.int .u16 10240), nilS, nilS, nilS, nilS]]) ⟨AEq.aggL ⟨.refl _, .refl _, .none _ _ _ _ _, .none _ _ _ _ _, .none _ _ _ _ _, .none _ _ _ _ _, True.intro⟩, True.intro⟩
  rw [l12] at c12
  have c13 := (mcheck_ok mA (by decide)).convA (args' := [.agg aC]) ⟨aA, True.intro⟩
  rw [l13] at c13
  have c14 := (mcheck_ok mN (by decide)).convA (args' := [.agg [.d (.int .u16 0), .d (.int .u16 0), .d (.sl false 1 3 (chunk [.str [], .int .u16 0, .int .u16 0] 3)), nilS, nilS, nilS]]) ⟨AEq.aggL ⟨.refl _, .refl _, AEq.row (fun i hi => match i with
    | 0 => rfl
    | i + 1 => absurd hi (by omega)), .none _ _ _ _ _, .none _ _ _ _ _, .none _ _ _ _ _, True.intro⟩, True.intro⟩
  rw [l14] at c14
  refine fnOk_of_run (TT := TT) (IN := lookI []) TT_ok INok_nil mixed 1000 Try.func34 rfl (enters Try.func34 (by kernel_rfl) rfl) rfl 150 (by kernel_rfl) ?_
  conv => whnf
  refine .still [0] [(1, 66, aC)] (.agg mR.cells) _ ⟨⟨_, rfl, ?_, rfl⟩, True.intro⟩ ?_ c1 rfl rfl ?_
  · conv => whnf
    exact ⟨rfl, rfl⟩
  · conv => whnf
    exact ⟨rfl, rfl⟩
  conv => whnf
  refine .one (.data _ c2 rfl rfl ?_)
  conv => whnf
  refine .still [3] [(2, 66, tC)] (.tup [.d (.str bT), .d (.int .i64 0)]) _ ⟨⟨_, rfl, ?_, rfl⟩, True.intro⟩ ?_ c3 rfl rfl ?_
  · conv => whnf
    exact ⟨rfl, rfl⟩
  · conv => whnf
    exact ⟨rfl, rfl⟩
  conv => whnf
  refine .one (.data _ c4 rfl rfl ?_)
  conv => whnf
  refine .one (.data _ c5 rfl rfl ?_)
  conv => whnf
  refine .one (.data _ c6 rfl rfl ?_)
  conv => whnf
  refine .one (.data _ c7 rfl rfl ?_)
  conv => whnf
  refine ⟨by decide, ?_⟩
  conv => whnf
  refine .one (.data _ c8 rfl rfl ?_)
  conv => whnf
  refine .one (.data _ c9 rfl rfl ?_)
  conv => whnf
  repeat (refine brT rfl ?_; conv => whnf)
  refine .one (.data _ c10 rfl rfl ?_)
  conv => whnf
  repeat (refine brT rfl ?_; conv => whnf)
  refine .one (.data _ c11 rfl rfl ?_)
  conv => whnf
  repeat (refine brT rfl ?_; conv => whnf)
  refine .one (.data _ c12 rfl rfl ?_)
  conv => whnf
  repeat (refine brT rfl ?_; conv => whnf)
  refine .one (.data _ c13 rfl rfl ?_)
  conv => whnf
  repeat (refine brT rfl ?_; conv => whnf)
  refine .one (.look (.d (.int .i64 2)) ?_ rfl ?_)
  · conv => whnf
    exact ⟨c14, rfl⟩
  conv => whnf
  exact rfl
end Go.Proofs.Ytdphkaiijlekhaa
namespace Go.Proofs.Ytdphkaiijlekhaa
open Go Go.Eng
/-- Its numbers lie within their types. -/
structure Msg.Fld (m : Msg) : Prop where
  id : 0 ≤ m.id ∧ m.id ≤ 65535
  bits : 0 ≤ m.bits ∧ m.bits ≤ 65535
  asks : ∀ q ∈ m.asks, q.Ok
  says : ∀ r ∈ m.says, r.Ok
  heads : ∀ r ∈ m.heads, r.Ok
  extra : ∀ r ∈ m.extra, r.Ok
  za : m.za = true → m.asks = []
theorem few_of {m : Msg} (h : m.small = true) : m.asks.length ≤ 20 ∧ m.says.length ≤ 20 ∧ m.heads.length ≤ 20 ∧ m.extra.length ≤ 20 := by
  unfold Msg.small Msg.few at h
  simp only [Bool.and_eq_true, decide_eq_true_eq] at h
  omega
theorem Msg.Fld.ok {m : Msg} (h : m.Fld) (hs : m.asks.length ≤ 1000000) : m.Ok := ⟨h.id, h.bits, h.asks, h.says, h.heads, h.extra, by omega⟩
theorem qsEq_refl (l : List Q) : qsEq l l = true := by
  induction l with
  | nil => rfl
  | cons q l ih => simp [qsEq, eqQ, ih]
theorem rsEq_refl (l : List RR) : rsEq l l = true := by
  induction l with
  | nil => rfl
  | cons q l ih => simp [rsEq, eqR, ih]
theorem same_again (m : Msg) : m.again.same m = true := by
  unfold Msg.same
  show (m.id == m.id && (m.bits == m.bits && (qsEq m.asks m.asks && (rsEq m.says m.says && (rsEq m.heads m.heads && rsEq m.extra m.extra))))) = true
  simp [qsEq_refl, rsEq_refl]
theorem less_Ok {m : Msg} (hm : m.Ok) : m.less.Ok := ⟨hm.id, bor_le _ _, hm.asks, fun r hr => absurd hr (by show r ∉ []; simp), fun r hr => absurd hr (by show r ∉ []; simp), fun r hr => hm.extra r (List.mem_filter.1 hr).1, hm.len⟩
theorem less_check {m : Msg} (h : m.check = true) : m.less.check = true := by
  unfold Msg.check at h ⊢
  simp only [Bool.and_eq_true, decide_eq_true_eq] at h ⊢
  obtain ⟨⟨⟨⟨⟨⟨⟨l1, l2⟩, l3⟩, l4⟩, k1⟩, k2⟩, k3⟩, k4⟩ := h
  refine ⟨⟨⟨⟨⟨⟨⟨l1, Nat.zero_le _⟩, Nat.zero_le _⟩, Nat.le_trans (List.length_filter_le _ _) l4⟩, k1⟩, rfl⟩, rfl⟩, ?_⟩
  rw [List.all_eq_true]
  intro r hr
  exact List.all_eq_true.mp k4 r (List.mem_filter.1 hr).1
theorem write_cases {m : Msg} (hm : m.Ok) {limit : Int} (hlo : -9223372036854775808 ≤ limit) :
    (m.check = false ∧ m.write limit = ([], 2)) ∨ (m.check = true ∧ m.write limit = ([], 7)) ∨
    (m.check = true ∧ ∃ b, m.write limit = (b, 0) ∧ Msg.read b = (m.again, 0) ∧ (b.length : Int) ≤ limit ∧ b.length ≤ 65535) := by
  cases hc : m.check
  · exact .inl ⟨rfl, by unfold Msg.write; rw [hc]; rfl⟩
  · refine .inr ?_
    cases hf : (m.last limit).full
    · obtain ⟨h1, h2⟩ := msg_back hm hlo hc hf
      refine .inr ⟨rfl, (m.last limit).buf, by unfold Msg.write; rw [hc, hf]; rfl, h1, h2, ?_⟩
      obtain ⟨h3, _⟩ := lm_le limit
      have h4 := msg_back (limit := 65535) hm (by decide) hc
      by_cases hl : limit ≤ 65535
      · omega
      · have e : m.last limit = m.last 65535 := by
          unfold Msg.last
          have : lm limit = lm 65535 := by unfold lm; rw [if_pos (by omega), if_neg (by omega)]
          rw [this]
        rw [e] at hf ⊢
        have := (h4 hf).2
        omega
    · exact .inl ⟨rfl, by unfold Msg.write; rw [hc, hf]; rfl⟩
theorem read_nil : Msg.read [] = (Msg.no, 5) := rfl
end Go.Proofs.Ytdphkaiijlekhaa
namespace Go.Proofs.Ytdphkaiijlekhaa
open Go Go.Eng
theorem raw_bad {r : Rdr} {n : Int} (h : (r.raw n).1.bad = false) : r.bad = false := by
  unfold Rdr.raw at h
  split at h
  · rename_i hb; rw [hb] at h; cases h
  · rename_i hb
    cases hr : r.bad
    · rfl
    · exact absurd hr hb
theorem num_bad {r : Rdr} {n : Nat} (h : (r.num n).1.bad = false) : r.bad = false := raw_bad h
theorem name_right {r : Rdr} (h : r.name.1.bad = false) : isName r.name.2 := by
  unfold Rdr.name at h ⊢
  split at h
  · rename_i hb; rw [hb] at h; cases h
  · rename_i hb
    split at h
    · rename_i hn
      rw [if_neg hb, if_pos hn]
      exact hn
    · cases h
theorem u16_in (n : Int) : 0 ≤ IntKind.u16.wrap n ∧ IntKind.u16.wrap n ≤ 65535 := by rw [IntKind.wrap_u16]; omega
theorem u32_in (n : Int) : 0 ≤ IntKind.u32.wrap n ∧ IntKind.u32.wrap n ≤ 4294967295 := by rw [IntKind.wrap_u32]; omega
theorem qs_right : ∀ (n : Nat) (r : Rdr) (l : List Q), (∀ q ∈ l, isName q.nm ∧ q.Ok) → (r.qs n l).2.2 = true → (∀ q ∈ (r.qs n l).2.1, isName q.nm ∧ q.Ok) ∧ (r.qs n l).2.1.length = l.length + n
  | 0, r, l, hl, _ => ⟨hl, rfl⟩
  | n + 1, r, l, hl, h => by
    unfold Rdr.qs at h ⊢
    split at h
    · cases h
    · rename_i hb
      rw [if_neg hb]
      have hb : ((r.name.1.num 2).1.num 2).1.bad = false := by simpa using hb
      have hn := name_right (num_bad (num_bad hb))
      obtain ⟨h1, h2⟩ := qs_right n _ (l ++ [⟨r.name.2, IntKind.u16.wrap (r.name.1.num 2).2, IntKind.u16.wrap ((r.name.1.num 2).1.num 2).2⟩]) (fun q hq => by
        rcases List.mem_append.1 hq with hq | hq
        · exact hl q hq
        · rw [List.mem_singleton.1 hq]
          exact ⟨hn, ⟨u16_in _, u16_in _⟩⟩) h
      refine ⟨h1, ?_⟩
      rw [h2, List.length_append]
      show l.length + 1 + n = l.length + (n + 1)
      omega
theorem rdata_right {r : Rdr} {t w : Int} (h : (r.rdata t w).2 = 0) : rcheck t (r.rdata t w).1 = true := by
  unfold Rdr.rdata at h ⊢
  split at h
  · cases h
  · rename_i hb
    rw [if_neg hb]
    dsimp only at h ⊢
    split at h
    · cases h
    · rename_i hc
      rw [if_neg hc]
      simp only [Bool.or_eq_true, Bool.not_eq_true', decide_eq_true_eq, not_or] at hc
      simpa using hc.2
theorem recd_right {r : Rdr} (h : r.recd.2.2 = 0) : r.recd.2.1.check = true ∧ r.recd.2.1.Ok := by
  unfold Rdr.recd at h ⊢
  dsimp only at h ⊢
  split at h
  · cases h
  · rename_i hb
    rw [if_neg hb]
    split at h
    · rename_i hx
      exact absurd h hx
    · rename_i hx
      rw [if_neg hx]
      have hb : (((((r.name).1.num 2).1.num 2).1.num 4).1.num 2).1.bad = false := by simpa using hb
      have hn := name_right (num_bad (num_bad (num_bad (num_bad hb))))
      have hx : ¬ ((((((r.name).1.num 2).1.num 2).1.num 4).1.num 2).1.rdata (IntKind.u16.wrap (r.name.1.num 2).2) (IntKind.i64.wrap ((((r.name.1.num 2).1.num 2).1.num 4).1.num 2).2)).2 ≠ 0 := hx
      have hd := rdata_right (Decidable.not_not.1 hx)
      constructor
      · unfold RR.check
        simp only [Bool.and_eq_true, Bool.or_eq_true, decide_eq_true_eq, beq_iff_eq]
        refine ⟨⟨hn, hd⟩, ?_⟩
        split
        · exact .inl (by decide)
        · rename_i hc
          by_cases h1 : IntKind.u32.wrap ((((r.name.1.num 2).1.num 2).1.num 4).2 : Int) > 2147483647
          · exact .inr (Decidable.byContradiction fun h2 => hc ⟨h1, h2⟩)
          · exact .inl (by omega)
      · refine ⟨u16_in _, u16_in _, ?_⟩
        dsimp only
        split
        · omega
        · exact u32_in _
theorem rs_right : ∀ (n : Nat) (r : Rdr) (l : List RR), (∀ q ∈ l, q.check = true ∧ q.Ok) → (r.rs n l).2.2 = 0 → (∀ q ∈ (r.rs n l).2.1, q.check = true ∧ q.Ok) ∧ (r.rs n l).2.1.length = l.length + n
  | 0, r, l, hl, _ => ⟨hl, rfl⟩
  | n + 1, r, l, hl, h => by
    unfold Rdr.rs at h ⊢
    split at h
    · rename_i hb; exact absurd h hb
    · rename_i hb
      rw [if_neg hb]
      have hg := recd_right (Decidable.not_not.1 hb)
      obtain ⟨h1, h2⟩ := rs_right n _ (l ++ [r.recd.2.1]) (fun q hq => by
        rcases List.mem_append.1 hq with hq | hq
        · exact hl q hq
        · rw [List.mem_singleton.1 hq]
          exact hg) h
      refine ⟨h1, ?_⟩
      rw [h2, List.length_append]
      show l.length + 1 + n = l.length + (n + 1)
      omega
/-- What sec comes to: an error, and no message, or what comes behind it. -/
theorem sec_right {r : Rdr} {n : Nat} {k : Rdr → List RR → Msg × Int} (P : Msg × Int → Prop) (hno : ∀ e, e ≠ 0 → P (Msg.no, e)) (hk : ∀ r1 x, (∀ q ∈ x, q.check = true ∧ q.Ok) → x.length = n → P (k r1 x)) : P (r.sec n k) := by
  unfold Rdr.sec
  split
  · rename_i h; exact hno _ h
  · rename_i h
    obtain ⟨h1, h2⟩ := rs_right n r [] (fun q hq => by cases hq) (Decidable.not_not.1 h)
    exact hk _ _ h1 (by simpa using h2)
structure Right (m : Msg) : Prop where
  check : m.check = true
  fld : m.Fld
theorem read_cases (s : List UInt8) : ((Msg.read s).2 ≠ 0 ∧ (Msg.read s).1 = Msg.no) ∨ ((Msg.read s).2 = 0 ∧ Right (Msg.read s).1) := by
  have hno : ∀ e : Int, e ≠ 0 → ((Msg.no, e).2 ≠ 0 ∧ (Msg.no, e).1 = Msg.no) ∨ ((Msg.no, e).2 = 0 ∧ Right (Msg.no, e).1) := fun e h => .inl ⟨h, rfl⟩
  unfold Msg.read
  split
  · exact hno 5 (by decide)
  dsimp only
  unfold Rdr.rest
  split
  · exact hno 7 (by decide)
  rename_i hc
  split
  · exact hno 5 (by decide)
  rename_i hq
  obtain ⟨q1, q2⟩ := qs_right _ _ [] (fun q hq => by cases hq) (by simpa using hq)
  refine sec_right (fun p => (p.2 ≠ 0 ∧ p.1 = Msg.no) ∨ (p.2 = 0 ∧ Right p.1)) hno fun r1 x hx lx => ?_
  refine sec_right (fun p => (p.2 ≠ 0 ∧ p.1 = Msg.no) ∨ (p.2 = 0 ∧ Right p.1)) hno fun r2 y hy ly => ?_
  refine sec_right (fun p => (p.2 ≠ 0 ∧ p.1 = Msg.no) ∨ (p.2 = 0 ∧ Right p.1)) hno fun r3 z hz lz => ?_
  unfold Rdr.fin
  split
  · exact hno 6 (by decide)
  refine .inr ⟨rfl, ?_, ⟨u16_in _, u16_in _, fun q hq => (q1 q hq).2, fun r hr => (hx r hr).2, fun r hr => (hy r hr).2, fun r hr => (hz r hr).2, fun h => ?_⟩⟩
  · unfold Msg.check Msg.of
    simp only [Bool.and_eq_true, decide_eq_true_eq, List.all_eq_true]
    rw [q2]
    simp only [List.length_nil]
    exact ⟨⟨⟨⟨⟨⟨⟨by omega, by omega⟩, by omega⟩, by omega⟩, fun q hq => (q1 q hq).1⟩, fun r hr => (hx r hr).1⟩, fun r hr => (hy r hr).1⟩, fun r hr => (hz r hr).1⟩
  · exact List.length_eq_zero_iff.1 (Nat.eq_of_beq_eq_true h)
/-- A reply's bits. -/
theorem bv16 (Y : BitVec 16) : BitVec.ofInt 16 (IntKind.u16.wrap (Y.toNat : Int)) = Y := by
  have h := Y.isLt
  have : IntKind.u16.wrap (Y.toNat : Int) = (Y.toNat : Int) := by rw [IntKind.wrap_u16]; omega
  rw [this]
  exact BitVec.eq_of_toNat_eq (by simp)
theorem low4 : ∀ c : Fin 16, (32768#16 ||| BitVec.ofNat 16 c.val) &&& 30720#16 = 0#16 ∧ (32768#16 ||| BitVec.ofNat 16 c.val) &&& 32768#16 = 32768#16 ∧ (32768#16 ||| BitVec.ofNat 16 c.val) &&& 15#16 = BitVec.ofNat 16 c.val := by decide
def and15 (code : Int) : Int := Go.bits BinOp.and IntKind.i64 code 15
theorem and15_lt (code : Int) : ∃ c : Fin 16, and15 code = (c.val : Int) := by
  unfold and15 Go.bits
  have h : ((BitVec.ofInt IntKind.i64.bits code &&& BitVec.ofInt IntKind.i64.bits 15).toNat) < 16 := by
    rw [BitVec.toNat_and]
    exact Nat.lt_of_le_of_lt (Nat.and_le_right) (by show (15#64).toNat < 16; decide)
  refine ⟨⟨_, h⟩, ?_⟩
  show IntKind.i64.wrap (((BitVec.ofInt IntKind.i64.bits code &&& BitVec.ofInt IntKind.i64.bits 15).toNat : Nat) : Int) = _
  rw [w64_in _ (by omega)]
theorem reply_bits (b code : Int) : ∃ c : Fin 16, and15 code = (c.val : Int) ∧
    Go.bits BinOp.or IntKind.u16 (Go.bits BinOp.and IntKind.u16 b 30976) (Go.bits BinOp.or IntKind.u16 32768 (IntKind.u16.wrap (Go.bits BinOp.and IntKind.i64 code 15))) = (((BitVec.ofInt 16 b &&& 30976#16) ||| (32768#16 ||| BitVec.ofNat 16 c.val)).toNat : Int) := by
  obtain ⟨c, hc⟩ := and15_lt code
  refine ⟨c, hc, ?_⟩
  have hc' : Go.bits BinOp.and IntKind.i64 code 15 = (c.val : Int) := hc
  rw [hc']
  have e1 : Go.bits BinOp.and IntKind.u16 b 30976 = IntKind.u16.wrap (((BitVec.ofInt 16 b &&& 30976#16).toNat : Nat) : Int) := rfl
  have hcl := c.isLt
  have e2 : IntKind.u16.wrap (c.val : Int) = (c.val : Int) := by rw [IntKind.wrap_u16]; omega
  have e3 : BitVec.ofInt 16 (c.val : Int) = BitVec.ofNat 16 c.val := BitVec.eq_of_toNat_eq (by simp)
  have e4 : Go.bits BinOp.or IntKind.u16 32768 (c.val : Int) = IntKind.u16.wrap (((32768#16 ||| BitVec.ofNat 16 c.val).toNat : Nat) : Int) := by
    rw [← e3]
    rfl
  rw [e1, e2, e4]
  have e5 : ∀ x y : BitVec 16, Go.bits BinOp.or IntKind.u16 (IntKind.u16.wrap (x.toNat : Int)) (IntKind.u16.wrap (y.toNat : Int)) = ((x ||| y).toNat : Int) := fun x y => by
    have : Go.bits BinOp.or IntKind.u16 (IntKind.u16.wrap (x.toNat : Int)) (IntKind.u16.wrap (y.toNat : Int)) = IntKind.u16.wrap (((BitVec.ofInt 16 (IntKind.u16.wrap (x.toNat : Int)) ||| BitVec.ofInt 16 (IntKind.u16.wrap (y.toNat : Int))).toNat : Nat) : Int) := rfl
    rw [this, bv16, bv16, IntKind.wrap_u16]
    have := (x ||| y).isLt
    omega
  exact e5 _ _
theorem and16 (X : BitVec 16) (n : Int) : Go.bits BinOp.and IntKind.u16 (X.toNat : Int) n = ((X &&& BitVec.ofInt 16 n).toNat : Int) := by
  have e : BitVec.ofInt 16 (X.toNat : Int) = X := BitVec.eq_of_toNat_eq (by simp)
  have : Go.bits BinOp.and IntKind.u16 (X.toNat : Int) n = IntKind.u16.wrap (((BitVec.ofInt 16 (X.toNat : Int) &&& BitVec.ofInt 16 n).toNat : Nat) : Int) := rfl
  rw [this, e, IntKind.wrap_u16]
  have := (X &&& BitVec.ofInt 16 n).isLt
  omega
theorem reply_law (m : Msg) (code : Int) : Go.bits BinOp.and IntKind.u16 (m.reply code).bits 32768 = 32768 ∧ (m.reply code).op = m.op ∧ (m.reply code).code = and15 code := by
  obtain ⟨c, hc, hb⟩ := reply_bits m.bits code
  obtain ⟨k1, k2, k3⟩ := low4 c
  have hb : (m.reply code).bits = (((BitVec.ofInt 16 m.bits &&& 30976#16) ||| (32768#16 ||| BitVec.ofNat 16 c.val)).toNat : Int) := hb
  have d : ∀ n : BitVec 16, ((BitVec.ofInt 16 m.bits &&& 30976#16) ||| (32768#16 ||| BitVec.ofNat 16 c.val)) &&& n = (BitVec.ofInt 16 m.bits &&& (30976#16 &&& n)) ||| ((32768#16 ||| BitVec.ofNat 16 c.val) &&& n) := fun n => by
    rw [BitVec.and_or_distrib_right, BitVec.and_assoc]
  have hcl := c.isLt
  refine ⟨?_, ?_, ?_⟩
  · rw [hb, and16]
    show (((((BitVec.ofInt 16 m.bits &&& 30976#16) ||| (32768#16 ||| BitVec.ofNat 16 c.val)) &&& 32768#16).toNat : Nat) : Int) = 32768
    rw [d, k2]
    have : (30976#16 &&& 32768#16) = 0#16 := by decide
    rw [this]
    simp
  · unfold Msg.op
    rw [hb, and16]
    have e : Go.bits BinOp.and IntKind.u16 m.bits 30720 = (((BitVec.ofInt 16 m.bits &&& 30720#16).toNat : Nat) : Int) := by
      have : Go.bits BinOp.and IntKind.u16 m.bits 30720 = IntKind.u16.wrap (((BitVec.ofInt 16 m.bits &&& 30720#16).toNat : Nat) : Int) := rfl
      rw [this, IntKind.wrap_u16]
      have := (BitVec.ofInt 16 m.bits &&& 30720#16).isLt
      omega
    rw [e]
    show (IntKind.i64.wrap (((((BitVec.ofInt 16 m.bits &&& 30976#16) ||| (32768#16 ||| BitVec.ofNat 16 c.val)) &&& 30720#16).toNat : Nat) : Int)).fdiv _ = _
    rw [d, k1]
    have : (30976#16 &&& 30720#16) = 30720#16 := by decide
    rw [this]
    simp
  · unfold Msg.code
    rw [hb, and16]
    show IntKind.i64.wrap (((((BitVec.ofInt 16 m.bits &&& 30976#16) ||| (32768#16 ||| BitVec.ofNat 16 c.val)) &&& 15#16).toNat : Nat) : Int) = _
    rw [d, k3, hc]
    have : (30976#16 &&& 15#16) = 0#16 := by decide
    rw [this]
    simp
    rw [w64_in _ (by omega)]
    omega
end Go.Proofs.Ytdphkaiijlekhaa
namespace Go.Proofs.Ytdphkaiijlekhaa
open Go Go.Eng Go.ChangeShapes Go.WideShapes Go.RowKit

theorem own : ownKnob Try.prog.godebug = none := by kernel_rfl
theorem kids : Kids Try.prog (· < Try.prog.types.size) := kids_rows (by kernel_rfl) (by kernel_rfl)
theorem full : ∀ t e, t < Try.prog.types.size → Try.prog.underlying t = some (.slice e) → 0 < Try.prog.cellsOf e := slices_full_of Try.prog (by kernel_rfl)

theorem u_int {k : IntKind} {n : Int} (h : (Lit.int k n).wf = true) : k.min ≤ n ∧ n ≤ k.max := by
  simpa [Lit.wf] using h
theorem texts_of {ds : List DV} (h : DT Try.prog 31 ds) : ∃ (b : Bool) (l : List (List UInt8)) (d : DV), ds = [d] ∧ DS d (.sl b l.length 1 (strs l)) ∧ (b = true → l.length = 0) := by
  have c9 : Try.prog.cellsOf 9 = 1 := by kernel_rfl
  cases h with
  | nil _ e h1 => exact ⟨true, [], _, rfl, .none _ _ _ _ _, fun _ => rfl⟩
  | sl _ e n f h1 h2 h3 =>
    have he : e = 9 := by
      rw [Try.underlying31] at h1
      cases h1; rfl
    subst he
    let g : Nat → List UInt8 := fun i => if hi : i < n then ((h3 i hi).str_inv Try.underlying9).choose else []
    refine ⟨false, (List.range n).map g, _, rfl, ?_, fun e => by cases e⟩
    rw [c9, List.length_map, List.length_range]
    refine .rows fun i hi => ?_
    have h4 := ((h3 i hi).str_inv Try.underlying9).choose_spec.1
    have : strs ((List.range n).map g) i = [.str (g i)] := by simp [strs, hi]
    rw [this, h4]
    simp only [g, hi, dif_pos]
    exact DSL.refl _
  | _ => simp_all [Try.underlying31]
set_option maxRecDepth 100000 in
/-- A set, out of its cells. -/
theorem set_of {ds : List DV} (h : DT Try.prog 33 ds) : ∃ (nm : List UInt8) (ty ttl : Int) (b : Bool) (l : List (List UInt8)) (d : DV), ds = [.str nm, .int .u16 ty, .int .u32 ttl, d] ∧ DS d (.sl b l.length 1 (strs l)) ∧ (b = true → l.length = 0) ∧ nm.length ≤ maxLen ∧ 0 ≤ ttl ∧ ttl ≤ 4294967295 := by
  obtain ⟨hl, hf⟩ := h.struct_inv Try.underlying33
  have cs : Try.prog.cellsOf 33 = 4 := by kernel_rfl
  rw [cs] at hl
  match ds, hl with
  | [a0, a1, a2, a3], _ =>
    have c1 : Try.prog.cellsOf 9 = 1 := by kernel_rfl
    have c2 : Try.prog.cellsOf 24 = 1 := by kernel_rfl
    have c3 : Try.prog.cellsOf 30 = 1 := by kernel_rfl
    have c4 : Try.prog.cellsOf 31 = 1 := by kernel_rfl
    simp [c1, c2, c3, c4] at hf
    obtain ⟨k0, k1, k2, k3⟩ := hf
    obtain ⟨n0, e0, q0⟩ := k0.str_inv Try.underlying9
    obtain ⟨n1, e1, _⟩ := k1.int_inv Try.underlying24
    obtain ⟨n2, e2, w2⟩ := k2.int_inv Try.underlying30
    obtain ⟨b, l, d, e3, h3, h4⟩ := texts_of k3
    simp only [List.cons.injEq, and_true] at e0 e1 e2 e3
    subst e0 e1 e2 e3
    have := u_int w2
    exact ⟨n0, n1, n2, b, l, _, rfl, h3, h4, q0, this⟩

end Go.Proofs.Ytdphkaiijlekhaa
namespace Go.Proofs.Ytdphkaiijlekhaa
open Go Go.Eng Go.ChangeShapes Go.WideShapes Go.RowKit
theorem DT.sl_inv2 {P : Program} {t : TypeId} {ds : List DV} {e : TypeId} (h : DT P t ds) (hu : P.underlying t = some (.slice e)) : ∃ nil n f, ds = [.sl nil n (P.cellsOf e) f] ∧ (nil = true → n = 0) ∧ ∀ i, i < n → DT P e (f i) := by
  cases h with
  | nil _ e' h1 => rw [hu] at h1; cases h1; exact ⟨true, 0, _, rfl, fun _ => rfl, fun i hi => absurd hi (by omega)⟩
  | sl _ e' n f h1 h2 h3 => rw [hu] at h1; cases h1; exact ⟨false, n, f, rfl, (fun h => by cases h), h3⟩
  | _ => simp_all
set_option maxRecDepth 100000 in
theorem q_of {ds : List DV} (h : DT Try.prog 77 ds) : ∃ q : Q, ds = q.enc ∧ q.Ok := by
  obtain ⟨hl, hf⟩ := h.struct_inv Try.underlying77
  have cs : Try.prog.cellsOf 77 = 3 := by kernel_rfl
  rw [cs] at hl
  match ds, hl with
  | [a0, a1, a2], _ =>
    have c1 : Try.prog.cellsOf 9 = 1 := by kernel_rfl
    have c2 : Try.prog.cellsOf 24 = 1 := by kernel_rfl
    have c3 : Try.prog.cellsOf 23 = 1 := by kernel_rfl
    simp [c1, c2, c3] at hf
    obtain ⟨k0, k1, k2⟩ := hf
    obtain ⟨n0, e0, q0⟩ := k0.str_inv Try.underlying9
    obtain ⟨n1, e1, w1⟩ := k1.int_inv Try.underlying24
    obtain ⟨n2, e2, w2⟩ := k2.int_inv Try.underlying23
    simp only [List.cons.injEq, and_true] at e0 e1 e2
    subst e0 e1 e2
    exact ⟨⟨n0, n1, n2⟩, rfl, ⟨u_int w1, u_int w2⟩⟩
set_option maxRecDepth 100000 in
theorem rr_of {ds : List DV} (h : DT Try.prog 60 ds) : ∃ q : RR, ds = q.enc ∧ q.Ok := by
  obtain ⟨hl, hf⟩ := h.struct_inv Try.underlying60
  have cs : Try.prog.cellsOf 60 = 5 := by kernel_rfl
  rw [cs] at hl
  match ds, hl with
  | [a0, a1, a2, a3, a4], _ =>
    have c1 : Try.prog.cellsOf 9 = 1 := by kernel_rfl
    have c2 : Try.prog.cellsOf 24 = 1 := by kernel_rfl
    have c3 : Try.prog.cellsOf 23 = 1 := by kernel_rfl
    have c4 : Try.prog.cellsOf 30 = 1 := by kernel_rfl
    simp [c1, c2, c3, c4] at hf
    obtain ⟨k0, k1, k2, k3, k4⟩ := hf
    obtain ⟨n0, e0, q0⟩ := k0.str_inv Try.underlying9
    obtain ⟨n1, e1, w1⟩ := k1.int_inv Try.underlying24
    obtain ⟨n2, e2, w2⟩ := k2.int_inv Try.underlying23
    obtain ⟨n3, e3, w3⟩ := k3.int_inv Try.underlying30
    obtain ⟨n4, e4, q4⟩ := k4.str_inv Try.underlying9
    simp only [List.cons.injEq, and_true] at e0 e1 e2 e3 e4
    subst e0 e1 e2 e3 e4
    exact ⟨⟨n0, n1, n2, n3, n4⟩, rfl, ⟨u_int w1, u_int w2, u_int w3⟩⟩
theorem qs_of {ds : List DV} (h : DT Try.prog 64 ds) : ∃ (b : Bool) (l : List Q) (d : DV), ds = [d] ∧ DS d (qsD b l) ∧ (∀ a ∈ l, a.Ok) ∧ (b = true → l = []) := by
  obtain ⟨z, n, f, rfl, hz, hf⟩ := DT.sl_inv2 h Try.underlying64
  have cs : Try.prog.cellsOf 77 = 3 := by kernel_rfl
  let g : Nat → Q := fun i => if hi : i < n then (q_of (hf i hi)).choose else default
  have hg : ∀ i (hi : i < n), f i = (g i).enc ∧ (g i).Ok := fun i hi => by
    have := (q_of (hf i hi)).choose_spec
    simpa only [g, hi, dif_pos] using this
  refine ⟨z, (List.range n).map g, _, rfl, ?_, fun a ha => ?_, fun h => by rw [hz h]; rfl⟩
  · rw [cs]
    unfold qsD
    rw [List.length_map, List.length_range]
    refine .rows fun i hi => ?_
    have : ((List.range n).map g).getD i default = g i := by simp [List.getD, hi]
    rw [this, (hg i hi).1]
    exact DSL.refl _
  · obtain ⟨i, hi, rfl⟩ := List.mem_map.1 ha
    exact (hg i (List.mem_range.1 hi)).2
theorem rrs_of {ds : List DV} (h : DT Try.prog 47 ds) : ∃ (b : Bool) (l : List RR) (d : DV), ds = [d] ∧ DS d (rrsD b l) ∧ (∀ a ∈ l, a.Ok) := by
  obtain ⟨z, n, f, rfl, hz, hf⟩ := DT.sl_inv2 h Try.underlying47
  have cs : Try.prog.cellsOf 60 = 5 := by kernel_rfl
  let g : Nat → RR := fun i => if hi : i < n then (rr_of (hf i hi)).choose else default
  have hg : ∀ i (hi : i < n), f i = (g i).enc ∧ (g i).Ok := fun i hi => by
    have := (rr_of (hf i hi)).choose_spec
    simpa only [g, hi, dif_pos] using this
  refine ⟨z, (List.range n).map g, _, rfl, ?_, fun a ha => ?_⟩
  · rw [cs]
    unfold rrsD
    rw [List.length_map, List.length_range]
    refine .rows fun i hi => ?_
    have : ((List.range n).map g).getD i default = g i := by simp [List.getD, hi]
    rw [this, (hg i hi).1]
    exact DSL.refl _
  · obtain ⟨i, hi, rfl⟩ := List.mem_map.1 ha
    exact (hg i (List.mem_range.1 hi)).2
set_option maxRecDepth 100000 in
/-- A message, out of its cells. -/
theorem msg_of {ds : List DV} (h : DT Try.prog 66 ds) : ∃ (m : Msg), ds.length = 6 ∧ AEqL (ds.map .d) m.cells ∧ m.Fld := by
  obtain ⟨hl, hf⟩ := h.struct_inv Try.underlying66
  have cs : Try.prog.cellsOf 66 = 6 := by kernel_rfl
  rw [cs] at hl
  match ds, hl with
  | [a0, a1, a2, a3, a4, a5], _ =>
    have c1 : Try.prog.cellsOf 23 = 1 := by kernel_rfl
    have c2 : Try.prog.cellsOf 64 = 1 := by kernel_rfl
    have c3 : Try.prog.cellsOf 47 = 1 := by kernel_rfl
    simp [c1, c2, c3] at hf
    obtain ⟨k0, k1, k2, k3, k4, k5⟩ := hf
    obtain ⟨n0, e0, w0⟩ := k0.int_inv Try.underlying23
    obtain ⟨n1, e1, w1⟩ := k1.int_inv Try.underlying23
    obtain ⟨z2, l2, d2, e2, h2, o2, m2⟩ := qs_of k2
    obtain ⟨z3, l3, d3, e3, h3, o3⟩ := rrs_of k3
    obtain ⟨z4, l4, d4, e4, h4, o4⟩ := rrs_of k4
    obtain ⟨z5, l5, d5, e5, h5, o5⟩ := rrs_of k5
    simp only [List.cons.injEq, and_true] at e0 e1 e2 e3 e4 e5
    subst e0 e1 e2 e3 e4 e5
    exact ⟨⟨n0, n1, z2, l2, z3, l3, z4, l4, z5, l5⟩, rfl, ⟨.refl _, .refl _, .d h2, .d h3, .d h4, .d h5, True.intro⟩, ⟨u_int w0, u_int w1, o2, o3, o4, o5, m2⟩⟩
end Go.Proofs.Ytdphkaiijlekhaa
