/-
  pack.Reader: Part; rdata.copies, rdata.Write. Conditions: as in Pack and Read. rdata.Write, record.Check, record.Write. Conditions: as in Pack and Read. record.Check, record.Write. Conditions: as in Pack and Read. message.Check, message.Write. Conditions: as in Pack and Read. message.Write. Conditions: as in Pack and Read. strings.Builder: copyCheck, out of the shelf's laws; WriteString, String by the engine. rdata.Read. Conditions: the bytes are fewer than 2 to the 40. record.Read. Conditions: as in RRdata. message.Fit. Conditions: those of message.Write; few records. What is written is read again: numbers and names. Plain lemmas. What is written is read again: data and records. Plain lemmas.
-/
import Derived.Shelf.Strings.Builder1
import Derived.Test.YtdphkaiijlekhaaB1
set_option linter.unusedVariables false
set_option linter.unusedSimpArgs false
namespace Go.Proofs.Ytdphkaiijlekhaa
open Go Go.Eng
/-- A reader of the next n bytes. -/
def Rdr.part (r : Rdr) (n : Int) : Rdr × Rdr := ((r.raw n).1, if (r.raw n).1.bad then ⟨[], 0, true⟩ else ⟨r.s.take (r.raw n).1.p, if r.bad then 0 else r.p, false⟩)
set_option maxRecDepth 100000
set_option maxHeartbeats 4000000 in
theorem part_ok (r : Rdr) (hr : r.Ok) (n : Int) (hn : -9223372036854775808 ≤ n ∧ n ≤ 9223372036854775807) : COk Try.prog 170 [.ptr 0 0, .d (.int .i64 n)] [r.kb] (fun s k => s = .ptr 1 0 ∧ k = [(r.part n).1.kb, (r.part n).2.kb]) := by
  refine cOk_of_run (TT := TT) (IN := lookI [(180, Try.f180, 1), (94, Try.f94, 1)]) TT_ok (INok_cons (INok_cons INok_nil Try.func94 (by kernel_rfl) (by kernel_rfl)) Try.func180 (by kernel_rfl) (by kernel_rfl)) mixed 1000 Try.func170 rfl (enters Try.func170 (by kernel_rfl) rfl) 25 (by kernel_rfl) ?_
  have hro := hr.raw n
  conv => whnf
  refine ⟨fun h1 => ?_, fun h1 => ?_⟩
  · have e : r.raw n = (r, []) := by unfold Rdr.raw; rw [if_pos h1]
    have e2 : r.part n = (r, ⟨[], 0, true⟩) := by unfold Rdr.part; rw [e, if_pos h1]
    rw [e2]
    conv => whnf
    refine .rel _ (rdr_fam (raw_ok r hr n hn) [] [] _ rfl rfl) (fun x ks' hR => ?_)
    obtain ⟨_, r1, ⟨rfl, rfl⟩, rfl, rfl⟩ := hR
    rw [e]
    conv => whnf
    refine brT h1 ?_
    conv => whnf
    refine ⟨[0, 1], .ptr 1 0, _, rfl, rfl, rfl, ?_, rfl, rfl⟩
    repeat' (first | exact True.intro | exact rfl | exact fun _ => Iff.rfl | exact fun _ _ => rfl | exact renM_ent rfl _ | refine And.intro ?_ ?_)
  · conv => whnf
    refine .rel _ (rdr_fam (raw_ok r hr n hn) [] [] _ rfl rfl) (fun x ks' hR => ?_)
    obtain ⟨_, r1, ⟨rfl, rfl⟩, rfl, rfl⟩ := hR
    conv => whnf
    refine ⟨fun h2 => ?_, fun h2 => ?_⟩
    · have e2 : r.part n = ((r.raw n).1, ⟨[], 0, true⟩) := by unfold Rdr.part; rw [if_pos h2]
      rw [e2]
      conv => whnf
      refine ⟨[0, 1], .ptr 1 0, _, rfl, rfl, rfl, ?_, rfl, rfl⟩
      repeat' (first | exact True.intro | exact rfl | exact fun _ => Iff.rfl | exact fun _ _ => rfl | exact renM_ent rfl _ | refine And.intro ?_ ?_)
    · have e2 : r.part n = ((r.raw n).1, ⟨r.s.take (r.raw n).1.p, r.p, false⟩) := by unfold Rdr.part; rw [if_neg (by simp [h2]), if_neg (by simp [h1])]
      have hs : (r.raw n).1.s = r.s := by unfold Rdr.raw; split <;> (try rfl); split <;> rfl
      have hp := hro.p
      have hsub : sub (r.raw n).1.s 0 ((r.raw n).1.p : Int) = r.s.take (r.raw n).1.p := by
        unfold sub
        rw [hs]
        simp
      rw [e2]
      conv => whnf
      refine ⟨by omega, ?_⟩
      conv => whnf
      rw [hsub]
      conv => whnf
      refine ⟨[0, 1], .ptr 1 0, _, rfl, rfl, rfl, ?_, rfl, rfl⟩
      repeat' (first | exact True.intro | exact rfl | exact fun _ => Iff.rfl | exact fun _ _ => rfl | exact renM_ent rfl _ | refine And.intro ?_ ?_)
/-- Numbers of a width are written anew. -/
def Wr.copies (width : Nat) : Nat → Wr → Rdr → Wr × Rdr
  | 0, w, r => (w, r)
  | m + 1, w, r => Wr.copies width m (w.num width (r.num width).2) (r.num width).1
theorem Rdr.Ok.num {r : Rdr} (h : r.Ok) (width : Nat) : (r.num width).1.Ok := h.raw width
theorem Wr.Ok.num {w : Wr} (h : w.Ok) (width : Nat) (n : Int) : (w.num width n).Ok := h.piece _
structure CpSt where
  w : Wr
  r : Rdr
  i : Nat
set_option maxHeartbeats 4000000 in
theorem copies_ok (w : Wr) (hw : w.Ok) (width : Nat) (hd : wideN width) (many : Nat) (hm : many ≤ 1000) (s : List UInt8) (hs : s.length < 4611686018427387904) :
    COk Try.prog 165 [.ptr 0 0, .d (.int .i64 width), .d (.int .i64 many), .d (.str s)] [pk w.fl] (fun r k => ∃ w1, k = [pk (Wr.fl w1)] ∧ (r = .tup [] ∧ w1 = (w.copies width many ⟨s, 0, false⟩).1)) := by
  refine cOk_of_run (TT := TT) (IN := lookI [(91, Try.f91, 1)]) TT_ok (INok_cons INok_nil Try.func91 (by kernel_rfl) (by kernel_rfl)) mixed 1000 Try.func165 rfl (enters Try.func165 (by kernel_rfl) rfl) 17 (by kernel_rfl) ?_
  conv => whnf
  refine .inv CpSt (fun s' => s'.w.Ok ∧ s'.r.Ok ∧ s'.i ≤ many ∧ (s'.w.copies width (many - s'.i) s'.r).1 = (w.copies width many ⟨s, 0, false⟩).1) (fun s' => [(12, .d (.int .i64 s'.i))]) (fun s' => [(0, pk s'.w.fl), (1, s'.r.kb)]) (fun s' => many - s'.i) ⟨⟨w, ⟨s, 0, false⟩, 0⟩, [0, 1], ⟨hw, ⟨hs, Nat.zero_le _⟩, Nat.zero_le _, rfl⟩, ?_⟩ ?_
  · conv => whnf
    repeat' (first | exact True.intro | exact rfl | exact (fun _ _ _ _ h => ⟨packed_stable _, h⟩) | refine And.intro ?_ ?_)
  intro s' hs'
  obtain ⟨hw1, hr1, hi, hgo⟩ := hs'
  conv => whnf
  generalize s'.w = w1 at hw1 hgo ⊢
  generalize s'.r = r1 at hr1 hgo ⊢
  generalize s'.i = i at hi hgo ⊢
  refine ⟨fun c1 => ?_, fun c1 => ?_⟩
  · have c1' : i < many := by have : (i : Int) < many := of_decide_eq_true c1
                              omega
    obtain ⟨m, hm1⟩ : ∃ m, many - i = m + 1 := ⟨many - i - 1, by omega⟩
    have hi1 : IntKind.i64.wrap ((i : Int) + 1) = ((i + 1 : Nat) : Int) := by rw [w64_in _ (by omega)]; omega
    conv => whnf
    refine .rel _ (rdr_fam (rnum_ok r1 hr1 width hd) [_] [] _ rfl rfl) (fun x ks' hR => ?_)
    obtain ⟨_, r2, ⟨rfl, rfl⟩, rfl, rfl⟩ := hR
    conv => whnf
    refine .rel _ (COk.thing Wr.fl (num_ok w1 hw1 width hd (r1.num width).2) [] [_] _ rfl rfl) (fun x ks' hR => ?_)
    obtain ⟨_, w2, ⟨rfl, rfl⟩, rfl, rfl⟩ := hR
    conv => whnf
    refine ⟨⟨w1.num width (r1.num width).2, (r1.num width).1, i + 1⟩, [0, 1], ⟨hw1.num _ _, hr1.num _, by show i + 1 ≤ many; omega, ?_⟩, by show many - (i + 1) < many - i; omega, ?_⟩
    · rw [← hgo, hm1, show many - (i + 1) = m by omega]
      rfl
    · conv => whnf
      rw [hi1]
      repeat' (first | exact True.intro | exact rfl | exact (fun _ _ _ _ h => ⟨packed_stable _, h⟩) | refine And.intro ?_ ?_)
  · have c1' : ¬ i < many := by have : ¬ (i : Int) < many := of_decide_eq_false c1
                                omega
    rw [show many - i = 0 by omega] at hgo
    conv => whnf
    refine ⟨[0], .tup [], [pk w1.fl], rfl, rfl, rfl, ⟨fun _ _ _ _ h => ⟨packed_stable _, h⟩, True.intro⟩, _, rfl, rfl, hgo⟩
end Go.Proofs.Ytdphkaiijlekhaa
namespace Go.Proofs.Ytdphkaiijlekhaa
open Go Go.Eng
theorem Wr.Ok.nameGo {p : Bool} : ∀ (m : Nat) {w : Wr} (_ : w.Ok) (n : List UInt8), (Wr.nameGo p m w n).Ok
  | 0, w, h, n => h.piece n
  | m + 1, w, h, n => by
    unfold Wr.nameGo
    have hp := h.piece (n.take (1 + bt n 0))
    split
    · split
      · split
        · exact h.piece _
        · split
          · exact Wr.Ok.nameGo m hp _
          · exact hp
      · split
        · refine Wr.Ok.nameGo m ?_ _
          split
          · rename_i hl
            refine ⟨hp.lo, hp.hi, hp.len, fun e he => ?_⟩
            rcases List.mem_append.1 he with he | he
            · exact h.pl e he
            · rw [List.mem_singleton.1 he]
              show 0 ≤ (w.buf.length : Int) ∧ (w.buf.length : Int) < 16384
              omega
          · exact hp
        · exact hp
    · exact h.piece n
theorem Wr.Ok.name {w : Wr} (h : w.Ok) (n : List UInt8) (p : Bool) : (w.name n p).Ok := by
  unfold Wr.name
  split
  · exact h
  · exact Wr.Ok.nameGo _ h n
theorem Wr.Ok.copies {width : Nat} : ∀ (m : Nat) {w : Wr} (_ : w.Ok) (r : Rdr), (w.copies width m r).1.Ok
  | 0, _, h, _ => h
  | m + 1, _, h, r => Wr.Ok.copies m (h.num width _) _
def Wr.names (w : Wr) (p : Bool) (l : List (List UInt8)) : Wr := l.foldl (fun w n => w.name n p) w
theorem Wr.Ok.names {w : Wr} (h : w.Ok) (p : Bool) (l : List (List UInt8)) : (w.names p l).Ok := by
  induction l generalizing w with
  | nil => exact h
  | cons a l ih => exact ih (h.name a p)
def Wr.rdata (w : Wr) (t : Int) (s : List UInt8) : Wr × Bool := if rcheck t s then
    (match lookF t s with
    | none => w.piece s
    | some (p, x, l, r) => (((w.copies 2 p.1 ⟨x, 0, false⟩).1.names (t != 33) l).copies 4 p.2.2 ⟨r, 0, false⟩).1, true)
  else (w, false)
set_option maxRecDepth 100000
set_option maxHeartbeats 4000000 in
theorem wraw_ok (w : Wr) (hw : w.Ok) (s : List UInt8) (hs : s.length < 4611686018427387904) : COk Try.prog 164 [.ptr 0 0, .d (.str s)] [pk w.fl] (fun r k => ∃ w1, k = [pk (Wr.fl w1)] ∧ (r = .tup [] ∧ w1 = w.piece s)) := by
  refine cOk_of_run (TT := TT) (IN := lookI []) TT_ok INok_nil mixed 1000 Try.func164 rfl (enters Try.func164 (by kernel_rfl) rfl) 5 (by kernel_rfl) ?_
  conv => whnf
  refine .rel _ (COk.thing Wr.fl (piece_ok w hw s hs) [] [] _ rfl rfl) (fun x ks' hR => ?_)
  obtain ⟨_, w2, ⟨rfl, rfl⟩, rfl, rfl⟩ := hR
  conv => whnf
  refine ⟨[0], .tup [], [pk (w.piece s).fl], rfl, rfl, rfl, ⟨fun _ _ _ _ h => ⟨packed_stable _, h⟩, True.intro⟩, _, rfl, rfl, rfl⟩
set_option maxHeartbeats 4000000 in
theorem wname_ok (w : Wr) (hw : w.Ok) (n : List UInt8) : COk Try.prog 79 [.ptr 0 0, .d (.str n)] [pk w.fl] (fun r k => ∃ w1, k = [pk (Wr.fl w1)] ∧ (r = .tup [] ∧ w1 = w.name n true)) := by
  refine cOk_of_run (TT := TT) (IN := lookI []) TT_ok INok_nil mixed 1000 Try.func79 rfl (enters Try.func79 (by kernel_rfl) rfl) 5 (by kernel_rfl) ?_
  conv => whnf
  refine .rel _ (COk.thing Wr.fl ((name_ok w hw n true).convA (args' := [.ptr 0 0, .d (.str n), .d .tt]) ⟨.refl _, .refl _, .d .tb, True.intro⟩) [] [] _ rfl rfl) (fun x ks' hR => ?_)
  obtain ⟨_, w2, ⟨rfl, rfl⟩, rfl, rfl⟩ := hR
  conv => whnf
  refine ⟨[0], .tup [], [pk (w.name n true).fl], rfl, rfl, rfl, ⟨fun _ _ _ _ h => ⟨packed_stable _, h⟩, True.intro⟩, _, rfl, rfl, rfl⟩
set_option maxHeartbeats 4000000 in
theorem wfull_ok (w : Wr) (hw : w.Ok) (n : List UInt8) : COk Try.prog 166 [.ptr 0 0, .d (.str n)] [pk w.fl] (fun r k => ∃ w1, k = [pk (Wr.fl w1)] ∧ (r = .tup [] ∧ w1 = w.name n false)) := by
  refine cOk_of_run (TT := TT) (IN := lookI []) TT_ok INok_nil mixed 1000 Try.func166 rfl (enters Try.func166 (by kernel_rfl) rfl) 5 (by kernel_rfl) ?_
  conv => whnf
  refine .rel _ (COk.thing Wr.fl ((name_ok w hw n false).convA (args' := [.ptr 0 0, .d (.str n), .d .ff]) ⟨.refl _, .refl _, .d .fb, True.intro⟩) [] [] _ rfl rfl) (fun x ks' hR => ?_)
  obtain ⟨_, w2, ⟨rfl, rfl⟩, rfl, rfl⟩ := hR
  conv => whnf
  refine ⟨[0], .tup [], [pk (w.name n false).fl], rfl, rfl, rfl, ⟨fun _ _ _ _ h => ⟨packed_stable _, h⟩, True.intro⟩, _, rfl, rfl, rfl⟩
theorem lookF_le {t : Int} {s : List UInt8} {p : Nat × Nat × Nat} {x r : List UInt8} {l : List (List UInt8)} (h : lookF t s = some (p, x, l, r)) :
    s.length ≤ 4096 ∧ formOf t = some p ∧ x = s.take (2 * p.1) ∧ 2 * p.1 ≤ s.length ∧ namesF p.2.1 (s.drop (2 * p.1)) = some (l, r) ∧ r.length = 4 * p.2.2 := by
  unfold lookF at h
  split at h
  · rename_i hs
    obtain ⟨q, hq, h2⟩ := Option.bind_eq_some_iff.1 h
    obtain ⟨z, hz, h3⟩ := Option.map_eq_some_iff.1 h2
    obtain ⟨rfl, rfl⟩ := Prod.mk.inj h3
    unfold cutF at hz
    split at hz
    · cases hz
    · rename_i hl
      obtain ⟨y, hy, h4⟩ := Option.bind_eq_some_iff.1 hz
      split at h4
      · rename_i h5
        cases h4
        exact ⟨hs, hq, rfl, by omega, hy, h5⟩
      · cases h4
  · cases h
structure WnSt where
  w : Wr
  i : Nat
set_option maxHeartbeats 8000000 in
theorem wrdata_ok (w : Wr) (hw : w.Ok) (t : Int) (s : List UInt8) : COk Try.prog 131 [.ptr 0 0, .d (.int .u16 t), .d (.str s)] [pk w.fl] (fun r k => ∃ w1, k = [pk (Wr.fl w1)] ∧ (r = .d (.int .i64 (errno (w.rdata t s).2)) ∧ w1 = (w.rdata t s).1)) := by
  refine cOk_of_run (TT := TT) (IN := lookI []) TT_ok INok_nil mixed 1000 Try.func131 rfl (enters Try.func131 (by kernel_rfl) rfl) 53 (by kernel_rfl) ?_
  conv => whnf
  refine .one (.data _ (rcheck_ok t s) rfl rfl ?_)
  cases hc : rcheck t s
  · have e : w.rdata t s = (w, false) := by unfold Wr.rdata; rw [if_neg (by simp [hc])]
    rw [e]
    conv => whnf
    refine brT rfl ?_
    conv => whnf
    refine ⟨[0], .d (.int .i64 2), [pk w.fl], rfl, rfl, rfl, ⟨fun _ _ _ _ h => ⟨packed_stable _, h⟩, True.intro⟩, _, rfl, rfl, rfl⟩
  have hlen : s.length ≤ 4096 := by
    simp only [rcheck, Bool.and_eq_true, decide_eq_true_eq] at hc
    exact hc.1
  conv => whnf
  refine brF rfl ?_
  conv => whnf
  refine .one (.data _ (look_ok t s) rfl ?_ ?_)
  · cases lookF t s <;> rfl
  rcases hl : lookF t s with _ | ⟨p, x, l, r⟩
  · have e : w.rdata t s = (w.piece s, true) := by unfold Wr.rdata; rw [if_pos hc, hl]
    rw [e]
    conv => whnf
    repeat (first | (refine brT rfl ?_; conv => whnf) | (refine brF rfl ?_; conv => whnf) | (refine .once ?_; conv => whnf) | (refine ⟨by decide, ?_⟩; conv => whnf) | (refine And.intro (Nat.le_of_ble_eq_true rfl) ?_; conv => whnf))
    refine .rel _ (COk.thing Wr.fl (wraw_ok w hw s (by omega)) [] [_, _] _ rfl rfl) (fun x ks' hR => ?_)
    obtain ⟨_, w2, ⟨rfl, rfl⟩, rfl, rfl⟩ := hR
    conv => whnf
    refine ⟨[0], .d (.int .i64 0), [pk (w.piece s).fl], rfl, rfl, rfl, ⟨fun _ _ _ _ h => ⟨packed_stable _, h⟩, True.intro⟩, _, rfl, rfl, rfl⟩
  · have e : w.rdata t s = ((((w.copies 2 p.1 ⟨x, 0, false⟩).1.names (t != 33) l).copies 4 p.2.2 ⟨r, 0, false⟩).1, true) := by unfold Wr.rdata; rw [if_pos hc, hl]
    obtain ⟨_, hf, hx, hp1, hnm, hr⟩ := lookF_le hl
    obtain ⟨hp2, _, hp3⟩ := formOf_le hf
    have hll := (namesF_len _ _ _ _ hnm).1
    have hln : l.length ≤ 100 := by have := (formOf_le hf).2.1; omega
    have hxl : x.length < 4611686018427387904 := by rw [hx, List.length_take]; omega
    rw [e]
    conv => whnf
    repeat (first | (refine brT rfl ?_; conv => whnf) | (refine brF rfl ?_; conv => whnf) | (refine .once ?_; conv => whnf) | (refine ⟨by decide, ?_⟩; conv => whnf) | (refine And.intro (Nat.le_of_ble_eq_true rfl) ?_; conv => whnf))
    refine .rel _ (COk.thing Wr.fl (copies_ok w hw 2 (.inr (.inl rfl)) p.1 (by omega) x hxl) [] [_, _] _ rfl rfl) (fun x ks' hR => ?_)
    obtain ⟨_, w2, ⟨rfl, rfl⟩, rfl, rfl⟩ := hR
    have hw2 : (w.copies 2 p.1 ⟨x, 0, false⟩).1.Ok := hw.copies _ _
    generalize (w.copies 2 p.1 ⟨x, 0, false⟩).1 = w2 at hw2 ⊢
    conv => whnf
    refine .inv WnSt (fun s' => s'.w.Ok ∧ s'.i ≤ l.length ∧ s'.w.names (t != 33) (l.drop s'.i) = w2.names (t != 33) l) (fun s' => [(37, .d (.int .i64 s'.i))]) (fun s' => [(0, pk s'.w.fl)]) (fun s' => l.length - s'.i) ⟨⟨w2, 0⟩, [0, 1, 2], ⟨hw2, Nat.zero_le _, rfl⟩, ?_⟩ ?_
    · conv => whnf
      repeat' (first | exact True.intro | exact rfl | exact (fun _ _ _ _ h => ⟨packed_stable _, h⟩) | refine And.intro ?_ ?_)
    intro s' hs'
    obtain ⟨hw1, hi, hgo⟩ := hs'
    conv => whnf
    generalize s'.w = w1 at hw1 hgo ⊢
    generalize s'.i = i at hi hgo ⊢
    refine ⟨fun c1 => ?_, fun c1 => ?_⟩
    · have c1' : i < l.length := by have : (i : Int) < l.length := of_decide_eq_true c1
                                    omega
      obtain ⟨n, hn⟩ : ∃ n, l[i]?.getD [] = n := ⟨_, rfl⟩
      have hdr : l.drop i = n :: l.drop (i + 1) := by rw [← hn, List.drop_eq_getElem_cons c1', List.getElem?_eq_getElem c1']; rfl
      have hi1 : IntKind.i64.wrap ((i : Int) + 1) = ((i + 1 : Nat) : Int) := by rw [w64_in _ (by omega)]; omega
      rw [hdr] at hgo
      conv => whnf
      refine ⟨by omega, ?_⟩
      conv => whnf
      rw [Int.toNat_natCast, hn]
      refine ⟨fun c2 => ?_, fun c2 => ?_⟩
      · have ht : (t != 33) = false := by have : t = 33 := by simpa using c2
                                          simp [this]
        rw [ht] at hgo ⊢
        conv => whnf
        refine .rel _ (COk.thing Wr.fl (wfull_ok w1 hw1 n) [] [_, _] _ rfl rfl) (fun x ks' hR => ?_)
        obtain ⟨_, w3, ⟨rfl, rfl⟩, rfl, rfl⟩ := hR
        conv => whnf
        refine ⟨⟨w1.name n false, i + 1⟩, [0, 1, 2], ⟨hw1.name _ _, by show i + 1 ≤ l.length; omega, hgo⟩, by show l.length - (i + 1) < l.length - i; omega, ?_⟩
        conv => whnf
        rw [hi1]
        repeat' (first | exact True.intro | exact rfl | exact (fun _ _ _ _ h => ⟨packed_stable _, h⟩) | refine And.intro ?_ ?_)
      · have ht : (t != 33) = true := by have : ¬ t = 33 := by simpa using c2
                                         simp [this]
        rw [ht] at hgo ⊢
        conv => whnf
        refine .rel _ (COk.thing Wr.fl (wname_ok w1 hw1 n) [] [_, _] _ rfl rfl) (fun x ks' hR => ?_)
        obtain ⟨_, w3, ⟨rfl, rfl⟩, rfl, rfl⟩ := hR
        conv => whnf
        refine ⟨⟨w1.name n true, i + 1⟩, [0, 1, 2], ⟨hw1.name _ _, by show i + 1 ≤ l.length; omega, hgo⟩, by show l.length - (i + 1) < l.length - i; omega, ?_⟩
        conv => whnf
        rw [hi1]
        repeat' (first | exact True.intro | exact rfl | exact (fun _ _ _ _ h => ⟨packed_stable _, h⟩) | refine And.intro ?_ ?_)
    · have c1' : ¬ i < l.length := by have : ¬ (i : Int) < l.length := of_decide_eq_false c1
                                      omega
      rw [List.drop_of_length_le (by omega)] at hgo
      have hgo : w1 = w2.names (t != 33) l := hgo
      rw [← hgo]
      conv => whnf
      refine .rel _ (COk.thing Wr.fl (copies_ok w1 hw1 4 (.inr (.inr (.inl rfl))) p.2.2 (by omega) r (by omega)) [] [_, _] _ rfl rfl) (fun x ks' hR => ?_)
      obtain ⟨_, w3, ⟨rfl, rfl⟩, rfl, rfl⟩ := hR
      conv => whnf
      refine ⟨[0], .d (.int .i64 0), [pk (w1.copies 4 p.2.2 ⟨r, 0, false⟩).1.fl], rfl, rfl, rfl, ⟨fun _ _ _ _ h => ⟨packed_stable _, h⟩, True.intro⟩, _, rfl, rfl, rfl⟩
end Go.Proofs.Ytdphkaiijlekhaa
namespace Go.Proofs.Ytdphkaiijlekhaa
open Go Go.Eng
/-- A record. -/
structure RR where
  nm : List UInt8
  ty : Int
  cl : Int
  ttl : Int
  d : List UInt8
deriving Inhabited
def RR.enc (r : RR) : List DV := [.str r.nm, .int .u16 r.ty, .int .u16 r.cl, .int .u32 r.ttl, .str r.d]
def RR.V (r : RR) : SV := .agg [.d (.str r.nm), .d (.int .u16 r.ty), .d (.int .u16 r.cl), .d (.int .u32 r.ttl), .d (.str r.d)]
def RR.check (r : RR) : Bool := decide (isName r.nm) && rcheck r.ty r.d && (decide (r.ttl ≤ 2147483647) || r.ty == 41)
set_option maxRecDepth 100000
set_option maxHeartbeats 4000000 in
theorem reccheck_ok (r : RR) : FnOk Try.prog 31 [r.V] (.d (.int .i64 (errno r.check))) := by
  refine fnOk_of_run (TT := TT) (IN := lookI []) TT_ok INok_nil mixed 1000 Try.func31 rfl (enters Try.func31 (by kernel_rfl) rfl) rfl 22 (by kernel_rfl) ?_
  conv => whnf
  refine .one (.data _ (check_ok r.nm) rfl rfl ?_)
  by_cases hn : isName r.nm
  · rw [if_pos hn]
    conv => whnf
    refine brF rfl ?_
    conv => whnf
    refine .one (.data _ (rcheck_ok r.ty r.d) rfl rfl ?_)
    cases hc : rcheck r.ty r.d
    · have e : r.check = false := by simp [RR.check, hc]
      rw [e]
      conv => whnf
      refine brT rfl ?_
      conv => whnf
      exact rfl
    · conv => whnf
      refine brF rfl ?_
      conv => whnf
      refine ⟨fun c1 => ?_, fun c1 => ?_⟩
      · have c1' : ¬ r.ttl ≤ 2147483647 := by have : r.ttl > 2147483647 := of_decide_eq_true c1
                                              omega
        conv => whnf
        refine ⟨fun c2 => ?_, fun c2 => ?_⟩
        · have e : r.check = false := by
            have : ¬ r.ty = 41 := by simpa using c2
            simp [RR.check, c1', this]
          rw [e]
          conv => whnf
          exact rfl
        · have e : r.check = true := by
            have : r.ty = 41 := by simpa using c2
            simp only [RR.check, hn, hc, decide_true, Bool.true_and, Bool.or_eq_true, beq_iff_eq]
            exact .inr this
          rw [e]
          conv => whnf
          exact rfl
      · have c1' : r.ttl ≤ 2147483647 := by have : ¬ r.ttl > 2147483647 := of_decide_eq_false c1
                                            omega
        have e : r.check = true := by simp [RR.check, hn, hc, c1']
        rw [e]
        conv => whnf
        exact rfl
  · rw [if_neg hn]
    have e : r.check = false := by simp [RR.check, hn]
    rw [e]
    conv => whnf
    refine brT rfl ?_
    conv => whnf
    exact rfl
theorem Wr.Ok.rdata {w : Wr} (h : w.Ok) (t : Int) (s : List UInt8) : (w.rdata t s).1.Ok := by
  unfold Wr.rdata
  split
  · show (match lookF t s with
      | none => w.piece s
      | some (p, x, l, r) => (((w.copies 2 p.1 ⟨x, 0, false⟩).1.names (t != 33) l).copies 4 p.2.2 ⟨r, 0, false⟩).1).Ok
    split
    · exact h.piece s
    · exact Wr.Ok.copies _ ((h.copies _ _).names _ _) _
  · exact h
theorem Wr.Ok.set {w : Wr} (h : w.Ok) (a n : Int) : (w.set a n).Ok := by
  unfold Wr.set
  split
  · exact h
  · rename_i hc
    refine ⟨h.lo, h.hi, ?_, h.pl⟩
    show (two w.buf a.toNat _ _).length = 0 ∨ ((two w.buf a.toNat _ _).length : Int) ≤ w.limit
    rw [two_len _ _ _ _ (by omega)]
    exact h.len
def Wr.record (w : Wr) (r : RR) : Wr × Bool := if r.check then
    (let w1 := (((w.name r.nm true).num 2 r.ty).num 2 r.cl).num 4 r.ttl
     let w2 := w1.num 2 0
     let w3 := w2.rdata r.ty r.d
     (w3.1.set w1.buf.length (IntKind.u16.wrap ((w3.1.buf.length : Int) - w2.buf.length)), w3.2))
  else (w, false)
set_option maxHeartbeats 8000000 in
theorem wrec_ok (w : Wr) (hw : w.Ok) (r : RR) (h1 : 0 ≤ r.ty ∧ r.ty ≤ 65535) (h2 : 0 ≤ r.cl ∧ r.cl ≤ 65535) (h3 : 0 ≤ r.ttl ∧ r.ttl ≤ 4294967295) : COk Try.prog 81 [.ptr 0 0, r.V] [pk w.fl] (fun s k => ∃ w1, k = [pk (Wr.fl w1)] ∧ (s = .d (.int .i64 (errno (w.record r).2)) ∧ w1 = (w.record r).1)) := by
  refine cOk_of_run (TT := TT) (IN := lookI []) TT_ok INok_nil mixed 1000 Try.func81 rfl (enters Try.func81 (by kernel_rfl) rfl) 49 (by kernel_rfl) ?_
  conv => whnf
  refine .one (.data _ (reccheck_ok r) rfl rfl ?_)
  cases hc : r.check
  · have e : w.record r = (w, false) := by unfold Wr.record; rw [if_neg (by simp [hc])]
    rw [e]
    conv => whnf
    refine brT rfl ?_
    conv => whnf
    refine ⟨[0], .d (.int .i64 2), [pk w.fl], rfl, rfl, rfl, ⟨fun _ _ _ _ h => ⟨packed_stable _, h⟩, True.intro⟩, _, rfl, rfl, rfl⟩
  conv => whnf
  refine brF rfl ?_
  conv => whnf
  have hu : ∀ x : Int, 0 ≤ x ∧ x < 18446744073709551616 → IntKind.u64.wrap x = x := fun x hx => by rw [IntKind.wrap_u64]; omega
  refine .rel _ (COk.thing Wr.fl (wname_ok w hw r.nm) [] [_] _ rfl rfl) (fun x ks' hR => ?_)
  obtain ⟨_, wq, ⟨rfl, rfl⟩, rfl, rfl⟩ := hR
  have ha := hw.name r.nm true
  generalize hwa : w.name r.nm true = wa at ha ⊢
  conv => whnf
  rw [hu r.ty (by omega)]
  refine .rel _ (COk.thing Wr.fl (num_ok wa ha 2 (.inr (.inl rfl)) r.ty) [] [_] _ rfl rfl) (fun x ks' hR => ?_)
  obtain ⟨_, wq, ⟨rfl, rfl⟩, rfl, rfl⟩ := hR
  have hb := ha.num 2 r.ty
  generalize hwb : wa.num 2 r.ty = wb at hb ⊢
  conv => whnf
  rw [hu r.cl (by omega)]
  refine .rel _ (COk.thing Wr.fl (num_ok wb hb 2 (.inr (.inl rfl)) r.cl) [] [_] _ rfl rfl) (fun x ks' hR => ?_)
  obtain ⟨_, wq, ⟨rfl, rfl⟩, rfl, rfl⟩ := hR
  have hcc := hb.num 2 r.cl
  generalize hwc : wb.num 2 r.cl = wc at hcc ⊢
  conv => whnf
  rw [hu r.ttl (by omega)]
  refine .rel _ (COk.thing Wr.fl (num_ok wc hcc 4 (.inr (.inr (.inl rfl))) r.ttl) [] [_] _ rfl rfl) (fun x ks' hR => ?_)
  obtain ⟨_, wq, ⟨rfl, rfl⟩, rfl, rfl⟩ := hR
  have hd := hcc.num 4 r.ttl
  generalize hwd : wc.num 4 r.ttl = wd at hd ⊢
  conv => whnf
  refine .rel _ (COk.thing Wr.fl (wlen_ok wd) [] [_] _ rfl rfl) (fun x ks' hR => ?_)
  obtain ⟨_, wq, ⟨rfl, hq⟩, rfl, rfl⟩ := hR
  rw [hq]
  clear hq
  conv => whnf
  refine .rel _ (COk.thing Wr.fl (num_ok wd hd 2 (.inr (.inl rfl)) 0) [] [_] _ rfl rfl) (fun x ks' hR => ?_)
  obtain ⟨_, wq, ⟨rfl, rfl⟩, rfl, rfl⟩ := hR
  have he := hd.num 2 0
  generalize hwe : wd.num 2 0 = we at he ⊢
  conv => whnf
  refine .rel _ (COk.thing Wr.fl (wlen_ok we) [] [_] _ rfl rfl) (fun x ks' hR => ?_)
  obtain ⟨_, wq, ⟨rfl, hq⟩, rfl, rfl⟩ := hR
  rw [hq]
  clear hq
  conv => whnf
  refine .rel _ (COk.thing Wr.fl (wrdata_ok we he r.ty r.d) [] [_] _ rfl rfl) (fun x ks' hR => ?_)
  obtain ⟨_, wq, ⟨rfl, rfl⟩, rfl, rfl⟩ := hR
  have hf := he.rdata r.ty r.d
  generalize hwf : we.rdata r.ty r.d = wf at hf ⊢
  conv => whnf
  refine .rel _ (COk.thing Wr.fl (wlen_ok wf.1) [] [_] _ rfl rfl) (fun x ks' hR => ?_)
  obtain ⟨_, wq, ⟨rfl, hq⟩, rfl, rfl⟩ := hR
  rw [hq]
  clear hq
  have hsub : IntKind.i64.wrap ((wf.1.buf.length : Int) - we.buf.length) = (wf.1.buf.length : Int) - we.buf.length := by
    have h1 := hf.len
    have h2 := hf.hi
    have h3 := he.len
    have h4 := he.hi
    exact w64_in _ (by omega)
  conv => whnf
  rw [hsub]
  refine .rel _ (COk.thing Wr.fl (wset_ok wf.1 hf wd.buf.length (IntKind.u16.wrap ((wf.1.buf.length : Int) - we.buf.length))) [] [_] _ rfl rfl) (fun x ks' hR => ?_)
  obtain ⟨_, wq, ⟨rfl, rfl⟩, rfl, rfl⟩ := hR
  have e : w.record r = (wf.1.set wd.buf.length (IntKind.u16.wrap ((wf.1.buf.length : Int) - we.buf.length)), wf.2) := by
    unfold Wr.record
    rw [if_pos hc]
    simp only [hwa, hwb, hwc, hwd, hwe, hwf]
  rw [e]
  conv => whnf
  refine ⟨[0], .d (.int .i64 (errno wf.2)), [pk (wf.1.set wd.buf.length (IntKind.u16.wrap ((wf.1.buf.length : Int) - we.buf.length))).fl], rfl, rfl, rfl, ⟨fun _ _ _ _ h => ⟨packed_stable _, h⟩, True.intro⟩, _, rfl, rfl, rfl⟩
end Go.Proofs.Ytdphkaiijlekhaa
namespace Go.Proofs.Ytdphkaiijlekhaa
open Go Go.Eng
/-- A question. -/
structure Q where
  nm : List UInt8
  ty : Int
  cl : Int
deriving Inhabited
def Q.enc (q : Q) : List DV := [.str q.nm, .int .u16 q.ty, .int .u16 q.cl]
/-- A message; the bools: which lists are nil. -/
structure Msg where
  id : Int
  bits : Int
  za : Bool
  asks : List Q
  zs : Bool
  says : List RR
  zh : Bool
  heads : List RR
  ze : Bool
  extra : List RR
def qsD (z : Bool) (l : List Q) : DV := .sl z l.length 3 (fun i => (l.getD i default).enc)
def rrsD (z : Bool) (l : List RR) : DV := .sl z l.length 5 (fun i => (l.getD i default).enc)
def Msg.cells (m : Msg) : List SV := [.d (.int .u16 m.id), .d (.int .u16 m.bits), .d (qsD m.za m.asks), .d (rrsD m.zs m.says), .d (rrsD m.zh m.heads), .d (rrsD m.ze m.extra)]
def Msg.check (m : Msg) : Bool := decide (m.asks.length ≤ 4096) && decide (m.says.length ≤ 4096) && decide (m.heads.length ≤ 4096) && decide (m.extra.length ≤ 4096) && m.asks.all (fun q => decide (isName q.nm)) && m.says.all RR.check && m.heads.all RR.check && m.extra.all RR.check
set_option maxRecDepth 100000
set_option maxHeartbeats 8000000 in
theorem mcheck_ok (m : Msg) (hl : m.asks.length < 4611686018427387904) : FnOk Try.prog 39 [.agg m.cells] (.d (.int .i64 (errno m.check))) := by
  refine fnOk_of_run (TT := TT) (IN := lookI [(80, Try.f80, 1), (129, Try.f129, 2)]) TT_ok (INok_cons (INok_cons INok_nil Try.func129 (by kernel_rfl) (by kernel_rfl)) Try.func80 (by kernel_rfl) (by kernel_rfl)) mixed 1000 Try.func39 rfl (enters Try.func39 (by kernel_rfl) rfl) rfl 45 (by kernel_rfl) ?_
  conv => whnf
  refine ⟨fun c1 => ?_, fun c1 => ?_⟩
  · have e : m.check = false := by
      have : ¬ m.asks.length ≤ 4096 := (by have h : (m.asks.length : Int) > 4096 := of_decide_eq_true c1; omega)
      simp [Msg.check, this]
    rw [e]
    conv => whnf
    exact rfl
  have c1' : m.asks.length ≤ 4096 := (by have h : ¬ (m.asks.length : Int) > 4096 := of_decide_eq_false c1; omega)
  conv => whnf
  refine ⟨fun c2 => ?_, fun c2 => ?_⟩
  · have e : m.check = false := by
      have : ¬ m.says.length ≤ 4096 := (by have h : (m.says.length : Int) > 4096 := of_decide_eq_true c2; omega)
      simp [Msg.check, this]
    rw [e]
    conv => whnf
    exact rfl
  have c2' : m.says.length ≤ 4096 := (by have h : ¬ (m.says.length : Int) > 4096 := of_decide_eq_false c2; omega)
  conv => whnf
  refine ⟨fun c3 => ?_, fun c3 => ?_⟩
  · have e : m.check = false := by
      have : ¬ m.heads.length ≤ 4096 := (by have h : (m.heads.length : Int) > 4096 := of_decide_eq_true c3; omega)
      simp [Msg.check, this]
    rw [e]
    conv => whnf
    exact rfl
  have c3' : m.heads.length ≤ 4096 := (by have h : ¬ (m.heads.length : Int) > 4096 := of_decide_eq_false c3; omega)
  conv => whnf
  refine ⟨fun c4 => ?_, fun c4 => ?_⟩
  · have e : m.check = false := by
      have : ¬ m.extra.length ≤ 4096 := (by have h : (m.extra.length : Int) > 4096 := of_decide_eq_true c4; omega)
      simp [Msg.check, this]
    rw [e]
    conv => whnf
    exact rfl
  have c4' : m.extra.length ≤ 4096 := (by have h : ¬ (m.extra.length : Int) > 4096 := of_decide_eq_false c4; omega)
  conv => whnf
  have hw1 : ∀ (i n : Nat), i < n → n ≤ 4096 → IntKind.i64.wrap ((i : Int) + 1) = ((i + 1 : Nat) : Int) := fun i n h1 h2 => by rw [w64_in _ (by omega)]; omega
  refine .inv Nat (fun i => i ≤ m.asks.length ∧ (m.asks.take i).all (fun q => decide (isName q.nm)) = true) (fun i => [(23, .d (.int .i64 i))]) (fun _ => []) (fun i => m.asks.length - i) ⟨0, [0, 1, 2, 3], ⟨Nat.zero_le _, rfl⟩, ?_⟩ ?_
  · conv => whnf
    repeat' (first | exact True.intro | exact rfl | exact fun _ => Iff.rfl | exact fun _ _ => rfl | exact renM_ent rfl _ | refine And.intro ?_ ?_)
  rintro i ⟨hi, hall⟩
  conv => whnf
  refine ⟨fun c5 => ?_, fun c5 => ?_⟩
  · have c5' : i < m.asks.length := (by have h : (i : Int) < m.asks.length := of_decide_eq_true c5; omega)
    obtain ⟨q, hq⟩ : ∃ q, m.asks.getD i default = q := ⟨_, rfl⟩
    have hq2 : m.asks[i]? = some q := by rw [← hq, List.getD, List.getElem?_eq_getElem c5']; rfl
    have htk : m.asks.take (i + 1) = m.asks.take i ++ [q] := by rw [List.take_add_one, hq2]; rfl
    conv => whnf
    refine ⟨by omega, ?_⟩
    conv => whnf
    rw [Int.toNat_natCast, hq]
    refine .one (.data _ (check_ok q.nm) rfl rfl ?_)
    by_cases hn : isName q.nm
    · rw [if_pos hn]
      conv => whnf
      refine brF rfl ?_
      conv => whnf
      refine ⟨i + 1, [0, 1, 2, 3], ⟨c5', by rw [htk, List.all_append, hall]; simp [hn]⟩, by omega, ?_⟩
      conv => whnf
      rw [hw1 i _ c5' c1']
      repeat' (first | exact True.intro | exact rfl | exact fun _ => Iff.rfl | exact fun _ _ => rfl | exact renM_ent rfl _ | refine And.intro ?_ ?_)
    · have e : m.check = false := by
        have : m.asks.all (fun q => decide (isName q.nm)) = false := by
          rw [List.all_eq_false]
          exact ⟨q, List.mem_of_getElem? hq2, by simp [hn]⟩
        simp only [Msg.check, this, Bool.and_false, Bool.false_and]
      rw [if_neg hn, e]
      conv => whnf
      refine brT rfl ?_
      conv => whnf
      exact rfl
  have hasks : m.asks.all (fun q => decide (isName q.nm)) = true := by
    have : ¬ i < m.asks.length := (by have h : ¬ (i : Int) < m.asks.length := of_decide_eq_false c5; omega)
    rwa [List.take_of_length_le (by omega)] at hall
  clear hall hi c5
  conv => whnf
  refine .inv Nat (fun i => i ≤ m.says.length ∧ (m.says.take i).all RR.check = true) (fun i => [(38, .d (.int .i64 i))]) (fun _ => []) (fun i => m.says.length - i) ⟨0, [0, 1, 2, 3, 4, 5], ⟨Nat.zero_le _, rfl⟩, ?_⟩ ?_
  · conv => whnf
    repeat' (first | exact True.intro | exact rfl | exact fun _ => Iff.rfl | exact fun _ _ => rfl | refine And.intro ?_ ?_)
  rintro i ⟨hi, hall⟩
  conv => whnf
  refine ⟨fun c5 => ?_, fun c5 => ?_⟩
  · have c5' : i < m.says.length := (by have h : (i : Int) < m.says.length := of_decide_eq_true c5; omega)
    obtain ⟨q, hq⟩ : ∃ q, m.says.getD i default = q := ⟨_, rfl⟩
    have hq2 : m.says[i]? = some q := by rw [← hq, List.getD, List.getElem?_eq_getElem c5']; rfl
    have htk : m.says.take (i + 1) = m.says.take i ++ [q] := by rw [List.take_add_one, hq2]; rfl
    conv => whnf
    refine ⟨by omega, ?_⟩
    conv => whnf
    rw [Int.toNat_natCast, hq]
    refine .one (.data _ (reccheck_ok q) rfl rfl ?_)
    cases hn : q.check
    · have e : m.check = false := by
        have : m.says.all RR.check = false := by
          rw [List.all_eq_false]
          exact ⟨q, List.mem_of_getElem? hq2, by simp [hn]⟩
        simp only [Msg.check, this, Bool.and_false, Bool.false_and]
      rw [e]
      conv => whnf
      refine brT rfl ?_
      conv => whnf
      exact rfl
    · conv => whnf
      refine brF rfl ?_
      conv => whnf
      refine ⟨i + 1, [0, 1, 2, 3, 4, 5], ⟨c5', by rw [htk, List.all_append, hall]; simp [hn]⟩, by omega, ?_⟩
      conv => whnf
      rw [hw1 i _ c5' c2']
      repeat' (first | exact True.intro | exact rfl | exact fun _ => Iff.rfl | exact fun _ _ => rfl | refine And.intro ?_ ?_)
  have hsays : m.says.all RR.check = true := by
    have : ¬ i < m.says.length := (by have h : ¬ (i : Int) < m.says.length := of_decide_eq_false c5; omega)
    rwa [List.take_of_length_le (by omega)] at hall
  clear hall hi c5
  conv => whnf
  refine .inv Nat (fun i => i ≤ m.heads.length ∧ (m.heads.take i).all RR.check = true) (fun i => [(38, .d (.int .i64 i))]) (fun _ => []) (fun i => m.heads.length - i) ⟨0, [0, 1, 2, 3, 4, 5], ⟨Nat.zero_le _, rfl⟩, ?_⟩ ?_
  · conv => whnf
    repeat' (first | exact True.intro | exact rfl | exact fun _ => Iff.rfl | exact fun _ _ => rfl | refine And.intro ?_ ?_)
  rintro i ⟨hi, hall⟩
  conv => whnf
  refine ⟨fun c5 => ?_, fun c5 => ?_⟩
  · have c5' : i < m.heads.length := (by have h : (i : Int) < m.heads.length := of_decide_eq_true c5; omega)
    obtain ⟨q, hq⟩ : ∃ q, m.heads.getD i default = q := ⟨_, rfl⟩
    have hq2 : m.heads[i]? = some q := by rw [← hq, List.getD, List.getElem?_eq_getElem c5']; rfl
    have htk : m.heads.take (i + 1) = m.heads.take i ++ [q] := by rw [List.take_add_one, hq2]; rfl
    conv => whnf
    refine ⟨by omega, ?_⟩
    conv => whnf
    rw [Int.toNat_natCast, hq]
    refine .one (.data _ (reccheck_ok q) rfl rfl ?_)
    cases hn : q.check
    · have e : m.check = false := by
        have : m.heads.all RR.check = false := by
          rw [List.all_eq_false]
          exact ⟨q, List.mem_of_getElem? hq2, by simp [hn]⟩
        simp only [Msg.check, this, Bool.and_false, Bool.false_and]
      rw [e]
      conv => whnf
      refine brT rfl ?_
      conv => whnf
      exact rfl
    · conv => whnf
      refine brF rfl ?_
      conv => whnf
      refine ⟨i + 1, [0, 1, 2, 3, 4, 5], ⟨c5', by rw [htk, List.all_append, hall]; simp [hn]⟩, by omega, ?_⟩
      conv => whnf
      rw [hw1 i _ c5' c3']
      repeat' (first | exact True.intro | exact rfl | exact fun _ => Iff.rfl | exact fun _ _ => rfl | refine And.intro ?_ ?_)
  have hheads : m.heads.all RR.check = true := by
    have : ¬ i < m.heads.length := (by have h : ¬ (i : Int) < m.heads.length := of_decide_eq_false c5; omega)
    rwa [List.take_of_length_le (by omega)] at hall
  clear hall hi c5
  conv => whnf
  refine .inv Nat (fun i => i ≤ m.extra.length ∧ (m.extra.take i).all RR.check = true) (fun i => [(38, .d (.int .i64 i))]) (fun _ => []) (fun i => m.extra.length - i) ⟨0, [0, 1, 2, 3, 4, 5], ⟨Nat.zero_le _, rfl⟩, ?_⟩ ?_
  · conv => whnf
    repeat' (first | exact True.intro | exact rfl | exact fun _ => Iff.rfl | exact fun _ _ => rfl | refine And.intro ?_ ?_)
  rintro i ⟨hi, hall⟩
  conv => whnf
  refine ⟨fun c5 => ?_, fun c5 => ?_⟩
  · have c5' : i < m.extra.length := (by have h : (i : Int) < m.extra.length := of_decide_eq_true c5; omega)
    obtain ⟨q, hq⟩ : ∃ q, m.extra.getD i default = q := ⟨_, rfl⟩
    have hq2 : m.extra[i]? = some q := by rw [← hq, List.getD, List.getElem?_eq_getElem c5']; rfl
    have htk : m.extra.take (i + 1) = m.extra.take i ++ [q] := by rw [List.take_add_one, hq2]; rfl
    conv => whnf
    refine ⟨by omega, ?_⟩
    conv => whnf
    rw [Int.toNat_natCast, hq]
    refine .one (.data _ (reccheck_ok q) rfl rfl ?_)
    cases hn : q.check
    · have e : m.check = false := by
        have : m.extra.all RR.check = false := by
          rw [List.all_eq_false]
          exact ⟨q, List.mem_of_getElem? hq2, by simp [hn]⟩
        simp only [Msg.check, this, Bool.and_false, Bool.false_and]
      rw [e]
      conv => whnf
      refine brT rfl ?_
      conv => whnf
      exact rfl
    · conv => whnf
      refine brF rfl ?_
      conv => whnf
      refine ⟨i + 1, [0, 1, 2, 3, 4, 5], ⟨c5', by rw [htk, List.all_append, hall]; simp [hn]⟩, by omega, ?_⟩
      conv => whnf
      rw [hw1 i _ c5' c4']
      repeat' (first | exact True.intro | exact rfl | exact fun _ => Iff.rfl | exact fun _ _ => rfl | refine And.intro ?_ ?_)
  have hextra : m.extra.all RR.check = true := by
    have : ¬ i < m.extra.length := (by have h : ¬ (i : Int) < m.extra.length := of_decide_eq_false c5; omega)
    rwa [List.take_of_length_le (by omega)] at hall
  clear hall hi c5
  conv => whnf
  have e : m.check = true := by simp only [Msg.check, hasks, hsays, hheads, hextra, c1', c2', c3', c4', decide_true, Bool.and_self]
  rw [e]
  exact rfl
end Go.Proofs.Ytdphkaiijlekhaa
namespace Go.Proofs.Ytdphkaiijlekhaa
open Go Go.Eng
/-- A thing that is made behind other blocks. -/
theorem new_among {P : Program} {f : FuncId} {al : List SV} {K : KB} (hK : ∀ σ, mapK σ K = K) (h : COk P f al [] (fun r k => r = .ptr 0 0 ∧ k = [K])) (pre : List KB) (ha : ∀ σ, mapL σ al = al) : COk P f al pre (fun r k => r = .ptr pre.length 0 ∧ k = pre ++ [K]) := by
  have := h.among pre [] (fun s k _ => Nat.zero_le _) rfl
  rw [ha] at this
  have e : pre ++ (mapB (sig (List.range' pre.length ([] : List KB).length) (pre.length + (([] : List KB).length + ([] : List KB).length))) [] ++ []) = pre := by simp [mapB]
  rw [e] at this
  refine this.imp fun s k ⟨s0, k1, ⟨hr, hk1⟩, hs, hk⟩ => ?_
  subst hr hk1
  refine ⟨by rw [hs]; rfl, ?_⟩
  rw [hk]
  show pre ++ ([] ++ ([] ++ [mapK _ K])) = _
  rw [hK]
  rfl
def lm (limit : Int) : Int := if 65535 < limit then 65535 else limit
def Wr.head (w : Wr) (m : Msg) : Wr := (((((w.num 2 m.id).num 2 m.bits).num 2 m.asks.length).num 2 m.says.length).num 2 m.heads.length).num 2 m.extra.length
def Wr.asks (w : Wr) (l : List Q) : Wr := l.foldl (fun w q => ((w.name q.nm true).num 2 q.ty).num 2 q.cl) w
def Wr.recs (w : Wr) (l : List RR) : Wr := l.foldl (fun w r => (w.record r).1) w
def Msg.last (m : Msg) (limit : Int) : Wr := (((((Wr.mk [] (lm limit) false []).head m).asks m.asks).recs m.says).recs m.heads).recs m.extra
def Msg.write (m : Msg) (limit : Int) : List UInt8 × Int := if m.check then (if (m.last limit).full then ([], 7) else ((m.last limit).buf, 0)) else ([], 2)
theorem Wr.Ok.record {w : Wr} (h : w.Ok) (r : RR) : (w.record r).1.Ok := by
  unfold Wr.record
  split
  · exact Wr.Ok.set (Wr.Ok.rdata (((((h.name _ _).num _ _).num _ _).num _ _).num _ _) _ _) _ _
  · exact h
theorem rec_true {w : Wr} {r : RR} (h : r.check = true) : (w.record r).2 = true := by
  unfold Wr.record
  rw [if_pos h]
  show ((((((w.name r.nm true).num 2 r.ty).num 2 r.cl).num 4 r.ttl).num 2 0).rdata r.ty r.d).2 = true
  unfold Wr.rdata
  simp only [RR.check, Bool.and_eq_true] at h
  rw [if_pos h.1.2]
structure Q.Ok (q : Q) : Prop where
  ty : 0 ≤ q.ty ∧ q.ty ≤ 65535
  cl : 0 ≤ q.cl ∧ q.cl ≤ 65535
structure RR.Ok (r : RR) : Prop where
  ty : 0 ≤ r.ty ∧ r.ty ≤ 65535
  cl : 0 ≤ r.cl ∧ r.cl ≤ 65535
  ttl : 0 ≤ r.ttl ∧ r.ttl ≤ 4294967295
structure Msg.Ok (m : Msg) : Prop where
  id : 0 ≤ m.id ∧ m.id ≤ 65535
  bits : 0 ≤ m.bits ∧ m.bits ≤ 65535
  asks : ∀ q ∈ m.asks, q.Ok
  says : ∀ r ∈ m.says, r.Ok
  heads : ∀ r ∈ m.heads, r.Ok
  extra : ∀ r ∈ m.extra, r.Ok
  len : m.asks.length < 4611686018427387904
structure MwSt where
  w : Wr
  i : Nat
set_option maxRecDepth 100000
set_option maxHeartbeats 16000000 in
theorem mwrite_ok (m : Msg) (hm : m.Ok) (limit : Int) (hlim : -9223372036854775808 ≤ limit ∧ limit ≤ 9223372036854775807) : FnOk Try.prog 35 [.agg m.cells, .d (.int .i64 limit)] (.tup [.d (.str (m.write limit).1), .d (.int .i64 (m.write limit).2)]) := by
  refine fnOk_of_run (TT := TT) (IN := lookI [(80, Try.f80, 1), (129, Try.f129, 2)]) TT_ok (INok_cons (INok_cons INok_nil Try.func129 (by kernel_rfl) (by kernel_rfl)) Try.func80 (by kernel_rfl) (by kernel_rfl)) mixed 1000 Try.func35 rfl (enters Try.func35 (by kernel_rfl) rfl) rfl 91 (by kernel_rfl) ?_
  conv => whnf
  refine .one (.data _ (mcheck_ok m hm.len) rfl rfl ?_)
  cases hc : m.check
  · have e : m.write limit = ([], 2) := by unfold Msg.write; rw [hc]; rfl
    rw [e]
    conv => whnf
    refine brT rfl ?_
    conv => whnf
    exact ⟨rfl, rfl, True.intro⟩
  have hcs := hc
  simp only [Msg.check, Bool.and_eq_true, decide_eq_true_eq] at hcs
  obtain ⟨⟨⟨⟨⟨⟨⟨l1, l2⟩, l3⟩, l4⟩, k1⟩, k2⟩, k3⟩, k4⟩ := hcs
  have hid := hm.id
  have hbits := hm.bits
  have hw1 : ∀ (i n : Nat), i < n → n ≤ 4096 → IntKind.i64.wrap ((i : Int) + 1) = ((i + 1 : Nat) : Int) := fun i n h1 h2 => by rw [w64_in _ (by omega)]; omega
  have hu : ∀ x : Int, 0 ≤ x ∧ x < 18446744073709551616 → IntKind.u64.wrap x = x := fun x hx => by rw [IntKind.wrap_u64]; omega
  conv => whnf
  refine brF rfl ?_
  conv => whnf
  refine .rel _ (new_among (fun _ => rfl) (wnew_ok (lm limit)) [_, _, _] (fun _ => rfl)) (fun r ks' hR => ?_)
  obtain ⟨rfl, rfl⟩ := hR
  have hok : (Wr.mk [] (lm limit) false []).Ok := ⟨by show _ ≤ lm limit; unfold lm; split <;> omega, by show lm limit ≤ _; unfold lm; split <;> omega, .inl rfl, fun e he => by cases he⟩
  have hwr : m.write limit = if (m.last limit).full then ([], 7) else ((m.last limit).buf, 0) := by unfold Msg.write; rw [hc]; rfl
  have hlast : m.last limit = ((((((Wr.mk [] (lm limit) false []).head m).asks m.asks).recs m.says).recs m.heads).recs m.extra) := rfl
  generalize Wr.mk [] (lm limit) false [] = w at hok hlast ⊢
  have e0 : IntKind.u64.wrap (pickI [IntKind.i64.wrap m.id, IntKind.i64.wrap m.bits, (m.asks.length : Int), (m.says.length : Int), (m.heads.length : Int), (m.extra.length : Int)] 0) = m.id := by
    show IntKind.u64.wrap (IntKind.i64.wrap m.id) = _
    rw [w64_in _ (by omega), hu _ (by omega)]
  have e1 : IntKind.u64.wrap (pickI [IntKind.i64.wrap m.id, IntKind.i64.wrap m.bits, (m.asks.length : Int), (m.says.length : Int), (m.heads.length : Int), (m.extra.length : Int)] (IntKind.i64.wrap (0 + 1))) = m.bits := by
    show IntKind.u64.wrap (IntKind.i64.wrap m.bits) = _
    rw [w64_in _ (by omega), hu _ (by omega)]
  have e2 : IntKind.u64.wrap (pickI [IntKind.i64.wrap m.id, IntKind.i64.wrap m.bits, (m.asks.length : Int), (m.says.length : Int), (m.heads.length : Int), (m.extra.length : Int)] (IntKind.i64.wrap ((IntKind.i64.wrap (0 + 1)) + 1))) = (m.asks.length : Int) := by
    show IntKind.u64.wrap (m.asks.length : Int) = _
    exact hu _ (by omega)
  have e3 : IntKind.u64.wrap (pickI [IntKind.i64.wrap m.id, IntKind.i64.wrap m.bits, (m.asks.length : Int), (m.says.length : Int), (m.heads.length : Int), (m.extra.length : Int)] (IntKind.i64.wrap ((IntKind.i64.wrap ((IntKind.i64.wrap (0 + 1)) + 1)) + 1))) = (m.says.length : Int) := by
    show IntKind.u64.wrap (m.says.length : Int) = _
    exact hu _ (by omega)
  have e4 : IntKind.u64.wrap (pickI [IntKind.i64.wrap m.id, IntKind.i64.wrap m.bits, (m.asks.length : Int), (m.says.length : Int), (m.heads.length : Int), (m.extra.length : Int)] (IntKind.i64.wrap ((IntKind.i64.wrap ((IntKind.i64.wrap ((IntKind.i64.wrap (0 + 1)) + 1)) + 1)) + 1))) = (m.heads.length : Int) := by
    show IntKind.u64.wrap (m.heads.length : Int) = _
    exact hu _ (by omega)
  have e5 : IntKind.u64.wrap (pickI [IntKind.i64.wrap m.id, IntKind.i64.wrap m.bits, (m.asks.length : Int), (m.says.length : Int), (m.heads.length : Int), (m.extra.length : Int)] (IntKind.i64.wrap ((IntKind.i64.wrap ((IntKind.i64.wrap ((IntKind.i64.wrap ((IntKind.i64.wrap (0 + 1)) + 1)) + 1)) + 1)) + 1))) = (m.extra.length : Int) := by
    show IntKind.u64.wrap (m.extra.length : Int) = _
    exact hu _ (by omega)
  conv => whnf
  refine .once ?_
  conv => whnf
  refine brT rfl ?_
  conv => whnf
  refine ⟨by decide, ?_⟩
  conv => whnf
  rw [e0]
  refine .rel _ (COk.thing Wr.fl (num_ok (w) hok 2 (.inr (.inl rfl)) m.id) [_, _, _] [_, _] _ rfl rfl) (fun x ks' hR => ?_)
  obtain ⟨_, wq, ⟨rfl, rfl⟩, rfl, rfl⟩ := hR
  have hok := hok.num 2 m.id
  conv => whnf
  refine .once ?_
  conv => whnf
  refine brT rfl ?_
  conv => whnf
  refine ⟨by decide, ?_⟩
  conv => whnf
  rw [e1]
  refine .rel _ (COk.thing Wr.fl (num_ok ((w).num 2 m.id) hok 2 (.inr (.inl rfl)) m.bits) [_, _, _] [_, _] _ rfl rfl) (fun x ks' hR => ?_)
  obtain ⟨_, wq, ⟨rfl, rfl⟩, rfl, rfl⟩ := hR
  have hok := hok.num 2 m.bits
  conv => whnf
  refine .once ?_
  conv => whnf
  refine brT rfl ?_
  conv => whnf
  refine ⟨by decide, ?_⟩
  conv => whnf
  rw [e2]
  refine .rel _ (COk.thing Wr.fl (num_ok (((w).num 2 m.id).num 2 m.bits) hok 2 (.inr (.inl rfl)) (m.asks.length : Int)) [_, _, _] [_, _] _ rfl rfl) (fun x ks' hR => ?_)
  obtain ⟨_, wq, ⟨rfl, rfl⟩, rfl, rfl⟩ := hR
  have hok := hok.num 2 (m.asks.length : Int)
  conv => whnf
  refine .once ?_
  conv => whnf
  refine brT rfl ?_
  conv => whnf
  refine ⟨by decide, ?_⟩
  conv => whnf
  rw [e3]
  refine .rel _ (COk.thing Wr.fl (num_ok ((((w).num 2 m.id).num 2 m.bits).num 2 (m.asks.length : Int)) hok 2 (.inr (.inl rfl)) (m.says.length : Int)) [_, _, _] [_, _] _ rfl rfl) (fun x ks' hR => ?_)
  obtain ⟨_, wq, ⟨rfl, rfl⟩, rfl, rfl⟩ := hR
  have hok := hok.num 2 (m.says.length : Int)
  conv => whnf
  refine .once ?_
  conv => whnf
  refine brT rfl ?_
  conv => whnf
  refine ⟨by decide, ?_⟩
  conv => whnf
  rw [e4]
  refine .rel _ (COk.thing Wr.fl (num_ok (((((w).num 2 m.id).num 2 m.bits).num 2 (m.asks.length : Int)).num 2 (m.says.length : Int)) hok 2 (.inr (.inl rfl)) (m.heads.length : Int)) [_, _, _] [_, _] _ rfl rfl) (fun x ks' hR => ?_)
  obtain ⟨_, wq, ⟨rfl, rfl⟩, rfl, rfl⟩ := hR
  have hok := hok.num 2 (m.heads.length : Int)
  conv => whnf
  refine .once ?_
  conv => whnf
  refine brT rfl ?_
  conv => whnf
  refine ⟨by decide, ?_⟩
  conv => whnf
  rw [e5]
  refine .rel _ (COk.thing Wr.fl (num_ok ((((((w).num 2 m.id).num 2 m.bits).num 2 (m.asks.length : Int)).num 2 (m.says.length : Int)).num 2 (m.heads.length : Int)) hok 2 (.inr (.inl rfl)) (m.extra.length : Int)) [_, _, _] [_, _] _ rfl rfl) (fun x ks' hR => ?_)
  obtain ⟨_, wq, ⟨rfl, rfl⟩, rfl, rfl⟩ := hR
  have hok := hok.num 2 (m.extra.length : Int)
  conv => whnf
  refine .once ?_
  conv => whnf
  refine brF rfl ?_
  have hhead : w.head m = ((((((w).num 2 m.id).num 2 m.bits).num 2 (m.asks.length : Int)).num 2 (m.says.length : Int)).num 2 (m.heads.length : Int)).num 2 (m.extra.length : Int) := rfl
  rw [hhead] at hlast
  generalize ((((((w).num 2 m.id).num 2 m.bits).num 2 (m.asks.length : Int)).num 2 (m.says.length : Int)).num 2 (m.heads.length : Int)).num 2 (m.extra.length : Int) = w1 at hok hlast ⊢
  conv => whnf
  clear e0 e1 e2 e3 e4 e5 hhead
  refine .inv MwSt (fun s => s.w.Ok ∧ s.i ≤ m.asks.length ∧ s.w.asks (m.asks.drop s.i) = w1.asks m.asks) (fun s => [(53, .d (.int .i64 s.i))]) (fun s => [(3, pk s.w.fl)]) (fun s => m.asks.length - s.i) ⟨⟨w1, 0⟩, [0, 1, 2, 3, 4, 5], ⟨hok, Nat.zero_le _, rfl⟩, ?_⟩ ?_
  · conv => whnf
    repeat' (first | exact True.intro | exact rfl | exact (fun _ _ _ _ h => ⟨packed_stable _, h⟩) | exact fun _ => Iff.rfl | exact fun _ _ => rfl | refine And.intro ?_ ?_)
  clear hok
  intro s hs
  obtain ⟨hok, hi, hrest⟩ := hs
  conv => whnf
  generalize s.w = wc at hok hrest ⊢
  generalize s.i = i at hi hrest ⊢
  refine ⟨fun c5 => ?_, fun c5 => ?_⟩
  · have c5' : i < m.asks.length := (by have h : (i : Int) < m.asks.length := of_decide_eq_true c5; omega)
    obtain ⟨q, hq⟩ : ∃ q, m.asks.getD i default = q := ⟨_, rfl⟩
    have hq2 : m.asks[i]? = some q := by rw [← hq, List.getD, List.getElem?_eq_getElem c5']; rfl
    have hqo : q.Ok := hm.asks q (List.mem_of_getElem? hq2)
    have hqt := hqo.ty
    have hqc := hqo.cl
    have hdr : m.asks.drop i = q :: m.asks.drop (i + 1) := by
      rw [List.drop_eq_getElem_cons c5']
      congr 1
      rw [List.getElem?_eq_getElem c5'] at hq2
      exact Option.some.inj hq2
    conv => whnf
    refine ⟨by omega, ?_⟩
    conv => whnf
    rw [Int.toNat_natCast, hq]
    refine .rel _ (COk.thing Wr.fl (wname_ok wc hok q.nm) [_, _, _] [_, _, _] _ rfl rfl) (fun x ks' hR => ?_)
    obtain ⟨_, wq, ⟨rfl, rfl⟩, rfl, rfl⟩ := hR
    have hoa := hok.name q.nm true
    conv => whnf
    rw [hu q.ty (by omega)]
    refine .rel _ (COk.thing Wr.fl (num_ok _ hoa 2 (.inr (.inl rfl)) q.ty) [_, _, _] [_, _, _] _ rfl rfl) (fun x ks' hR => ?_)
    obtain ⟨_, wq, ⟨rfl, rfl⟩, rfl, rfl⟩ := hR
    have hob := hoa.num 2 q.ty
    conv => whnf
    rw [hu q.cl (by omega)]
    refine .rel _ (COk.thing Wr.fl (num_ok _ hob 2 (.inr (.inl rfl)) q.cl) [_, _, _] [_, _, _] _ rfl rfl) (fun x ks' hR => ?_)
    obtain ⟨_, wq, ⟨rfl, rfl⟩, rfl, rfl⟩ := hR
    have hoc := hob.num 2 q.cl
    conv => whnf
    refine ⟨⟨_, i + 1⟩, [0, 1, 2, 3, 4, 5], ⟨hoc, c5', ?_⟩, by show m.asks.length - (i + 1) < m.asks.length - i; omega, ?_⟩
    · rw [← hrest, hdr]
      rfl
    conv => whnf
    rw [hw1 i _ c5' l1]
    repeat' (first | exact True.intro | exact rfl | exact (fun _ _ _ _ h => ⟨packed_stable _, h⟩) | exact fun _ => Iff.rfl | exact fun _ _ => rfl | refine And.intro ?_ ?_)
  have hia : i = m.asks.length := (by have h : ¬ (i : Int) < m.asks.length := of_decide_eq_false c5; omega)
  rw [hia, List.drop_of_length_le (Nat.le_refl _)] at hrest
  rw [← hrest] at hlast
  have hlast : m.last limit = ((wc.recs m.says).recs m.heads).recs m.extra := hlast
  clear hrest hi c5
  conv => whnf
  refine .inv MwSt (fun s => s.w.Ok ∧ s.i ≤ m.says.length ∧ s.w.recs (m.says.drop s.i) = wc.recs m.says) (fun s => [(78, .d (.int .i64 s.i))]) (fun s => [(3, pk s.w.fl)]) (fun s => m.says.length - s.i) ⟨⟨wc, 0⟩, [0, 1, 2, 3, 4, 5, 6, 7], ⟨hok, Nat.zero_le _, rfl⟩, ?_⟩ ?_
  · conv => whnf
    repeat' (first | exact True.intro | exact rfl | exact (fun _ _ _ _ h => ⟨packed_stable _, h⟩) | exact fun _ => Iff.rfl | exact fun _ _ => rfl | refine And.intro ?_ ?_)
  clear hok
  intro s hs
  obtain ⟨hok, hi, hrest⟩ := hs
  conv => whnf
  generalize s.w = wd0 at hok hrest ⊢
  generalize s.i = i at hi hrest ⊢
  refine ⟨fun c5 => ?_, fun c5 => ?_⟩
  · have c5' : i < m.says.length := (by have h : (i : Int) < m.says.length := of_decide_eq_true c5; omega)
    obtain ⟨q, hq⟩ : ∃ q, m.says.getD i default = q := ⟨_, rfl⟩
    have hq2 : m.says[i]? = some q := by rw [← hq, List.getD, List.getElem?_eq_getElem c5']; rfl
    have hqo : q.Ok := hm.says q (List.mem_of_getElem? hq2)
    have hqk : q.check = true := List.all_eq_true.mp k2 q (List.mem_of_getElem? hq2)
    have hdr : m.says.drop i = q :: m.says.drop (i + 1) := by
      rw [List.drop_eq_getElem_cons c5']
      congr 1
      rw [List.getElem?_eq_getElem c5'] at hq2
      exact Option.some.inj hq2
    conv => whnf
    refine ⟨by omega, ?_⟩
    conv => whnf
    rw [Int.toNat_natCast, hq]
    refine .rel _ (COk.thing Wr.fl (wrec_ok wd0 hok q hqo.ty hqo.cl hqo.ttl) [_, _, _] [_, _, _, _, _] _ rfl rfl) (fun x ks' hR => ?_)
    obtain ⟨_, wq, ⟨rfl, rfl⟩, rfl, rfl⟩ := hR
    have hoa := hok.record q
    rw [rec_true hqk]
    conv => whnf
    refine brF rfl ?_
    conv => whnf
    refine ⟨⟨_, i + 1⟩, [0, 1, 2, 3, 4, 5, 6, 7], ⟨hoa, c5', ?_⟩, by show m.says.length - (i + 1) < m.says.length - i; omega, ?_⟩
    · rw [← hrest, hdr]
      rfl
    conv => whnf
    rw [hw1 i _ c5' l2]
    repeat' (first | exact True.intro | exact rfl | exact (fun _ _ _ _ h => ⟨packed_stable _, h⟩) | exact fun _ => Iff.rfl | exact fun _ _ => rfl | refine And.intro ?_ ?_)
  have hia : i = m.says.length := (by have h : ¬ (i : Int) < m.says.length := of_decide_eq_false c5; omega)
  rw [hia, List.drop_of_length_le (Nat.le_refl _)] at hrest
  rw [← hrest] at hlast
  have hlast : m.last limit = ((wd0.recs m.heads).recs m.extra) := hlast
  clear hrest hi c5
  conv => whnf
  refine .inv MwSt (fun s => s.w.Ok ∧ s.i ≤ m.heads.length ∧ s.w.recs (m.heads.drop s.i) = wd0.recs m.heads) (fun s => [(78, .d (.int .i64 s.i))]) (fun s => [(3, pk s.w.fl)]) (fun s => m.heads.length - s.i) ⟨⟨wd0, 0⟩, [0, 1, 2, 3, 4, 5, 6, 7], ⟨hok, Nat.zero_le _, rfl⟩, ?_⟩ ?_
  · conv => whnf
    repeat' (first | exact True.intro | exact rfl | exact (fun _ _ _ _ h => ⟨packed_stable _, h⟩) | exact fun _ => Iff.rfl | exact fun _ _ => rfl | refine And.intro ?_ ?_)
  clear hok
  intro s hs
  obtain ⟨hok, hi, hrest⟩ := hs
  conv => whnf
  generalize s.w = wd1 at hok hrest ⊢
  generalize s.i = i at hi hrest ⊢
  refine ⟨fun c5 => ?_, fun c5 => ?_⟩
  · have c5' : i < m.heads.length := (by have h : (i : Int) < m.heads.length := of_decide_eq_true c5; omega)
    obtain ⟨q, hq⟩ : ∃ q, m.heads.getD i default = q := ⟨_, rfl⟩
    have hq2 : m.heads[i]? = some q := by rw [← hq, List.getD, List.getElem?_eq_getElem c5']; rfl
    have hqo : q.Ok := hm.heads q (List.mem_of_getElem? hq2)
    have hqk : q.check = true := List.all_eq_true.mp k3 q (List.mem_of_getElem? hq2)
    have hdr : m.heads.drop i = q :: m.heads.drop (i + 1) := by
      rw [List.drop_eq_getElem_cons c5']
      congr 1
      rw [List.getElem?_eq_getElem c5'] at hq2
      exact Option.some.inj hq2
    conv => whnf
    refine ⟨by omega, ?_⟩
    conv => whnf
    rw [Int.toNat_natCast, hq]
    refine .rel _ (COk.thing Wr.fl (wrec_ok wd1 hok q hqo.ty hqo.cl hqo.ttl) [_, _, _] [_, _, _, _, _] _ rfl rfl) (fun x ks' hR => ?_)
    obtain ⟨_, wq, ⟨rfl, rfl⟩, rfl, rfl⟩ := hR
    have hoa := hok.record q
    rw [rec_true hqk]
    conv => whnf
    refine brF rfl ?_
    conv => whnf
    refine ⟨⟨_, i + 1⟩, [0, 1, 2, 3, 4, 5, 6, 7], ⟨hoa, c5', ?_⟩, by show m.heads.length - (i + 1) < m.heads.length - i; omega, ?_⟩
    · rw [← hrest, hdr]
      rfl
    conv => whnf
    rw [hw1 i _ c5' l3]
    repeat' (first | exact True.intro | exact rfl | exact (fun _ _ _ _ h => ⟨packed_stable _, h⟩) | exact fun _ => Iff.rfl | exact fun _ _ => rfl | refine And.intro ?_ ?_)
  have hia : i = m.heads.length := (by have h : ¬ (i : Int) < m.heads.length := of_decide_eq_false c5; omega)
  rw [hia, List.drop_of_length_le (Nat.le_refl _)] at hrest
  rw [← hrest] at hlast
  have hlast : m.last limit = (wd1.recs m.extra) := hlast
  clear hrest hi c5
  conv => whnf
  refine .inv MwSt (fun s => s.w.Ok ∧ s.i ≤ m.extra.length ∧ s.w.recs (m.extra.drop s.i) = wd1.recs m.extra) (fun s => [(78, .d (.int .i64 s.i))]) (fun s => [(3, pk s.w.fl)]) (fun s => m.extra.length - s.i) ⟨⟨wd1, 0⟩, [0, 1, 2, 3, 4, 5, 6, 7], ⟨hok, Nat.zero_le _, rfl⟩, ?_⟩ ?_
  · conv => whnf
    repeat' (first | exact True.intro | exact rfl | exact (fun _ _ _ _ h => ⟨packed_stable _, h⟩) | exact fun _ => Iff.rfl | exact fun _ _ => rfl | refine And.intro ?_ ?_)
  clear hok
  intro s hs
  obtain ⟨hok, hi, hrest⟩ := hs
  conv => whnf
  generalize s.w = wd2 at hok hrest ⊢
  generalize s.i = i at hi hrest ⊢
  refine ⟨fun c5 => ?_, fun c5 => ?_⟩
  · have c5' : i < m.extra.length := (by have h : (i : Int) < m.extra.length := of_decide_eq_true c5; omega)
    obtain ⟨q, hq⟩ : ∃ q, m.extra.getD i default = q := ⟨_, rfl⟩
    have hq2 : m.extra[i]? = some q := by rw [← hq, List.getD, List.getElem?_eq_getElem c5']; rfl
    have hqo : q.Ok := hm.extra q (List.mem_of_getElem? hq2)
    have hqk : q.check = true := List.all_eq_true.mp k4 q (List.mem_of_getElem? hq2)
    have hdr : m.extra.drop i = q :: m.extra.drop (i + 1) := by
      rw [List.drop_eq_getElem_cons c5']
      congr 1
      rw [List.getElem?_eq_getElem c5'] at hq2
      exact Option.some.inj hq2
    conv => whnf
    refine ⟨by omega, ?_⟩
    conv => whnf
    rw [Int.toNat_natCast, hq]
    refine .rel _ (COk.thing Wr.fl (wrec_ok wd2 hok q hqo.ty hqo.cl hqo.ttl) [_, _, _] [_, _, _, _, _] _ rfl rfl) (fun x ks' hR => ?_)
    obtain ⟨_, wq, ⟨rfl, rfl⟩, rfl, rfl⟩ := hR
    have hoa := hok.record q
    rw [rec_true hqk]
    conv => whnf
    refine brF rfl ?_
    conv => whnf
    refine ⟨⟨_, i + 1⟩, [0, 1, 2, 3, 4, 5, 6, 7], ⟨hoa, c5', ?_⟩, by show m.extra.length - (i + 1) < m.extra.length - i; omega, ?_⟩
    · rw [← hrest, hdr]
      rfl
    conv => whnf
    rw [hw1 i _ c5' l4]
    repeat' (first | exact True.intro | exact rfl | exact (fun _ _ _ _ h => ⟨packed_stable _, h⟩) | exact fun _ => Iff.rfl | exact fun _ _ => rfl | refine And.intro ?_ ?_)
  have hia : i = m.extra.length := (by have h : ¬ (i : Int) < m.extra.length := of_decide_eq_false c5; omega)
  rw [hia, List.drop_of_length_le (Nat.le_refl _)] at hrest
  rw [← hrest] at hlast
  have hlast : m.last limit = wd2 := hlast
  clear hrest hi c5
  conv => whnf
  refine .rel _ (COk.thing Wr.fl (out_ok wd2) [_, _, _] [_, _, _, _] _ rfl rfl) (fun x ks' hR => ?_)
  obtain ⟨_, wq, ⟨rfl, hq⟩, rfl, rfl⟩ := hR
  rw [hq]
  clear hq
  rw [hwr, hlast]
  cases wd2.full
  · conv => whnf
    exact ⟨rfl, rfl, True.intro⟩
  · conv => whnf
    exact ⟨rfl, rfl, True.intro⟩
end Go.Proofs.Ytdphkaiijlekhaa
namespace Go.Proofs.Ytdphkaiijlekhaa
open Go Go.Eng
theorem lays240 : Go.Proofs.Lays.n240 Try.prog Try.lays156_ren := by
  have L := Try.lays156
  exact { mixed := L.mixed, f240 := L.f240, f276 := L.f276, t0 := L.t0, a0 := L.a0, z0 := L.z0, v0 := L.v0, t4 := L.t4, a4 := L.a4, z4 := L.z4, v4 := L.v4, t9 := L.t9, a9 := L.a9, z9 := L.z9, v9 := L.v9, t20 := L.t20, a20 := L.a20, z20 := L.z20, v20 := L.v20, t70 := L.t70, a70 := L.a70, z70 := L.z70, v70 := L.v70, t72 := L.t72, a72 := L.a72, z72 := L.z72, v72 := L.v72, t164 := L.t164, a164 := L.a164, z164 := L.z164, v164 := L.v164 }
theorem setCell_eq {w : World} {b : Nat} {vs : Array Value} {e : TypeId} {fz : Nat × Nat} (h : w.heap[b]? = some (.cells vs e fz)) (off : Nat) (v : Value) :
    w.setCell ⟨b, off, none⟩ v = World.setBlock w b (.cells (vs.setIfInBounds off v) e fz) := by
  unfold World.setCell World.setBlock
  congr 1
  apply Array.ext_getElem?
  intro j
  have hb : b < w.heap.size := lt_of_block h
  rw [Array.getElem?_modify, Array.getElem?_setIfInBounds]
  by_cases e1 : b = j
  · subst e1
    rw [if_pos rfl, if_pos rfl, if_pos hb, h]
    rfl
  · rw [if_neg e1, if_neg e1]
theorem chk_fresh (s : SV) : COk Try.prog 178 [.ptr 0 0] [.cells 246 [.v (.pointer none), s]] (fun r k => r = .tup [] ∧ k = [.cells 246 [.ptr 0 0, s]]) := by
  refine ⟨enters Try.func178 (by kernel_rfl) rfl, fun X w β fp vs hM hl hd => ?_⟩
  match vs, hl with
  | [v0], _ =>
    have h0 := hd 0 _ v0 rfl rfl
    cases h0 with
    | ptr _ _ L hL =>
      have hb := hM.at (i := 0) rfl (by simp) hL
      cases hb with
      | cells _ _ us hfp hblk hlen hden h1 =>
        have hsz : us.size = 2 := by simpa using hlen.symm
        have hu0 : us[0]? = some (.pointer none) := by
          have hlt : 0 < us.size := by omega
          have hx := hden 0 _ us[0] rfl (by simp [hlt])
          have hy : us[0] = .pointer none := by
            generalize us[0] = x at hx
            cases hx
            rfl
          rw [Array.getElem?_eq_getElem hlt, hy]
        have hc0 : w.cell? ⟨L.b, 0, none⟩ = some (.pointer none) := by simp [World.cell?, hblk, hu0]
        have hsh : w.shape? L.b = some (246, 2) := by simp [World.shape?, hblk, hsz]
        have hfz : w.frozen? ⟨L.b, 0, none⟩ = false := by simp [World.frozen?, hblk]
        refine (Any.Builder_copyCheck_fresh lays240 Try.Builder_Extra_156.toX72 L.b w hc0 hsh hfz).mono ?_
        rintro e w' ⟨rfl, rfl⟩
        have hset : w.setCell ⟨L.b, 0, none⟩ (.pointer (some ⟨L.b, 0, none⟩)) = World.setBlock w L.b (.cells (us.setIfInBounds 0 (.pointer (some ⟨L.b, 0, none⟩))) 246 (0, 0)) := setCell_eq hblk _ _
        rw [hset]
        have W := hM.store (i := 0) (l' := [.ptr 0 0, s]) (vs' := us.setIfInBounds 0 (.pointer (some ⟨L.b, 0, none⟩))) rfl hL hfp hblk (by simpa using hlen) (fun j s' u hj hu => by
          rw [Array.getElem?_setIfInBounds] at hu
          match j with
          | 0 =>
            injection hj with hj
            subst hj
            rw [if_pos rfl] at hu
            split at hu
            · injection hu with hu
              subst hu
              exact .ptr 0 0 L hL
            · cases hu
          | j + 1 =>
            rw [if_neg (by omega)] at hu
            exact hden (j + 1) s' u hj hu) (fun j u hu => by
          rw [Array.getElem?_setIfInBounds] at hu
          split at hu
          · split at hu
            · injection hu with hu
              subst hu
              rfl
            · cases hu
          · exact h1 j u hu)
        exact ⟨_, .tup [], _, _, _, rfl, ⟨rfl, rfl⟩, W, .tup _ _ rfl (fun j s' u hj _ => by simp at hj)⟩
theorem chk_used (s : SV) (rest : List KB) : COk Try.prog 178 [.ptr 0 0] (.cells 246 [.ptr 0 0, s] :: rest) (fun r k => r = .tup [] ∧ k = .cells 246 [.ptr 0 0, s] :: rest) := by
  refine ⟨enters Try.func178 (by kernel_rfl) rfl, fun X w β fp vs hM hl hd => ?_⟩
  match vs, hl with
  | [v0], _ =>
    have h0 := hd 0 _ v0 rfl rfl
    cases h0 with
    | ptr _ _ L hL =>
      have hb := hM.at (i := 0) rfl (by simp) hL
      cases hb with
      | cells _ _ us hfp hblk hlen hden h1 =>
        have hsz : us.size = 2 := by simpa using hlen.symm
        have hu0 : us[0]? = some (.pointer (some ⟨L.b, 0, none⟩)) := by
          have hlt : 0 < us.size := by omega
          have hx := hden 0 _ us[0] rfl (by simp [hlt])
          have hy : us[0] = .pointer (some ⟨L.b, 0, none⟩) := by
            generalize us[0] = x at hx
            cases hx with
            | ptr _ _ L' hL' =>
              rw [hL] at hL'
              cases hL'
              rfl
          rw [Array.getElem?_eq_getElem hlt, hy]
        have hc0 : w.cell? ⟨L.b, 0, none⟩ = some (.pointer (some ⟨L.b, 0, none⟩)) := by simp [World.cell?, hblk, hu0]
        refine (Any.Builder_copyCheck_used lays240 Try.Builder_Extra_156.toX72 L.b w hc0).mono ?_
        rintro e w' ⟨rfl, rfl⟩
        exact ⟨_, .tup [], _, _, _, rfl, ⟨rfl, rfl⟩, Went.refl hM, .tup _ _ rfl (fun j s' u hj _ => by simp at hj)⟩
theorem pk1 {X : Nat → Prop} {w : World} {β : Env} {fp : Nat → Nat → Prop} {k : KB} (h : Mem X w β fp [k]) : Mem X w β fp [pk [k]] := by
  have h0 : ∀ i b, fp i b → i = 0 := fun i b hb => by
    obtain ⟨L, hL⟩ := h.kn i b hb
    cases i with
    | zero => rfl
    | succ i => rw [h.kl (i + 1) (by simp)] at hL; cases hL
  refine ⟨⟨h.xa, h.xb, h.dis, h.kw, h.kn, fun i L k' hk hne hL => ?_⟩, h.kl, fun i t dom cols hi => ?_⟩
  · cases i with
    | succ i => simp at hk
    | zero =>
      simp only [List.getElem?_cons_zero, Option.some.injEq] at hk
      subst hk
      exact .obj _ (packed_stable [k]) ⟨β, fp, hL, h.kl, fun x => ⟨fun e => ⟨0, e⟩, fun ⟨j, e⟩ => by rw [h0 j x e] at e; exact e⟩, h.dis, h.kn, h.ka, fun i L k hk hne hL => h.kb i L k hk hne hL⟩
  · cases i with
    | zero => simp [pk] at hi
    | succ i => simp at hi
/-- A single block as a thing, at the begin. -/
theorem packIn {P : Program} {f : FuncId} {al : List SV} {k : KB} {R : SV → List KB → Prop} (h : COk P f al [pk [k]] R) : COk P f al [k] R :=
  ⟨h.1, fun X w β fp vs hM hl hd => h.2 X w β fp vs (pk1 hM) hl hd⟩
/-- A builder: fresh, written to, or at its end. -/
inductive Bst where
  | fresh
  | live (s : List UInt8)
  | dead
def Bst.fl : Bst → List KB
  | .fresh => [.cells 246 [.v (.pointer none), nilS]]
  | .live s => [.cells 246 [.ptr 0 0, .all 1], .row 5 1 s.length .iff (fun j => [.int .u8 (byteAt s j)])]
  | .dead => [.cells 246 [.ptr 0 0, .any]]
set_option maxRecDepth 100000 in
theorem bw0_ok (s : List UInt8) (hs : s.length ≤ 70368744177664) : COk Try.prog 162 [.ptr 0 0, .d (.str s)] [pk (Bst.fl .fresh)] (fun r k => ∃ b1, k = [pk (Bst.fl b1)] ∧ (r = .tup [.d (.int .i64 s.length), .v .nilIface] ∧ b1 = .live s)) := by
  refine COk.toThing Bst.fl (pOk_of_run (TT := TT) (IN := lookI []) TT_ok INok_nil mixed 1000 Try.func162 rfl (enters Try.func162 (by kernel_rfl) rfl) 17 (by kernel_rfl) rfl ?_ ?_)
  · rintro r l ⟨w1, _, rfl, _⟩
    rfl
  conv => whnf
  refine .rel _ (chk_fresh _) (fun x ks' hR => ?_)
  obtain ⟨rfl, rfl⟩ := hR
  conv => whnf
  refine ⟨by omega, ?_⟩
  conv => whnf
  refine ⟨[0, 1], .tup [.d (.int .i64 s.length), .v .nilIface], Bst.fl (.live s), rfl, rfl, rfl, ?_, _, rfl, rfl, rfl⟩
  repeat' (first | exact True.intro | exact rfl | exact fun _ => Iff.rfl | exact fun _ _ => rfl | exact renM_rests _ _ | exact (List.length_append ..).symm | exact byteAt_cat _ _ | refine And.intro ?_ ?_)
set_option maxRecDepth 100000 in
theorem bw1_ok (b s : List UInt8) (hs : b.length + s.length ≤ 70368744177664) : COk Try.prog 162 [.ptr 0 0, .d (.str s)] [pk (Bst.fl (.live b))] (fun r k => ∃ b1, k = [pk (Bst.fl b1)] ∧ (r = .tup [.d (.int .i64 s.length), .v .nilIface] ∧ b1 = .live (b ++ s))) := by
  refine COk.toThing Bst.fl (pOk_of_run (TT := TT) (IN := lookI []) TT_ok INok_nil mixed 1000 Try.func162 rfl (enters Try.func162 (by kernel_rfl) rfl) 17 (by kernel_rfl) rfl ?_ ?_)
  · rintro r l ⟨w1, _, rfl, _⟩
    rfl
  conv => whnf
  refine .rel _ (chk_used _ _) (fun x ks' hR => ?_)
  obtain ⟨rfl, rfl⟩ := hR
  conv => whnf
  refine ⟨by omega, ?_⟩
  conv => whnf
  refine ⟨[0, 2], .tup [.d (.int .i64 s.length), .v .nilIface], Bst.fl (.live (b ++ s)), rfl, rfl, rfl, ?_, _, rfl, rfl, rfl⟩
  repeat' (first | exact True.intro | exact rfl | exact fun _ => Iff.rfl | exact fun _ _ => rfl | exact renM_rests _ _ | exact (List.length_append ..).symm | exact byteAt_cat _ _ | refine And.intro ?_ ?_)
set_option maxRecDepth 100000 in
theorem bs_ok (s : List UInt8) (hs : s.length ≤ 70368744177664) : COk Try.prog 163 [.ptr 0 0] [pk (Bst.fl (.live s))] (fun r k => ∃ b1, k = [pk (Bst.fl b1)] ∧ (r = .d (.str s) ∧ b1 = .dead)) := by
  refine COk.toThing Bst.fl (pOk_of_run (TT := TT) (IN := lookI []) TT_ok INok_nil mixed 1000 Try.func163 rfl (enters Try.func163 (by kernel_rfl) rfl) 13 (by kernel_rfl) rfl ?_ ?_)
  · rintro r l ⟨w1, _, rfl, _⟩
    rfl
  cases s with
  | nil =>
    conv => whnf
    refine ⟨rfl, ?_⟩
    conv => whnf
    refine ⟨[0], .d (.str []), Bst.fl .dead, rfl, rfl, rfl, ?_, _, rfl, rfl, rfl⟩
    repeat' (first | exact True.intro | exact rfl | exact fun _ => Iff.rfl | exact fun _ _ => rfl | exact renM_rests _ _ | exact (List.length_append ..).symm | exact byteAt_cat _ _ | refine And.intro ?_ ?_)
  | cons a s =>
    conv => whnf
    refine ⟨Nat.succ_le_succ (Nat.zero_le _), ?_⟩
    conv => whnf
    have hb : bytesOf (a :: s).length (fun j => [.int .u8 (byteAt (a :: s) j)]) = a :: s := bytesOf_bytesF (a :: s)
    refine ⟨⟨rfl, by omega, fun i _ => ⟨((a :: s)[i]?).getD 0, rfl⟩⟩, ?_⟩
    rw [hb]
    conv => whnf
    refine ⟨[0], .d (.str (a :: s)), Bst.fl .dead, rfl, rfl, rfl, ?_, _, rfl, rfl, rfl⟩
    repeat' (first | exact True.intro | exact rfl | exact fun _ => Iff.rfl | exact fun _ _ => rfl | exact renM_rests _ _ | exact (List.length_append ..).symm | exact byteAt_cat _ _ | refine And.intro ?_ ?_)
end Go.Proofs.Ytdphkaiijlekhaa
namespace Go.Proofs.Ytdphkaiijlekhaa
open Go Go.Eng
theorem rnGo_end (s : List UInt8) : ∀ f begin at_ bh nm, (∀ b, bh = some b → b ≤ s.length) → ∀ e, (rnGo s f begin at_ bh nm).2 = some e → e ≤ s.length := by
  intro f
  induction f with
  | zero => intro begin at_ bh nm hb e he; exact hb e he
  | succ f ih =>
    intro begin at_ bh nm hb e he
    have hg : ∀ k, k ≤ s.length → ∀ e, some (bh.getD k) = some e → e ≤ s.length := fun k hk e he => by
      cases bh with
      | none => cases he; exact hk
      | some b => cases he; exact hb b rfl
    unfold rnGo at he
    split at he
    · rename_i h1
      split at he
      · exact hg _ (by omega) e he
      · split at he
        · exact ih _ _ _ _ hb e he
        · split at he
          · rename_i h2
            split at he
            · exact hg _ (by omega) e he
            · exact ih _ _ _ _ (fun b hb => hg _ (by omega) b hb) e he
          · exact hb e he
    · exact hb e he
theorem Rdr.Ok.name {r : Rdr} (h : r.Ok) : r.name.1.Ok := by
  unfold Rdr.name
  split
  · exact h
  · split
    · refine ⟨h.len, ?_⟩
      show (rnAll r.s r.p).2.getD 0 ≤ r.s.length
      cases he : (rnAll r.s r.p).2 with
      | none => exact Nat.zero_le _
      | some e => exact rnGo_end r.s _ _ _ _ _ (fun b hb => by cases hb) e he
    · exact ⟨h.len, h.p⟩
theorem Rdr.name_s (r : Rdr) : r.name.1.s = r.s := by
  unfold Rdr.name
  repeat' split
  all_goals rfl
theorem Rdr.raw_s (r : Rdr) (n : Int) : (r.raw n).1.s = r.s := by
  unfold Rdr.raw
  repeat' split
  all_goals rfl
theorem Rdr.name_le (r : Rdr) : r.name.2.length ≤ 255 := by
  unfold Rdr.name
  split
  · exact Nat.zero_le _
  · split
    · rename_i h; exact h.2.1
    · exact Nat.zero_le _
theorem Rdr.raw_le (r : Rdr) (n : Int) : (r.raw n).2.length ≤ r.s.length := by
  unfold Rdr.raw
  split
  · exact Nat.zero_le _
  · split
    · exact Nat.zero_le _
    · show ((r.s.drop r.p).take n.toNat).length ≤ _
      simp
      omega
theorem Rdr.raw_p (r : Rdr) (n : Int) : r.p ≤ (r.raw n).1.p := by
  unfold Rdr.raw
  repeat' split
  · exact Nat.le_refl _
  · exact Nat.le_refl _
  · exact Nat.le_add_right _ _
theorem Rdr.Ok.part {r : Rdr} (h : r.Ok) (n : Int) : (r.part n).2.Ok := by
  have h1 := h.raw n
  have h2 := h1.p
  rw [Rdr.raw_s] at h2
  have h3 := r.raw_p n
  have h4 := h.len
  unfold Rdr.part
  split
  · exact ⟨by simp, Nat.le_refl _⟩
  · refine ⟨by simp; omega, ?_⟩
    show (if r.bad then 0 else r.p) ≤ (r.s.take (r.raw n).1.p).length
    simp
    split <;> omega
theorem Rdr.part_s (r : Rdr) (n : Int) : (r.part n).2.s.length ≤ r.s.length := by
  unfold Rdr.part
  split
  · exact Nat.zero_le _
  · simp
    omega
/-- Names are read, one behind the other. -/
def Rdr.names : Nat → Rdr → List UInt8 → Rdr × List UInt8
  | 0, r, b => (r, b)
  | k + 1, r, b => Rdr.names k r.name.1 (b ++ r.name.2)
/-- What lies in a part, as its type has it. -/
def Rdr.body (r : Rdr) (t : Int) (width : Int) : Rdr × List UInt8 := match formOf t with
  | none => r.raw width
  | some f =>
    let a := r.raw (2 * f.1)
    let b := Rdr.names f.2.1 a.1 a.2
    let c := b.1.raw (4 * f.2.2)
    (c.1, b.2 ++ c.2)
def Rdr.rdata (r : Rdr) (t : Int) (width : Int) : List UInt8 × Int :=
  if (r.part width).2.bad then ([], 5) else
  let q := (r.part width).2.body t width
  if q.1.bad || decide (0 < q.1.s.length - q.1.p) || !rcheck t q.2 then ([], 6) else (q.2, 0)
theorem bw0_among (pre : List KB) (s : List UInt8) (hs : s.length ≤ 70368744177664) : COk Try.prog 162 [.ptr pre.length 0, .d (.str s)] (pre ++ [.cells 246 [.v (.pointer none), nilS]]) (fun r k => r = .tup [.d (.int .i64 s.length), .v .nilIface] ∧ k = pre ++ [pk (Bst.fl (.live s))]) := by
  have := (packIn (bw0_ok s hs)).among pre [] (fun s k ⟨b1, hk, _⟩ => by rw [hk]; exact Nat.le_refl _) rfl
  refine COk.imp (this : COk _ _ [.ptr pre.length 0, .d (.str s)] (pre ++ [.cells 246 [.v (.pointer none), nilS]]) _) fun s k ⟨s0, k1, ⟨b1, hk1, hr, hb1⟩, hs, hk⟩ => ?_
  subst hr hk1 hb1
  exact ⟨by rw [hs]; rfl, by rw [hk]; rfl⟩
structure RdSt where
  p : Rdr
  b : List UInt8
  i : Nat
set_option maxRecDepth 100000 in
set_option maxHeartbeats 8000000 in
theorem rrdata_ok (r : Rdr) (hr : r.Ok) (hs : r.s.length < 1099511627776) (t : Int) (width : Int) (hn : -9223372036854775808 ≤ width ∧ width ≤ 9223372036854775807) :
    COk Try.prog 140 [.ptr 0 0, .d (.int .u16 t), .d (.int .i64 width)] [r.kb] (fun s k => ∃ r1, k = [Rdr.kb r1] ∧ (s = .tup [.d (.str (r.rdata t width).1), .d (.int .i64 (r.rdata t width).2)] ∧ r1 = (r.part width).1)) := by
  refine cOk_of_run (TT := TT) (IN := lookI [(94, Try.f94, 1), (96, Try.f96, 1)]) TT_ok (INok_cons (INok_cons INok_nil Try.func96 (by kernel_rfl) (by kernel_rfl)) Try.func94 (by kernel_rfl) (by kernel_rfl)) mixed 1000 Try.func140 rfl (enters Try.func140 (by kernel_rfl) rfl) 59 (by kernel_rfl) ?_
  conv => whnf
  refine .rel _ (part_ok r hr width hn) (fun x ks' hR => ?_)
  obtain ⟨rfl, rfl⟩ := hR
  have hp := hr.part width
  have hps := r.part_s width
  conv => whnf
  refine ⟨fun h1 => ?_, fun h1 => ?_⟩
  · have e : r.rdata t width = ([], 5) := by unfold Rdr.rdata; rw [if_pos h1]
    conv => whnf
    refine ⟨[0], .tup [.d (.str []), .d (.int .i64 5)], [(r.part width).1.kb], rfl, rfl, rfl, ?_, _, rfl, by rw [e], rfl⟩
    repeat' (first | exact True.intro | exact rfl | exact fun _ => Iff.rfl | exact fun _ _ => rfl | exact renM_ent rfl _ | refine And.intro ?_ ?_)
  have e : r.rdata t width = (let q := (r.part width).2.body t width; if q.1.bad || decide (0 < q.1.s.length - q.1.p) || !rcheck t q.2 then ([], 6) else (q.2, 0)) := by unfold Rdr.rdata; rw [if_neg (by simp [h1])]
  rw [e]
  clear e
  generalize (r.part width).2 = p at hp hps h1 ⊢
  generalize (r.part width).1 = r1
  conv => whnf
  have hfo := formOf_ok t
  cases hf : formOf t with
  | none =>
    rw [hf] at hfo
    refine .one (.data _ hfo rfl rfl ?_)
    conv => whnf
    refine .rel _ (rdr_fam (raw_ok p hp width hn) [_] [_] _ rfl rfl) (fun x ks' hR => ?_)
    obtain ⟨_, q, ⟨rfl, rfl⟩, rfl, rfl⟩ := hR
    have hb : p.body t width = p.raw width := by unfold Rdr.body; rw [hf]
    rw [hb]
    have hq := hp.raw width
    generalize p.raw width = q at hq ⊢
    conv => whnf
    have hql := hq.len
    have hqp := hq.p
    have hsub : IntKind.i64.wrap ((q.1.s.length : Int) - q.1.p) = (q.1.s.length : Int) - q.1.p := w64_in _ (by omega)
    refine ⟨fun h2 => ?_, fun h2 => ?_⟩
    · conv => whnf
      refine ⟨[0], .tup [.d (.str []), .d (.int .i64 6)], [r1.kb], rfl, rfl, rfl, ?_, _, rfl, by simp [h2], rfl⟩
      repeat' (first | exact True.intro | exact rfl | exact fun _ => Iff.rfl | exact fun _ _ => rfl | exact renM_ent rfl _ | refine And.intro ?_ ?_)
    conv => whnf
    refine brF h2 ?_
    conv => whnf
    rw [hsub]
    refine ⟨fun h3 => ?_, fun h3 => ?_⟩
    · have h3' : 0 < q.1.s.length - q.1.p := by have h : ((q.1.s.length : Int) - q.1.p) > 0 := of_decide_eq_true h3
                                                omega
      conv => whnf
      refine ⟨[0], .tup [.d (.str []), .d (.int .i64 6)], [r1.kb], rfl, rfl, rfl, ?_, _, rfl, by simp [h3'], rfl⟩
      repeat' (first | exact True.intro | exact rfl | exact fun _ => Iff.rfl | exact fun _ _ => rfl | exact renM_ent rfl _ | refine And.intro ?_ ?_)
    have h3' : ¬ 0 < q.1.s.length - q.1.p := by have h : ¬ ((q.1.s.length : Int) - q.1.p) > 0 := of_decide_eq_false h3
                                                omega
    conv => whnf
    refine .one (.data _ (rcheck_ok t q.2) rfl rfl ?_)
    cases hc : rcheck t q.2
    · conv => whnf
      refine brT rfl ?_
      conv => whnf
      refine ⟨[0], .tup [.d (.str []), .d (.int .i64 6)], [r1.kb], rfl, rfl, rfl, ?_, _, rfl, by simp [hc], rfl⟩
      repeat' (first | exact True.intro | exact rfl | exact fun _ => Iff.rfl | exact fun _ _ => rfl | exact renM_ent rfl _ | refine And.intro ?_ ?_)
    · conv => whnf
      refine brF rfl ?_
      conv => whnf
      refine ⟨[0], .tup [.d (.str q.2), .d (.int .i64 0)], [r1.kb], rfl, rfl, rfl, ?_, _, rfl, by simp [hc, h2, h3'], rfl⟩
      repeat' (first | exact True.intro | exact rfl | exact fun _ => Iff.rfl | exact fun _ _ => rfl | exact renM_ent rfl _ | refine And.intro ?_ ?_)
  | some f =>
    have hfl := formOf_le hf
    rw [hf] at hfo
    refine .one (.data _ hfo rfl rfl ?_)
    conv => whnf
    have hw2 : IntKind.i64.wrap (2 * (f.1 : Int)) = 2 * (f.1 : Int) := w64_in _ (by omega)
    have hw4 : IntKind.i64.wrap (4 * (f.2.2 : Int)) = 4 * (f.2.2 : Int) := w64_in _ (by omega)
    rw [hw2]
    refine .rel _ (rdr_fam (raw_ok p hp (2 * f.1) (by omega)) [_] [_, _] _ rfl rfl) (fun x ks' hR => ?_)
    obtain ⟨_, q, ⟨rfl, rfl⟩, rfl, rfl⟩ := hR
    conv => whnf
    refine .rel _ (bw0_among [_, _, _] (p.raw (2 * f.1)).2 (by have := p.raw_le (2 * f.1); omega)) (fun x ks' hR => ?_)
    obtain ⟨rfl, rfl⟩ := hR
    have hb : p.body t width = (((Rdr.names f.2.1 (p.raw (2 * f.1)).1 (p.raw (2 * f.1)).2).1.raw (4 * f.2.2)).1, (Rdr.names f.2.1 (p.raw (2 * f.1)).1 (p.raw (2 * f.1)).2).2 ++ ((Rdr.names f.2.1 (p.raw (2 * f.1)).1 (p.raw (2 * f.1)).2).1.raw (4 * f.2.2)).2) := by unfold Rdr.body; rw [hf]
    rw [hb]
    clear hb
    have hq := hp.raw (2 * f.1)
    have hqs := p.raw_s (2 * f.1)
    have hql := p.raw_le (2 * f.1)
    generalize p.raw (2 * f.1) = a at hq hqs hql ⊢
    obtain ⟨p0, b0⟩ := a
    simp only at hq hqs hql
    have hps0 : p0.s.length < 1099511627776 := by rw [hqs]; omega
    have hb0 : b0.length < 1099511627776 := by omega
    clear hqs hql
    conv => whnf
    refine .inv RdSt (fun s => s.p.Ok ∧ s.p.s.length < 1099511627776 ∧ s.i ≤ f.2.1 ∧ s.b.length < 1099511627776 + s.i * 1000 ∧ Rdr.names (f.2.1 - s.i) s.p s.b = Rdr.names f.2.1 p0 b0) (fun s => [(32, .d (.int .i64 s.i))]) (fun s => [(1, s.p.kb), (3, pk (Bst.fl (.live s.b)))]) (fun s => f.2.1 - s.i) ⟨⟨p0, b0, 0⟩, [0, 1, 2, 3], ⟨hq, hps0, Nat.zero_le _, by simpa using hb0, rfl⟩, ?_⟩ ?_
    · conv => whnf
      repeat' (first | exact True.intro | exact rfl | exact (fun _ _ _ _ h => ⟨packed_stable _, h⟩) | exact fun _ => Iff.rfl | exact fun _ _ => rfl | refine And.intro ?_ ?_)
    clear hq hps0 hb0
    intro s hs
    obtain ⟨hq, hps0, hi, hb0, hrest⟩ := hs
    conv => whnf
    generalize s.p = pc at hq hps0 hrest ⊢
    generalize s.b = bc at hb0 hrest ⊢
    generalize s.i = i at hi hb0 hrest ⊢
    refine ⟨fun c5 => ?_, fun c5 => ?_⟩
    · have c5' : i < f.2.1 := (by have h : (i : Int) < f.2.1 := of_decide_eq_true c5; omega)
      conv => whnf
      refine .rel _ (rdr_fam (rname_ok pc hq) [_] [_, _] _ rfl rfl) (fun x ks' hR => ?_)
      obtain ⟨_, q, ⟨rfl, rfl⟩, rfl, rfl⟩ := hR
      have hnl := pc.name_le
      conv => whnf
      refine .rel _ (COk.thing Bst.fl (bw1_ok bc pc.name.2 (by omega)) [_, _, _] [] _ rfl rfl) (fun x ks' hR => ?_)
      obtain ⟨_, q, ⟨rfl, rfl⟩, rfl, rfl⟩ := hR
      conv => whnf
      have hw1 : IntKind.i64.wrap ((i : Int) + 1) = ((i + 1 : Nat) : Int) := by rw [w64_in _ (by omega)]; omega
      refine ⟨⟨pc.name.1, bc ++ pc.name.2, i + 1⟩, [0, 1, 2, 3], ⟨hq.name, by show pc.name.1.s.length < _; rw [Rdr.name_s]; exact hps0, c5', by show (bc ++ pc.name.2).length < 1099511627776 + (i + 1) * 1000; rw [List.length_append]; omega, ?_⟩, by show f.2.1 - (i + 1) < f.2.1 - i; omega, ?_⟩
      · rw [← hrest]
        have : f.2.1 - i = (f.2.1 - (i + 1)) + 1 := by omega
        rw [this]
        rfl
      conv => whnf
      rw [hw1]
      repeat' (first | exact True.intro | exact rfl | exact (fun _ _ _ _ h => ⟨packed_stable _, h⟩) | exact fun _ => Iff.rfl | exact fun _ _ => rfl | refine And.intro ?_ ?_)
    have hia : i = f.2.1 := (by have h : ¬ (i : Int) < f.2.1 := of_decide_eq_false c5; omega)
    rw [hia, Nat.sub_self] at hrest
    have hz : Rdr.names 0 pc bc = (pc, bc) := rfl
    have hrest' : Rdr.names f.2.1 ((p0, b0) : Rdr × List UInt8).1 ((p0, b0) : Rdr × List UInt8).2 = (pc, bc) := by rw [← hz]; exact hrest.symm
    rw [hrest']
    have hrl := pc.raw_le (4 * f.2.2)
    have hrq := hq.raw (4 * f.2.2)
    conv => whnf
    rw [hw4]
    refine .rel _ (rdr_fam (raw_ok pc hq (4 * f.2.2) (by omega)) [_] [_, _] _ rfl rfl) (fun x ks' hR => ?_)
    obtain ⟨_, q, ⟨rfl, rfl⟩, rfl, rfl⟩ := hR
    conv => whnf
    refine .rel _ (COk.thing Bst.fl (bw1_ok bc (pc.raw (4 * f.2.2)).2 (by omega)) [_, _, _] [] _ rfl rfl) (fun x ks' hR => ?_)
    obtain ⟨_, q, ⟨rfl, rfl⟩, rfl, rfl⟩ := hR
    conv => whnf
    refine .rel _ (COk.thing Bst.fl (bs_ok (bc ++ (pc.raw (4 * f.2.2)).2) (by rw [List.length_append]; omega)) [_, _, _] [] _ rfl rfl) (fun x ks' hR => ?_)
    obtain ⟨_, q, ⟨rfl, rfl⟩, rfl, rfl⟩ := hR
    generalize hqq : (((pc.raw (4 * f.2.2)).1, bc ++ (pc.raw (4 * f.2.2)).2) : Rdr × List UInt8) = q
    have e1 : (pc.raw (4 * f.2.2)).1 = q.1 := by rw [← hqq]
    have e2 : bc ++ (pc.raw (4 * f.2.2)).2 = q.2 := by rw [← hqq]
    rw [e1] at hrq ⊢
    rw [e2]
    have hq := hrq
    conv => whnf
    have hql := hq.len
    have hqp := hq.p
    have hsub : IntKind.i64.wrap ((q.1.s.length : Int) - q.1.p) = (q.1.s.length : Int) - q.1.p := w64_in _ (by omega)
    refine ⟨fun h2 => ?_, fun h2 => ?_⟩
    · conv => whnf
      refine ⟨[0], .tup [.d (.str []), .d (.int .i64 6)], [r1.kb], rfl, rfl, rfl, ?_, _, rfl, by simp [h2], rfl⟩
      repeat' (first | exact True.intro | exact rfl | exact fun _ => Iff.rfl | exact fun _ _ => rfl | exact renM_ent rfl _ | refine And.intro ?_ ?_)
    conv => whnf
    refine brF h2 ?_
    conv => whnf
    rw [hsub]
    refine ⟨fun h3 => ?_, fun h3 => ?_⟩
    · have h3' : 0 < q.1.s.length - q.1.p := by have h : ((q.1.s.length : Int) - q.1.p) > 0 := of_decide_eq_true h3
                                                omega
      conv => whnf
      refine ⟨[0], .tup [.d (.str []), .d (.int .i64 6)], [r1.kb], rfl, rfl, rfl, ?_, _, rfl, by simp [h3'], rfl⟩
      repeat' (first | exact True.intro | exact rfl | exact fun _ => Iff.rfl | exact fun _ _ => rfl | exact renM_ent rfl _ | refine And.intro ?_ ?_)
    have h3' : ¬ 0 < q.1.s.length - q.1.p := by have h : ¬ ((q.1.s.length : Int) - q.1.p) > 0 := of_decide_eq_false h3
                                                omega
    conv => whnf
    refine .one (.data _ (rcheck_ok t q.2) rfl rfl ?_)
    cases hc : rcheck t q.2
    · conv => whnf
      refine brT rfl ?_
      conv => whnf
      refine ⟨[0], .tup [.d (.str []), .d (.int .i64 6)], [r1.kb], rfl, rfl, rfl, ?_, _, rfl, by simp [hc], rfl⟩
      repeat' (first | exact True.intro | exact rfl | exact fun _ => Iff.rfl | exact fun _ _ => rfl | exact renM_ent rfl _ | refine And.intro ?_ ?_)
    · conv => whnf
      refine brF rfl ?_
      conv => whnf
      refine ⟨[0], .tup [.d (.str q.2), .d (.int .i64 0)], [r1.kb], rfl, rfl, rfl, ?_, _, rfl, by simp [hc, h2, h3'], rfl⟩
      repeat' (first | exact True.intro | exact rfl | exact fun _ => Iff.rfl | exact fun _ _ => rfl | exact renM_ent rfl _ | refine And.intro ?_ ?_)
end Go.Proofs.Ytdphkaiijlekhaa
namespace Go.Proofs.Ytdphkaiijlekhaa
open Go Go.Eng
def rr0 : RR := ⟨[], 0, 0, 0, []⟩
/-- A record is read: the reader, the record, the error. -/
def Rdr.recd (r : Rdr) : Rdr × RR × Int :=
  let a := r.name
  let b := a.1.num 2
  let c := b.1.num 2
  let d := c.1.num 4
  let e := d.1.num 2
  if e.1.bad then (e.1, rr0, 5) else
  let x := e.1.rdata (IntKind.u16.wrap b.2) (IntKind.i64.wrap e.2)
  if x.2 ≠ 0 then ((e.1.part (IntKind.i64.wrap e.2)).1, rr0, x.2) else
  ((e.1.part (IntKind.i64.wrap e.2)).1, ⟨a.2, IntKind.u16.wrap b.2, IntKind.u16.wrap c.2, if IntKind.u32.wrap d.2 > 2147483647 ∧ IntKind.u16.wrap b.2 ≠ 41 then 0 else IntKind.u32.wrap d.2, x.1⟩, 0)
theorem Rdr.num_s (r : Rdr) (n : Nat) : (r.num n).1.s = r.s := r.raw_s n
set_option maxRecDepth 100000 in
set_option maxHeartbeats 8000000 in
theorem rrec_ok (r : Rdr) (hr : r.Ok) (hs : r.s.length < 1099511627776) :
    COk Try.prog 95 [.ptr 0 0] [r.kb] (fun s k => ∃ r1, k = [Rdr.kb r1] ∧ (s = .tup [r.recd.2.1.V, .d (.int .i64 r.recd.2.2)] ∧ r1 = r.recd.1)) := by
  refine cOk_of_run (TT := TT) (IN := lookI [(94, Try.f94, 1)]) TT_ok (INok_cons INok_nil Try.func94 (by kernel_rfl) (by kernel_rfl)) mixed 1000 Try.func95 rfl (enters Try.func95 (by kernel_rfl) rfl) 52 (by kernel_rfl) ?_
  have hrec : r.recd = r.recd := rfl
  conv at hrec => rhs; unfold Rdr.recd
  dsimp only at hrec
  conv => whnf
  refine .rel _ (rdr_fam (rname_ok r hr) [] [_, _] _ rfl rfl) (fun x ks' hR => ?_)
  obtain ⟨_, q, ⟨rfl, rfl⟩, rfl, rfl⟩ := hR
  have ha := hr.name
  have hsa := r.name_s
  generalize r.name = a at ha hsa hrec ⊢
  conv => whnf
  refine .rel _ (rdr_fam (rnum_ok a.1 ha 2 (.inr (.inl rfl))) [] [_, _] _ rfl rfl) (fun x ks' hR => ?_)
  obtain ⟨_, q, ⟨rfl, rfl⟩, rfl, rfl⟩ := hR
  have hb := ha.num 2
  have hsb := a.1.num_s 2
  generalize a.1.num 2 = b at hb hsb hrec ⊢
  conv => whnf
  refine .rel _ (rdr_fam (rnum_ok b.1 hb 2 (.inr (.inl rfl))) [] [_, _] _ rfl rfl) (fun x ks' hR => ?_)
  obtain ⟨_, q, ⟨rfl, rfl⟩, rfl, rfl⟩ := hR
  have hc := hb.num 2
  have hsc := b.1.num_s 2
  generalize b.1.num 2 = c at hc hsc hrec ⊢
  conv => whnf
  refine .rel _ (rdr_fam (rnum_ok c.1 hc 4 (.inr (.inr (.inl rfl)))) [] [_, _] _ rfl rfl) (fun x ks' hR => ?_)
  obtain ⟨_, q, ⟨rfl, rfl⟩, rfl, rfl⟩ := hR
  have hd := hc.num 4
  have hsd := c.1.num_s 4
  generalize c.1.num 4 = d at hd hsd hrec ⊢
  conv => whnf
  refine .rel _ (rdr_fam (rnum_ok d.1 hd 2 (.inr (.inl rfl))) [] [_, _] _ rfl rfl) (fun x ks' hR => ?_)
  obtain ⟨_, q, ⟨rfl, rfl⟩, rfl, rfl⟩ := hR
  have he := hd.num 2
  have hse := d.1.num_s 2
  generalize d.1.num 2 = e at he hse hrec ⊢
  have hes : e.1.s.length < 1099511627776 := by rw [hse, hsd, hsc, hsb, hsa]; exact hs
  conv => whnf
  refine ⟨fun h1 => ?_, fun h1 => ?_⟩
  · rw [if_pos h1] at hrec
    conv => whnf
    refine ⟨[0], .tup [rr0.V, .d (.int .i64 5)], [e.1.kb], rfl, rfl, rfl, ?_, _, rfl, by rw [hrec], by rw [hrec]⟩
    repeat' (first | exact True.intro | exact rfl | exact fun _ => Iff.rfl | exact fun _ _ => rfl | exact renM_ent rfl _ | refine And.intro ?_ ?_)
  rw [if_neg (by simp [h1])] at hrec
  have hwr := IntKind.wrap_i64 (e.2 : Int)
  have hwb : -9223372036854775808 ≤ IntKind.i64.wrap (e.2 : Int) ∧ IntKind.i64.wrap (e.2 : Int) ≤ 9223372036854775807 := by rw [hwr]; omega
  conv => whnf
  refine .rel _ (rdr_fam (rrdata_ok e.1 he hes (IntKind.u16.wrap b.2) (IntKind.i64.wrap e.2) hwb) [] [_, _] _ rfl rfl) (fun x ks' hR => ?_)
  obtain ⟨_, q, ⟨rfl, rfl⟩, rfl, rfl⟩ := hR
  generalize e.1.rdata (IntKind.u16.wrap b.2) (IntKind.i64.wrap e.2) = x at hrec ⊢
  generalize (e.1.part (IntKind.i64.wrap e.2)).1 = r1 at hrec ⊢
  conv => whnf
  refine ⟨fun h2 => ?_, fun h2 => ?_⟩
  · have h2' : x.2 ≠ 0 := by simpa using h2
    rw [if_pos h2'] at hrec
    conv => whnf
    refine ⟨[0], .tup [rr0.V, .d (.int .i64 x.2)], [r1.kb], rfl, rfl, rfl, ?_, _, rfl, by rw [hrec], by rw [hrec]⟩
    repeat' (first | exact True.intro | exact rfl | exact fun _ => Iff.rfl | exact fun _ _ => rfl | exact renM_ent rfl _ | refine And.intro ?_ ?_)
  have h2' : ¬ x.2 ≠ 0 := by simpa using h2
  rw [if_neg h2'] at hrec
  conv => whnf
  refine ⟨fun h3 => ?_, fun h3 => ?_⟩
  · have h3' : IntKind.u32.wrap (d.2 : Int) > 2147483647 := of_decide_eq_true h3
    conv => whnf
    refine ⟨fun h4 => ?_, fun h4 => ?_⟩
    · have h4' : IntKind.u16.wrap (b.2 : Int) ≠ 41 := by simpa using h4
      rw [if_pos ⟨h3', h4'⟩] at hrec
      conv => whnf
      refine ⟨[0], .tup [(RR.V ⟨a.2, IntKind.u16.wrap b.2, IntKind.u16.wrap c.2, 0, x.1⟩), .d (.int .i64 0)], [r1.kb], rfl, rfl, rfl, ?_, _, rfl, by rw [hrec], by rw [hrec]⟩
      repeat' (first | exact True.intro | exact rfl | exact fun _ => Iff.rfl | exact fun _ _ => rfl | exact renM_ent rfl _ | refine And.intro ?_ ?_)
    · have h4' : ¬ IntKind.u16.wrap (b.2 : Int) ≠ 41 := by simpa using h4
      rw [if_neg (fun h => h4' h.2)] at hrec
      conv => whnf
      refine ⟨[0], .tup [(RR.V ⟨a.2, IntKind.u16.wrap b.2, IntKind.u16.wrap c.2, IntKind.u32.wrap d.2, x.1⟩), .d (.int .i64 0)], [r1.kb], rfl, rfl, rfl, ?_, _, rfl, by rw [hrec], by rw [hrec]⟩
      repeat' (first | exact True.intro | exact rfl | exact fun _ => Iff.rfl | exact fun _ _ => rfl | exact renM_ent rfl _ | refine And.intro ?_ ?_)
  · have h3' : ¬ IntKind.u32.wrap (d.2 : Int) > 2147483647 := of_decide_eq_false h3
    rw [if_neg (fun h => h3' h.1)] at hrec
    conv => whnf
    refine ⟨[0], .tup [(RR.V ⟨a.2, IntKind.u16.wrap b.2, IntKind.u16.wrap c.2, IntKind.u32.wrap d.2, x.1⟩), .d (.int .i64 0)], [r1.kb], rfl, rfl, rfl, ?_, _, rfl, by rw [hrec], by rw [hrec]⟩
    repeat' (first | exact True.intro | exact rfl | exact fun _ => Iff.rfl | exact fun _ _ => rfl | exact renM_ent rfl _ | refine And.intro ?_ ?_)
theorem Rdr.Ok.recd {r : Rdr} (h : r.Ok) : r.recd.1.Ok := by
  have h1 := ((((h.name.num 2).num 2).num 4).num 2)
  unfold Rdr.recd
  dsimp only
  split
  · exact h1
  · split
    · exact h1.raw _
    · exact h1.raw _
theorem Rdr.recd_s (r : Rdr) : r.recd.1.s = r.s := by
  have h1 : (((((r.name.1.num 2).1.num 2).1.num 4).1.num 2).1).s = r.s := by rw [Rdr.num_s, Rdr.num_s, Rdr.num_s, Rdr.num_s, Rdr.name_s]
  unfold Rdr.recd
  dsimp only
  split
  · exact h1
  · split
    · exact (Rdr.raw_s _ _).trans h1
    · exact (Rdr.raw_s _ _).trans h1
end Go.Proofs.Ytdphkaiijlekhaa
namespace Go.Proofs.Ytdphkaiijlekhaa
open Go Go.Eng
def opts (l : List RR) : List RR := l.filter (fun r => r.ty == 41)
def Msg.less (m : Msg) : Msg := ⟨m.id, Go.bits BinOp.or IntKind.u16 m.bits 512, m.za, m.asks, true, [], true, [], Nat.beq (opts m.extra).length 0, opts m.extra⟩
def Msg.fit (m : Msg) (limit : Int) : List UInt8 × Int := if (m.write limit).2 = 7 then m.less.write limit else m.write limit
theorem bor_le (a b : Int) : 0 ≤ Go.bits BinOp.or IntKind.u16 a b ∧ Go.bits BinOp.or IntKind.u16 a b ≤ 65535 := by
  unfold Go.bits
  generalize BitVec.ofInt IntKind.u16.bits a = x
  show 0 ≤ IntKind.u16.wrap _ ∧ IntKind.u16.wrap _ ≤ 65535
  rw [IntKind.wrap_u16]
  omega
theorem rr_cat (l : List RR) (q : RR) (j : Nat) (hj : j < l.length + 1) : catF l.length (fun j => (l.getD j default).enc) (chunk q.enc 5) j = ((l ++ [q]).getD j default).enc := by
  unfold catF
  split
  · rename_i h
    show (l.getD j default).enc = _
    rw [List.getD, List.getD, List.getElem?_append_left h]
  · rename_i h
    have : j = l.length := by omega
    subst this
    rw [Nat.sub_self, List.getD, List.getElem?_append_right (Nat.le_refl _), Nat.sub_self]
    rfl
structure FtSt where
  i : Nat
set_option maxRecDepth 100000 in
set_option maxHeartbeats 8000000 in
theorem fit_ok (m : Msg) (hm : m.Ok) (limit : Int) (hlim : -9223372036854775808 ≤ limit ∧ limit ≤ 9223372036854775807) (he : m.extra.length ≤ 1000000) : FnOk Try.prog 37 [.agg m.cells, .d (.int .i64 limit)] (.tup [.d (.str (m.fit limit).1), .d (.int .i64 (m.fit limit).2)]) := by
  refine fnOk_of_run (TT := TT) (IN := lookI []) TT_ok INok_nil mixed 1000 Try.func37 rfl (enters Try.func37 (by kernel_rfl) rfl) rfl 49 (by kernel_rfl) ?_
  conv => whnf
  refine .one (.data _ (mwrite_ok m hm limit hlim) rfl rfl ?_)
  conv => whnf
  refine ⟨fun h1 => ?_, fun h1 => ?_⟩
  · have h1 : (m.write limit).2 ≠ 7 := by simpa using h1
    have e : m.fit limit = m.write limit := by unfold Msg.fit; rw [if_neg h1]
    rw [e]
    conv => whnf
    exact ⟨rfl, rfl, True.intro⟩
  have h1 : (m.write limit).2 = 7 := by simpa using h1
  have e : m.fit limit = m.less.write limit := by unfold Msg.fit; rw [if_pos h1]
  rw [e]
  conv => whnf
  refine .nilC 1 5 60 5 (fun _ => []) _ _ _ _ rfl rfl ?_
  refine .nilC 1 3 60 5 (fun _ => []) _ _ _ _ rfl rfl ?_
  refine .nilC 1 4 60 5 (fun _ => []) _ _ _ _ rfl rfl ?_
  refine .inv FtSt (fun s => s.i ≤ m.extra.length) (fun s => [(32, .d (.int .i64 s.i))]) (fun s => [(1, .cells 66 [.d (.int .u16 m.id), .d (.int .u16 (Go.bits BinOp.or IntKind.u16 m.bits 512)), .d (qsD m.za m.asks), .all 3, .all 4, .all 2]), (2, .row 60 5 (opts (m.extra.take s.i)).length .iff (fun j => ((opts (m.extra.take s.i)).getD j default).enc))]) (fun s => m.extra.length - s.i) ⟨⟨0⟩, [0, 1, 2, 3, 4], Nat.zero_le _, ?_⟩ ?_
  · conv => whnf
    repeat' (first | exact True.intro | exact rfl | (intro i hi; exact absurd hi (Nat.not_lt_zero _)) | refine And.intro ?_ ?_)
  intro s hs
  conv => whnf
  generalize s.i = i at hs ⊢
  refine ⟨fun c5 => ?_, fun c5 => ?_⟩
  · have c5' : i < m.extra.length := (by have h : (i : Int) < m.extra.length := of_decide_eq_true c5; omega)
    conv => whnf
    refine ⟨by omega, ?_⟩
    obtain ⟨q, hq⟩ : ∃ q, m.extra.getD i default = q := ⟨_, rfl⟩
    have htk : m.extra.take (i + 1) = m.extra.take i ++ [q] := by
      rw [List.take_add_one, List.getElem?_eq_getElem c5', ← hq, List.getD, List.getElem?_eq_getElem c5']
      rfl
    have hw : IntKind.i64.wrap ((i : Int) + 1) = ((i + 1 : Nat) : Int) := by rw [w64_in _ (by omega)]; omega
    have hol : (opts (m.extra.take i)).length ≤ i := Nat.le_trans (List.length_filter_le _ _) (by rw [List.length_take]; omega)
    conv => whnf
    rw [Int.toNat_natCast, hq]
    refine ⟨fun h2 => ?_, fun h2 => ?_⟩
    · have h2 : (q.ty == 41) = true := h2
      have ho : opts (m.extra.take (i + 1)) = opts (m.extra.take i) ++ [q] := by
        rw [htk]
        unfold opts
        rw [List.filter_append, List.filter_cons, if_pos h2]
        rfl
      conv => whnf
      refine ⟨by omega, ?_⟩
      conv => whnf
      refine ⟨⟨i + 1⟩, [0, 1, 7, 3, 4], c5', by show m.extra.length - (i + 1) < m.extra.length - i; omega, ?_⟩
      conv => whnf
      rw [hw]
      repeat' (first | exact True.intro | exact rfl | refine And.intro ?_ ?_)
      all_goals try exact fun _ _ => rfl
      · rw [ho, List.length_append]
        rfl
      all_goals try exact fun _ _ => rfl
      · intro j hj
        show catF _ _ _ j = ((opts (m.extra.take (i + 1))).getD j default).enc
        rw [ho]
        exact rr_cat _ q j hj
    · have h2 : (q.ty == 41) = false := h2
      have ho : opts (m.extra.take (i + 1)) = opts (m.extra.take i) := by
        rw [htk]
        unfold opts
        rw [List.filter_append, List.filter_cons, if_neg (by rw [h2]; simp)]
        exact List.append_nil _
      conv => whnf
      refine ⟨⟨i + 1⟩, [0, 1, 2, 3, 4], c5', by show m.extra.length - (i + 1) < m.extra.length - i; omega, ?_⟩
      conv => whnf
      rw [hw]
      repeat' (first | exact True.intro | exact rfl | refine And.intro ?_ ?_)
      · show (opts (m.extra.take i)).length = (opts (m.extra.take (i + 1))).length
        rw [ho]
      all_goals try exact fun _ _ => rfl
      · intro j hj
        show ((opts (m.extra.take i)).getD j default).enc = ((opts (m.extra.take (i + 1))).getD j default).enc
        rw [ho]
  have hie : i = m.extra.length := (by have h : ¬ (i : Int) < m.extra.length := of_decide_eq_false c5; omega)
  rw [hie, List.take_of_length_le (Nat.le_refl _)]
  have hmo : m.less.Ok := ⟨hm.id, bor_le _ _, hm.asks, fun r hr => absurd hr (by show r ∉ []; simp), fun r hr => absurd hr (by show r ∉ []; simp), fun r hr => hm.extra r (List.mem_filter.1 hr).1, hm.len⟩
  conv => whnf
  refine .one (.look (.tup [.d (.str (m.less.write limit).1), .d (.int .i64 (m.less.write limit).2)]) ?_ rfl ?_)
  · conv => whnf
    refine ⟨(mwrite_ok m.less hmo limit hlim).convA ⟨AEq.aggL ⟨.refl _, .refl _, .refl _, AEq.row (fun i hi => absurd hi (Nat.not_lt_zero _)), AEq.row (fun i hi => absurd hi (Nat.not_lt_zero _)), .refl _, True.intro⟩, .refl _, True.intro⟩, rfl⟩
  conv => whnf
  exact ⟨rfl, rfl, True.intro⟩
end Go.Proofs.Ytdphkaiijlekhaa
namespace Go.Proofs.Ytdphkaiijlekhaa
open Go Go.Eng
/-- At a place of bytes stands a name of these labels; pointers lead ahead of b; e: behind its first run. -/
inductive NA (s : List UInt8) : Nat → Nat → List (List UInt8) → Nat → Prop
  | done {b p : Nat} : p < s.length → bt s p = 0 → NA s b p [] (p + 1)
  | lab {b p : Nat} {l : List UInt8} {ls : List (List UInt8)} {e : Nat} : okL l → (s.drop p).take (1 + l.length) = lab l → NA s b (p + 1 + l.length) ls e → NA s b p (l :: ls) e
  | ptr {b p t : Nat} {ls : List (List UInt8)} {e : Nat} : p + 1 < s.length → 192 ≤ bt s p → t = (bt s p - 192) * 256 + bt s (p + 1) → t < b → NA s t t ls e → NA s b p ls (p + 2)
theorem bt_app (s t : List UInt8) (p : Nat) (h : p < s.length) : bt (s ++ t) p = bt s p := by
  unfold bt
  rw [List.getElem?_append_left h]
theorem take_lab_len {s l : List UInt8} {p : Nat} (h : (s.drop p).take (1 + l.length) = lab l) : p + 1 + l.length ≤ s.length := by
  have := congrArg List.length h
  rw [lab_len, List.length_take, List.length_drop] at this
  omega
theorem bt_of_take {s l : List UInt8} {p : Nat} (hl : okL l) (h : (s.drop p).take (1 + l.length) = lab l) : bt s p = l.length := by
  have h1 : bt (lab l ++ []) 0 = l.length := bt_lab l [] hl
  rw [List.append_nil, ← h] at h1
  rw [← h1]
  unfold bt
  rw [List.getElem?_take, if_pos (by omega), List.getElem?_drop, Nat.add_zero]
theorem NA.app {s : List UInt8} (t : List UInt8) {b p : Nat} {ls : List (List UInt8)} {e : Nat} (h : NA s b p ls e) : NA (s ++ t) b p ls e := by
  induction h with
  | done h1 h2 => exact .done (by rw [List.length_append]; omega) (by rw [bt_app _ _ _ h1]; exact h2)
  | lab h1 h2 _ ih =>
    have h3 := take_lab_len h2
    refine .lab h1 ?_ ih
    rw [List.drop_append_of_le_length (by omega), List.take_append_of_le_length (by rw [List.length_drop]; omega)]
    exact h2
  | ptr h1 h2 h3 h4 _ ih =>
    refine .ptr (by rw [List.length_append]; omega) (by rw [bt_app _ _ _ (by omega)]; exact h2) ?_ h4 ih
    rw [bt_app _ _ _ (by omega), bt_app _ _ _ h1]
    exact h3
theorem NA.up {s : List UInt8} {b b' p : Nat} {ls : List (List UInt8)} {e : Nat} (h : NA s b p ls e) (hb : b ≤ b') : NA s b' p ls e := by
  induction h with
  | done h1 h2 => exact .done h1 h2
  | lab h1 h2 _ ih => exact .lab h1 h2 (ih hb)
  | ptr h1 h2 h3 h4 h5 _ => exact .ptr h1 h2 h3 (by omega) h5
theorem rnGo_na {s : List UInt8} {b p : Nat} {ls : List (List UInt8)} {e : Nat} (h : NA s b p ls e) : ∀ (f : Nat) (bh : Option Nat) (nm : List UInt8), nm.length + (mk ls).length ≤ 255 → (400 - nm.length) * (s.length + 1) + b + 1 ≤ f →
    rnGo s f b p bh nm = (nm ++ mk ls, some (bh.getD e)) := by
  induction h with
  | done h1 h2 =>
    intro f bh nm hn hf
    have : (mk []).length = 1 := rfl
    cases f with
    | zero => omega
    | succ f =>
      unfold rnGo
      rw [if_pos ⟨h1, by omega⟩, if_pos h2]
      rfl
  | @lab b p l ls e h1 h2 _ ih =>
    intro f bh nm hn hf
    have h3 := take_lab_len h2
    have h4 := bt_of_take h1 h2
    have h5 := h1.1
    have h6 := h1.2
    have hp := mk_pos ls
    have hlen : (mk (l :: ls)).length = 1 + l.length + (mk ls).length := by simp [mk, lab_len]
    cases f with
    | zero => omega
    | succ f =>
      unfold rnGo
      rw [if_pos ⟨by omega, by omega⟩, if_neg (by omega), if_pos (by omega), h4, h2]
      have h7 : (nm ++ lab l).length = nm.length + 1 + l.length := by rw [List.length_append, lab_len]; omega
      rw [ih f bh (nm ++ lab l) (by omega) ?_]
      · simp [mk]
      · rw [h7]
        have h8 : (400 - (nm.length + 1 + l.length) + 1) * (s.length + 1) ≤ (400 - nm.length) * (s.length + 1) := Nat.mul_le_mul_right _ (by omega)
        rw [Nat.add_mul] at h8
        omega
  | @ptr b p t ls e h1 h2 h3 h4 _ ih =>
    intro f bh nm hn hf
    have hp := mk_pos ls
    cases f with
    | zero => omega
    | succ f =>
      unfold rnGo
      rw [if_pos ⟨by omega, by omega⟩, if_neg (by omega), if_neg (by omega), if_pos ⟨h2, h1⟩, ← h3, if_neg (by omega)]
      rw [ih f (some (bh.getD (p + 2))) nm hn (by omega)]
      rfl
theorem name_na {s : List UInt8} {p : Nat} {ls : List (List UInt8)} {e : Nat} (h : NA s p p ls e) (hl : ∀ l ∈ ls, okL l) (hn : (mk ls).length ≤ 255) : (Rdr.mk s p false).name = (⟨s, e, false⟩, mk ls) := by
  have h1 : rnAll s p = (mk ls, some e) := by
    have := rnGo_na h (rnFuel s p [] + 1) none [] (by simpa using hn) (Nat.le_refl _)
    unfold rnAll
    simpa using this
  exact Rdr.name_ok rfl h1 ((isName_iff _).2 ⟨hn, ls, hl, rfl⟩)
/-- Names that are remembered stand where they are said to. -/
def RO (w : Wr) : Prop := ∀ x ∈ w.rests, ∃ ls k e, (∀ l ∈ ls, okL l) ∧ x.1 = mk ls ∧ x.2 = ((k : Nat) : Int) ∧ k < 16384 ∧ k < w.buf.length ∧ NA w.buf k k ls e
theorem piece_fit {w : Wr} {s : List UInt8} (h : (w.piece s).full = false) : w.fits s = true ∧ w.piece s = { w with buf := w.buf ++ s } ∧ w.full = false := by
  unfold Wr.piece at h ⊢
  split at h
  · rename_i hf
    refine ⟨hf, by rw [if_pos hf], ?_⟩
    unfold Wr.fits at hf
    cases hw : w.full
    · rfl
    · rw [hw] at hf; simp at hf
  · cases h
theorem RO.more {w w' : Wr} (h : RO w) {d : List UInt8} (hb : w'.buf = w.buf ++ d) (hr : w'.rests = w.rests) : RO w' := by
  intro x hx
  rw [hr] at hx
  obtain ⟨ls, k, e, h1, h2, h3, h4, h5, h6⟩ := h x hx
  refine ⟨ls, k, e, h1, h2, h3, h4, by rw [hb, List.length_append]; omega, ?_⟩
  rw [hb]
  exact h6.app d
theorem be2 (n : Nat) (h : n < 65536) : be 2 (n : Int) = [UInt8.ofNat (n / 256), UInt8.ofNat (n % 256)] := by
  have h1 : be 2 (n : Int) = [UInt8.ofNat (IntKind.u8.wrap ((n : Int).fdiv 256)).toNat, UInt8.ofNat (IntKind.u8.wrap ((n : Int).fdiv 1)).toNat] := rfl
  rw [h1, Int.fdiv_eq_ediv_of_nonneg _ (by decide), Int.fdiv_eq_ediv_of_nonneg _ (by decide), IntKind.wrap_u8, IntKind.wrap_u8]
  congr 2
  · omega
  · congr 1
    omega
theorem piece_fit_rests {w : Wr} {s : List UInt8} (h : (w.piece s).full = false) : (w.piece s).rests = w.rests ∧ (w.piece s).buf = w.buf ++ s ∧ (w.piece s).limit = w.limit := by
  rw [(piece_fit h).2.1]
  exact ⟨rfl, rfl, rfl⟩
theorem mk_len_cons (l : List UInt8) (ls : List (List UInt8)) : (mk (l :: ls)).length = 1 + l.length + (mk ls).length := by simp [mk, lab_len]
theorem NA.fin (s : List UInt8) (b : Nat) : NA (s ++ [0]) b s.length [] (s.length + 1) := by
  refine .done (by simp) ?_
  unfold bt
  rw [List.getElem?_append_right (Nat.le_refl _), Nat.sub_self]
  rfl
theorem nameGo_back (p : Bool) (st : Nat) : ∀ (m : Nat) (w : Wr) (ls : List (List UInt8)), (∀ l ∈ ls, okL l) → ls.length ≤ m → st ≤ w.buf.length →
    (∀ x ∈ w.rests, (mk ls).length < x.1.length ∨ ∃ ls' k e, (∀ l ∈ ls', okL l) ∧ x.1 = mk ls' ∧ x.2 = ((k : Nat) : Int) ∧ k < 16384 ∧ k < st ∧ NA w.buf k k ls' e) →
    (Wr.nameGo p m w (mk ls)).full = false →
    ∃ d new, (Wr.nameGo p m w (mk ls)).buf = w.buf ++ d ∧ (Wr.nameGo p m w (mk ls)).rests = w.rests ++ new ∧
      (∀ b, st ≤ b → NA (w.buf ++ d) b w.buf.length ls (w.buf.length + d.length)) ∧
      (∀ x ∈ new, ∃ ls' k, (∀ l ∈ ls', okL l) ∧ x.1 = mk ls' ∧ x.2 = ((k : Nat) : Int) ∧ k < 16384 ∧ w.buf.length ≤ k ∧ k < w.buf.length + d.length ∧ NA (w.buf ++ d) k k ls' (w.buf.length + d.length)) := by
  have nil : ∀ w : Wr, (w.piece (mk [])).full = false → ∃ d new, (w.piece (mk [])).buf = w.buf ++ d ∧ (w.piece (mk [])).rests = w.rests ++ new ∧
      (∀ b, st ≤ b → NA (w.buf ++ d) b w.buf.length [] (w.buf.length + d.length)) ∧
      (∀ x ∈ new, ∃ ls' k, (∀ l ∈ ls', okL l) ∧ x.1 = mk ls' ∧ x.2 = ((k : Nat) : Int) ∧ k < 16384 ∧ w.buf.length ≤ k ∧ k < w.buf.length + d.length ∧ NA (w.buf ++ d) k k ls' (w.buf.length + d.length)) := by
    intro w h
    obtain ⟨h1, h2, _⟩ := piece_fit_rests h
    exact ⟨[0], [], h2, by rw [h1, List.append_nil], fun b _ => NA.fin w.buf b, fun x hx => by cases hx⟩
  intro m
  induction m with
  | zero =>
    intro w ls hl hm hst hr hf
    cases ls with
    | nil => exact nil w hf
    | cons l ls => simp at hm
  | succ m ih =>
    intro w ls hl hm hst hr hf
    cases ls with
    | nil =>
      have e : Wr.nameGo p (m + 1) w (mk []) = w.piece (mk []) := by
        show (if 1 < (mk []).length then _ else w.piece (mk [])) = _
        exact if_neg (by decide)
      rw [e] at hf ⊢
      exact nil w hf
    | cons l ls =>
      have hol := hl l (List.mem_cons_self ..)
      have hls : ∀ x ∈ ls, okL x := fun x hx => hl x (List.mem_cons_of_mem _ hx)
      have hlen := mk_len_cons l ls
      have hp := mk_pos ls
      have h1 : bt (mk (l :: ls)) 0 = l.length := bt_lab l (mk ls) hol
      have h2 : (mk (l :: ls)).take (1 + l.length) = lab l := take_lab l (mk ls)
      have h3 : (mk (l :: ls)).drop (1 + l.length) = mk ls := drop_lab l (mk ls)
      have hol1 := hol.1
      -- one label, then the rest
      have go : ∀ (w1 : Wr) (add : List (List UInt8 × Int)), w1.buf = w.buf ++ lab l → w1.rests = w.rests ++ add → (∀ x ∈ add, x = (mk (l :: ls), (w.buf.length : Int)) ∧ w.buf.length < 16384) →
          (Wr.nameGo p m w1 (mk ls)).full = false → ∃ d new, (Wr.nameGo p m w1 (mk ls)).buf = w.buf ++ d ∧ (Wr.nameGo p m w1 (mk ls)).rests = w.rests ++ new ∧
          (∀ b, st ≤ b → NA (w.buf ++ d) b w.buf.length (l :: ls) (w.buf.length + d.length)) ∧
          (∀ x ∈ new, ∃ ls' k, (∀ l ∈ ls', okL l) ∧ x.1 = mk ls' ∧ x.2 = ((k : Nat) : Int) ∧ k < 16384 ∧ w.buf.length ≤ k ∧ k < w.buf.length + d.length ∧ NA (w.buf ++ d) k k ls' (w.buf.length + d.length)) := by
        intro w1 add hb1 hr1 hadd hf1
        have hbl : w1.buf.length = w.buf.length + 1 + l.length := by rw [hb1, List.length_append, lab_len]; omega
        obtain ⟨d, new, k1, k2, k3, k4⟩ := ih w1 ls hls (by simpa using hm) (by omega) (fun x hx => by
          rw [hr1] at hx
          rcases List.mem_append.1 hx with hx | hx
          · rcases hr x hx with h | ⟨ls', k, e, a1, a2, a3, a4, a5, a6⟩
            · exact .inl (by omega)
            · exact .inr ⟨ls', k, e, a1, a2, a3, a4, a5, by rw [hb1]; exact a6.app _⟩
          · rw [(hadd x hx).1]
            exact .inl (by show (mk ls).length < (mk (l :: ls)).length; omega)) hf1
        have hdd : (lab l ++ d).length = 1 + l.length + d.length := by rw [List.length_append, lab_len]
        have hww : w1.buf ++ d = w.buf ++ (lab l ++ d) := by rw [hb1, List.append_assoc]
        have hna : ∀ b, st ≤ b → NA (w.buf ++ (lab l ++ d)) b w.buf.length (l :: ls) (w.buf.length + (lab l ++ d).length) := by
          intro b hb
          refine .lab hol ?_ ?_
          · rw [List.drop_left, ← lab_len, List.take_left]
          · have := k3 b hb
            rw [hww, hbl] at this
            rw [hdd, show w.buf.length + (1 + l.length + d.length) = w.buf.length + 1 + l.length + d.length by omega]
            exact this
        refine ⟨lab l ++ d, add ++ new, by rw [k1, hww], by rw [k2, hr1, List.append_assoc], hna, fun x hx => ?_⟩
        rcases List.mem_append.1 hx with hx | hx
        · obtain ⟨rfl, hlt⟩ := hadd x hx
          exact ⟨l :: ls, w.buf.length, hl, rfl, rfl, hlt, Nat.le_refl _, by omega, hna _ hst⟩
        · obtain ⟨ls', k, a1, a2, a3, a4, a5, a6, a7⟩ := k4 x hx
          refine ⟨ls', k, a1, a2, a3, a4, by omega, by omega, ?_⟩
          rw [hww, hbl] at a7
          rw [hdd, show w.buf.length + (1 + l.length + d.length) = w.buf.length + 1 + l.length + d.length by omega]
          exact a7
      have e : Wr.nameGo p (m + 1) w (mk (l :: ls)) = (match fndS w.rests (mk (l :: ls)) with
        | some a => if p then w.num 2 (49152 + a) else
            if w.fits (lab l) then Wr.nameGo p m (w.piece (lab l)) (mk ls) else w.piece (lab l)
        | none =>
            if w.fits (lab l) then Wr.nameGo p m (if w.buf.length < 16384 then { w.piece (lab l) with rests := w.rests ++ [(mk (l :: ls), (w.buf.length : Int))] } else w.piece (lab l)) (mk ls)
            else w.piece (lab l)) := by
        show (if 1 < (mk (l :: ls)).length then _ else _) = _
        rw [if_pos (by omega), h1, h2, h3]
        rfl
      rw [e] at hf ⊢
      clear e
      have fit : ∀ {X : Wr}, (if w.fits (lab l) then X else w.piece (lab l)).full = false → w.fits (lab l) = true := by
        intro X h
        cases hx : w.fits (lab l)
        · rw [hx, if_neg (by simp)] at h
          rw [(piece_fit h).1] at hx
          cases hx
        · rfl
      cases hfd : fndS w.rests (mk (l :: ls)) with
      | some a =>
        rw [hfd] at hf
        cases p with
        | false =>
          simp only [Bool.false_eq_true, if_false] at hf ⊢
          have hfit := fit hf
          rw [if_pos hfit] at hf ⊢
          exact go (w.piece (lab l)) [] (by unfold Wr.piece; rw [if_pos hfit]) (by unfold Wr.piece; rw [if_pos hfit]; exact (List.append_nil _).symm) (fun x hx => by cases hx) hf
        | true =>
          simp only [if_true] at hf ⊢
          rcases hr _ (fndS_mem hfd) with h | ⟨ls', k, e, a1, a2, a3, a4, a5, a6⟩
          · exact absurd h (Nat.lt_irrefl _)
          · have a2 : mk (l :: ls) = mk ls' := a2
            have a3 : a = (k : Int) := a3
            have := mk_inj hl a1 a2
            subst this
            subst a3
            have hbe : be 2 (49152 + (k : Int)) = [UInt8.ofNat ((49152 + k) / 256), UInt8.ofNat ((49152 + k) % 256)] := be2 (49152 + k) (by omega)
            unfold Wr.num at hf ⊢
            rw [hbe] at hf ⊢
            obtain ⟨b1, b2, _⟩ := piece_fit_rests hf
            refine ⟨_, [], b2, by rw [b1, List.append_nil], fun b hb => ?_, fun x hx => by cases hx⟩
            have c1 : bt (w.buf ++ [UInt8.ofNat ((49152 + k) / 256), UInt8.ofNat ((49152 + k) % 256)]) w.buf.length = (49152 + k) / 256 := by
              unfold bt
              rw [List.getElem?_append_right (Nat.le_refl _), Nat.sub_self]
              show (UInt8.ofNat ((49152 + k) / 256)).toNat = _
              exact toNat_ofNat (by omega)
            have c2 : bt (w.buf ++ [UInt8.ofNat ((49152 + k) / 256), UInt8.ofNat ((49152 + k) % 256)]) (w.buf.length + 1) = (49152 + k) % 256 := by
              unfold bt
              rw [List.getElem?_append_right (by omega), show w.buf.length + 1 - w.buf.length = 1 by omega]
              show (UInt8.ofNat ((49152 + k) % 256)).toNat = _
              exact toNat_ofNat (by omega)
            exact .ptr (t := k) (by simp) (by rw [c1]; omega) (by rw [c1, c2]; omega) (by omega) (a6.app _)
      | none =>
        rw [hfd] at hf
        simp only at hf ⊢
        have hfit := fit hf
        rw [if_pos hfit] at hf ⊢
        have hpc : w.piece (lab l) = { w with buf := w.buf ++ lab l } := by unfold Wr.piece; rw [if_pos hfit]
        by_cases hlt : w.buf.length < 16384
        · rw [if_pos hlt] at hf ⊢
          rw [hpc] at hf ⊢
          exact go _ [(mk (l :: ls), (w.buf.length : Int))] rfl rfl (fun x hx => ⟨List.mem_singleton.1 hx, hlt⟩) hf
        · rw [if_neg hlt] at hf ⊢
          rw [hpc] at hf ⊢
          exact go _ [] rfl (List.append_nil _).symm (fun x hx => by cases hx) hf
theorem mk_many (ls : List (List UInt8)) : ls.length ≤ (mk ls).length := by
  induction ls with
  | nil => exact Nat.zero_le _
  | cons l ls ih => rw [mk_len_cons]; simp only [List.length_cons]; omega
/-- What was written between two writers is read by f, as v. -/
def Reads {α : Type} (w w1 : Wr) (f : Rdr → Rdr × α) (v : α) : Prop := ∀ S, w1.buf <+: S → f ⟨S, w.buf.length, false⟩ = (⟨S, w1.buf.length, false⟩, v)
/-- A name that was written is read. -/
theorem name_back {w : Wr} (hw : w.full = false) (hro : RO w) {n : List UInt8} (hn : isName n) (p : Bool) (hf : (w.name n p).full = false) :
    RO (w.name n p) ∧ w.buf <+: (w.name n p).buf ∧ Reads w (w.name n p) Rdr.name n := by
  obtain ⟨h255, ls, hl, rfl⟩ := (isName_iff n).1 hn
  have e : w.name (mk ls) p = Wr.nameGo p (mk ls).length w (mk ls) := by
    unfold Wr.name
    rw [if_neg (by rw [hw]; simp [hn])]
  rw [e] at hf ⊢
  obtain ⟨d, new, h1, h2, h3, h4⟩ := nameGo_back p w.buf.length _ w ls hl (mk_many ls) (Nat.le_refl _) (fun x hx => by
    obtain ⟨ls', k, e, a1, a2, a3, a4, a5, a6⟩ := hro x hx
    exact .inr ⟨ls', k, e, a1, a2, a3, a4, a5, a6⟩) hf
  refine ⟨fun x hx => ?_, ⟨d, h1.symm⟩, fun S ⟨t, ht⟩ => ?_⟩
  · rw [h2] at hx
    rw [h1]
    rcases List.mem_append.1 hx with hx | hx
    · obtain ⟨ls', k, e, a1, a2, a3, a4, a5, a6⟩ := hro x hx
      exact ⟨ls', k, e, a1, a2, a3, a4, by rw [List.length_append]; omega, a6.app d⟩
    · obtain ⟨ls', k, a1, a2, a3, a4, a5, a6, a7⟩ := h4 x hx
      exact ⟨ls', k, _, a1, a2, a3, a4, by rw [List.length_append]; omega, a7⟩
  · rw [← ht, h1]
    have := name_na ((h3 _ (Nat.le_refl _)).app t) hl h255
    rw [this, List.length_append]
/-- Bytes that were written are read. -/
theorem raw_back (b x t : List UInt8) : (Rdr.mk (b ++ x ++ t) b.length false).raw x.length = (⟨b ++ x ++ t, (b ++ x).length, false⟩, x) := by
  unfold Rdr.raw
  rw [if_neg (by simp), if_neg (by simp; omega)]
  have e1 : (((b ++ x ++ t).drop b.length).take x.length) = x := by
    rw [List.append_assoc, List.drop_left, List.take_left]
  simp only [Int.toNat_natCast]
  rw [e1, List.length_append]
theorem numOf2 (n : Nat) (h : n < 65536) : numOf (be 2 (n : Int)) = n := by
  rw [be2 n h]
  show (0 * 256 + (UInt8.ofNat (n / 256)).toNat) * 256 + (UInt8.ofNat (n % 256)).toNat = n
  rw [toNat_ofNat (by omega), toNat_ofNat (by omega)]
  omega
theorem numOf4 (n : Nat) (h : n < 4294967296) : numOf (be 4 (n : Int)) = n := by
  have h1 : be 4 (n : Int) = [UInt8.ofNat (IntKind.u8.wrap ((n : Int).fdiv 16777216)).toNat, UInt8.ofNat (IntKind.u8.wrap ((n : Int).fdiv 65536)).toNat, UInt8.ofNat (IntKind.u8.wrap ((n : Int).fdiv 256)).toNat, UInt8.ofNat (IntKind.u8.wrap ((n : Int).fdiv 1)).toNat] := rfl
  rw [h1]
  rw [Int.fdiv_eq_ediv_of_nonneg _ (by decide), Int.fdiv_eq_ediv_of_nonneg _ (by decide), Int.fdiv_eq_ediv_of_nonneg _ (by decide), Int.fdiv_eq_ediv_of_nonneg _ (by decide)]
  show (((0 * 256 + (UInt8.ofNat _).toNat) * 256 + (UInt8.ofNat _).toNat) * 256 + (UInt8.ofNat _).toNat) * 256 + (UInt8.ofNat _).toNat = n
  have e := u8_byte
  have e1 := e ((n : Int) / 16777216)
  have e2 := e ((n : Int) / 65536)
  have e3 := e ((n : Int) / 256)
  have e4 := e ((n : Int) / 1)
  rw [IntKind.wrap_u8] at e1 e2 e3 e4
  rw [IntKind.wrap_u8, IntKind.wrap_u8, IntKind.wrap_u8, IntKind.wrap_u8]
  omega
/-- A number that was written is read. -/
theorem num_back {w : Wr} (hro : RO w) (k : Nat) (n : Nat) (hk : k = 2 ∧ n < 65536 ∨ k = 4 ∧ n < 4294967296) (hf : (w.num k (n : Int)).full = false) :
    w.full = false ∧ RO (w.num k (n : Int)) ∧ w.buf <+: (w.num k (n : Int)).buf ∧ Reads w (w.num k (n : Int)) (fun r => r.num k) n := by
  have hlen : (be k (n : Int)).length = k := by rcases hk with ⟨rfl, _⟩ | ⟨rfl, _⟩ <;> rfl
  have hnum : numOf (be k (n : Int)) = n := by
    rcases hk with ⟨rfl, h⟩ | ⟨rfl, h⟩
    · exact numOf2 n h
    · exact numOf4 n h
  unfold Wr.num at hf ⊢
  obtain ⟨h1, h2, h3⟩ := piece_fit_rests hf
  refine ⟨(piece_fit hf).2.2, hro.more h2 h1, ⟨_, h2.symm⟩, fun S ⟨t, ht⟩ => ?_⟩
  rw [← ht, h2]
  have := raw_back w.buf (be k (n : Int)) t
  rw [hlen] at this
  show (Rdr.mk (w.buf ++ be k (n : Int) ++ t) w.buf.length false).num k = _
  unfold Rdr.num
  rw [this]
  show (_, if false = true then 0 else numOf (be k (n : Int))) = _
  rw [if_neg (by simp), hnum]
end Go.Proofs.Ytdphkaiijlekhaa
namespace Go.Proofs.Ytdphkaiijlekhaa
open Go Go.Eng
def Wr.re (w : Wr) (b : List UInt8) : Wr := { w with buf := b }
/-- A writing that looks at no byte that was written ahead. -/
structure WOp (f : Wr → Wr) : Prop where
  blind : ∀ w, ∃ d, (f w).buf = w.buf ++ d ∧ ∀ b, b.length = w.buf.length → f (w.re b) = (f w).re (b ++ d)
  full : ∀ w, (f w).full = false → w.full = false
  lim : ∀ w, (f w).limit = w.limit
theorem WOp.id : WOp (fun w => w) := ⟨fun w => ⟨[], (List.append_nil _).symm, fun b _ => by rw [List.append_nil]⟩, fun _ h => h, fun _ => rfl⟩
theorem WOp.comp {f g : Wr → Wr} (hf : WOp f) (hg : WOp g) : WOp (fun w => g (f w)) := by
  refine ⟨fun w => ?_, fun w h => hf.full w (hg.full _ h), fun w => (hg.lim _).trans (hf.lim w)⟩
  obtain ⟨d1, a1, a2⟩ := hf.blind w
  obtain ⟨d2, b1, b2⟩ := hg.blind (f w)
  refine ⟨d1 ++ d2, by rw [b1, a1, List.append_assoc], fun b hb => ?_⟩
  show g (f (w.re b)) = _
  rw [a2 b hb, b2 (b ++ d1) (by rw [a1, List.length_append, List.length_append, hb]), List.append_assoc]
theorem WOp.of {f : Wr → Wr} (h : ∀ w, ∃ g, WOp g ∧ f w = g w ∧ ∀ b, b.length = w.buf.length → f (w.re b) = g (w.re b)) : WOp f := by
  refine ⟨fun w => ?_, fun w => ?_, fun w => ?_⟩ <;> obtain ⟨g, hg, h1, h2⟩ := h w
  · obtain ⟨d, a1, a2⟩ := hg.blind w
    refine ⟨d, by rw [h1, a1], fun b hb => ?_⟩
    rw [h2 b hb, h1]
    exact a2 b hb
  · rw [h1]
    exact hg.full w
  · rw [h1]
    exact hg.lim w
theorem fits_re (w : Wr) {b : List UInt8} (s : List UInt8) (h : b.length = w.buf.length) : (w.re b).fits s = w.fits s := by
  show (!w.full && (decide (s.length = 0) || decide ((s.length : Int) ≤ w.limit - b.length))) = _
  rw [h]
  rfl
theorem piece_op (s : List UInt8) : WOp (fun w => w.piece s) := by
  refine ⟨fun w => ?_, fun w h => (piece_fit h).2.2, fun w => by show (w.piece s).limit = _; unfold Wr.piece; split <;> rfl⟩
  cases hf : w.fits s
  · refine ⟨[], by show (w.piece s).buf = _; unfold Wr.piece; rw [hf, List.append_nil]; rfl, fun b hb => ?_⟩
    show (w.re b).piece s = (w.piece s).re (b ++ [])
    unfold Wr.piece
    rw [fits_re w s hb, hf, List.append_nil]
    rfl
  · refine ⟨s, by show (w.piece s).buf = _; unfold Wr.piece; rw [hf]; rfl, fun b hb => ?_⟩
    show (w.re b).piece s = (w.piece s).re (b ++ s)
    unfold Wr.piece
    rw [fits_re w s hb, hf]
    rfl
theorem add_op (e : List UInt8 × Int) : WOp (fun w => { w with rests := w.rests ++ [e] }) :=
  ⟨fun w => ⟨[], (List.append_nil _).symm, fun b _ => by rw [List.append_nil]; rfl⟩, fun _ h => h, fun _ => rfl⟩
theorem nameGo_op (p : Bool) : ∀ (m : Nat) (n : List UInt8), WOp (fun w => Wr.nameGo p m w n)
  | 0, n => piece_op n
  | m + 1, n => by
    have ih := nameGo_op p m (n.drop (1 + bt n 0))
    have hpc := piece_op (n.take (1 + bt n 0))
    refine WOp.of fun w => ?_
    by_cases h1 : 1 < n.length
    · cases h2 : fndS w.rests n with
      | some a =>
        cases p with
        | true =>
          refine ⟨fun w => w.num 2 (49152 + a), piece_op _, ?_, fun b _ => ?_⟩
          · simp only [Wr.nameGo, if_pos h1, h2, if_true]
          · simp only [Wr.nameGo, if_pos h1, Wr.re, h2, if_true]
        | false =>
          cases h3 : w.fits (n.take (1 + bt n 0)) with
          | true =>
            refine ⟨_, hpc.comp ih, ?_, fun b hb => ?_⟩
            · simp only [Wr.nameGo, if_pos h1, h2, h3, if_true, Bool.false_eq_true, if_false]
            · have h4 : (w.re b).fits (n.take (1 + bt n 0)) = true := (fits_re w _ hb).trans h3
              have h5 : fndS (w.re b).rests n = some a := h2
              simp only [Wr.nameGo, if_pos h1, h5, h4, if_true, Bool.false_eq_true, if_false]
          | false =>
            refine ⟨_, hpc, ?_, fun b hb => ?_⟩
            · simp only [Wr.nameGo, if_pos h1, h2, h3, Bool.false_eq_true, if_false]
            · have h4 : (w.re b).fits (n.take (1 + bt n 0)) = false := (fits_re w _ hb).trans h3
              have h5 : fndS (w.re b).rests n = some a := h2
              simp only [Wr.nameGo, if_pos h1, h5, h4, Bool.false_eq_true, if_false]
      | none =>
        cases h3 : w.fits (n.take (1 + bt n 0)) with
        | true =>
          have hpb : ∀ w : Wr, w.fits (n.take (1 + bt n 0)) = true → (w.piece (n.take (1 + bt n 0))).rests = w.rests := fun w h => by unfold Wr.piece; rw [if_pos h]
          by_cases h6 : w.buf.length < 16384
          · refine ⟨_, (hpc.comp (add_op (n, (w.buf.length : Int)))).comp ih, ?_, fun b hb => ?_⟩
            · simp only [Wr.nameGo, if_pos h1, h2, h3, if_true, if_pos h6, hpb w h3]
            · have h4 : (w.re b).fits (n.take (1 + bt n 0)) = true := (fits_re w _ hb).trans h3
              have h5 : fndS (w.re b).rests n = none := h2
              have h7 : (w.re b).buf.length = w.buf.length := hb
              simp only [Wr.nameGo, if_pos h1, h5, h4, if_true, h7, if_pos h6, hpb _ h4]
          · refine ⟨_, hpc.comp ih, ?_, fun b hb => ?_⟩
            · simp only [Wr.nameGo, if_pos h1, h2, h3, if_true, if_neg h6]
            · have h4 : (w.re b).fits (n.take (1 + bt n 0)) = true := (fits_re w _ hb).trans h3
              have h5 : fndS (w.re b).rests n = none := h2
              have h7 : (w.re b).buf.length = w.buf.length := hb
              simp only [Wr.nameGo, if_pos h1, h5, h4, if_true, h7, if_neg h6]
        | false =>
          refine ⟨_, hpc, ?_, fun b hb => ?_⟩
          · simp only [Wr.nameGo, if_pos h1, h2, h3, Bool.false_eq_true, if_false]
          · have h4 : (w.re b).fits (n.take (1 + bt n 0)) = false := (fits_re w _ hb).trans h3
            have h5 : fndS (w.re b).rests n = none := h2
            simp only [Wr.nameGo, if_pos h1, h5, h4, Bool.false_eq_true, if_false]
    · refine ⟨_, piece_op n, ?_, fun b _ => ?_⟩
      · simp only [Wr.nameGo, if_neg h1]
      · simp only [Wr.nameGo, if_neg h1]
theorem name_op (n : List UInt8) (p : Bool) : WOp (fun w => w.name n p) := by
  refine WOp.of fun w => ?_
  by_cases h : w.full = true ∨ ¬ isName n
  · exact ⟨_, WOp.id, by show w.name n p = _; unfold Wr.name; rw [if_pos h], fun b _ => by show (w.re b).name n p = _; unfold Wr.name; exact if_pos h⟩
  · exact ⟨_, nameGo_op p n.length n, by show w.name n p = _; unfold Wr.name; rw [if_neg h], fun b _ => by show (w.re b).name n p = _; unfold Wr.name; exact if_neg h⟩
theorem names_op (p : Bool) (l : List (List UInt8)) : WOp (fun w => w.names p l) := by
  induction l with
  | nil => exact WOp.id
  | cons n l ih => exact (name_op n p).comp ih
theorem num_op (k : Nat) (n : Int) : WOp (fun w => w.num k n) := piece_op _
theorem copies_op (width : Nat) : ∀ (m : Nat) (r : Rdr), WOp (fun w => (w.copies width m r).1)
  | 0, _ => WOp.id
  | m + 1, _ => (num_op width _).comp (copies_op width m _)
theorem rdata_op (t : Int) (s : List UInt8) : WOp (fun w => (w.rdata t s).1) := by
  cases h : rcheck t s
  · have e : (fun w : Wr => (w.rdata t s).1) = fun w => w := funext fun w => by unfold Wr.rdata; rw [h]; rfl
    rw [e]
    exact WOp.id
  · cases hl : lookF t s with
    | none =>
      have e : (fun w : Wr => (w.rdata t s).1) = fun w => w.piece s := funext fun w => by unfold Wr.rdata; rw [h, hl]; rfl
      rw [e]
      exact piece_op s
    | some q =>
      obtain ⟨p, x, l, r⟩ := q
      have e : (fun w : Wr => (w.rdata t s).1) = fun w => (((w.copies 2 p.1 ⟨x, 0, false⟩).1.names (t != 33) l).copies 4 p.2.2 ⟨r, 0, false⟩).1 := funext fun w => by unfold Wr.rdata; rw [h, hl]; rfl
      rw [e]
      exact ((copies_op 2 p.1 _).comp (names_op _ l)).comp (copies_op 4 p.2.2 _)
theorem WOp.pre {f : Wr → Wr} (h : WOp f) (w : Wr) : w.buf <+: (f w).buf := by
  obtain ⟨d, h1, _⟩ := h.blind w
  exact ⟨d, h1.symm⟩
/-- A name begins data, where first says so. -/
theorem firstF_name (s : List UInt8) : ∀ m k, firstF s m k ≠ 0 → isName (s.take (firstF s m k)) := by
  intro m
  induction m with
  | zero => intro k h; exact absurd rfl h
  | succ m ih =>
    intro k h
    simp only [firstF] at h ⊢
    split at h
    · rename_i h1
      rw [if_pos h1]
      split at h
      · rename_i h2
        rw [if_pos h2]
        split at h
        · rename_i h3
          rw [if_pos h3]
          exact h3
        · exact absurd rfl h
      · rename_i h2
        rw [if_neg h2]
        exact ih _ h
    · exact absurd rfl h
theorem namesF_eq : ∀ (n : Nat) (s : List UInt8) (l : List (List UInt8)) (r : List UInt8), namesF n s = some (l, r) → l.flatten ++ r = s ∧ l.length = n ∧ ∀ x ∈ l, isName x
  | 0, s, l, r, h => by
    obtain ⟨rfl, rfl⟩ := Prod.mk.inj (Option.some.inj h)
    exact ⟨rfl, rfl, fun x hx => by cases hx⟩
  | n + 1, s, l, r, h => by
    simp only [namesF] at h
    split at h
    · cases h
    · rename_i h0
      obtain ⟨p, hp, h2⟩ := Option.map_eq_some_iff.1 h
      obtain ⟨rfl, rfl⟩ := Prod.mk.inj h2
      obtain ⟨a1, a2, a3⟩ := namesF_eq n _ _ _ hp
      refine ⟨?_, by simp [a2], fun x hx => ?_⟩
      · rw [List.flatten_cons, List.append_assoc, a1, List.take_append_drop]
      · rcases List.mem_cons.1 hx with rfl | hx
        · exact firstF_name s _ _ h0
        · exact a3 x hx
theorem numOf_be (k : Nat) (hk : k = 2 ∨ k = 4) (x : List UInt8) (hx : x.length = k) : be k (numOf x : Nat) = x ∧ (k = 2 ∧ numOf x < 65536 ∨ k = 4 ∧ numOf x < 4294967296) := by
  rcases hk with rfl | rfl
  · obtain ⟨a, b, rfl⟩ : ∃ a b, x = [a, b] := (match x, hx with | [a, b], _ => ⟨a, b, rfl⟩)
    have ha := UInt8.toNat_lt a
    have hb := UInt8.toNat_lt b
    have e : numOf [a, b] = a.toNat * 256 + b.toNat := by show (0 * 256 + a.toNat) * 256 + b.toNat = _; omega
    rw [e]
    refine ⟨?_, .inl ⟨rfl, by omega⟩⟩
    rw [be2 _ (by omega)]
    have e1 : (a.toNat * 256 + b.toNat) / 256 = a.toNat := by omega
    have e2 : (a.toNat * 256 + b.toNat) % 256 = b.toNat := by omega
    rw [e1, e2, UInt8.ofNat_toNat, UInt8.ofNat_toNat]
  · obtain ⟨a, b, c, d, rfl⟩ : ∃ a b c d, x = [a, b, c, d] := (match x, hx with | [a, b, c, d], _ => ⟨a, b, c, d, rfl⟩)
    have ha := UInt8.toNat_lt a
    have hb := UInt8.toNat_lt b
    have hc := UInt8.toNat_lt c
    have hd := UInt8.toNat_lt d
    have e : numOf [a, b, c, d] = ((a.toNat * 256 + b.toNat) * 256 + c.toNat) * 256 + d.toNat := by show (((0 * 256 + a.toNat) * 256 + b.toNat) * 256 + c.toNat) * 256 + d.toNat = _; omega
    rw [e]
    refine ⟨?_, .inr ⟨rfl, by omega⟩⟩
    have h1 : ∀ n : Nat, be 4 (n : Int) = [UInt8.ofNat (IntKind.u8.wrap ((n : Int).fdiv 16777216)).toNat, UInt8.ofNat (IntKind.u8.wrap ((n : Int).fdiv 65536)).toNat, UInt8.ofNat (IntKind.u8.wrap ((n : Int).fdiv 256)).toNat, UInt8.ofNat (IntKind.u8.wrap ((n : Int).fdiv 1)).toNat] := fun n => rfl
    rw [h1]
    rw [Int.fdiv_eq_ediv_of_nonneg _ (by decide), Int.fdiv_eq_ediv_of_nonneg _ (by decide), Int.fdiv_eq_ediv_of_nonneg _ (by decide), Int.fdiv_eq_ediv_of_nonneg _ (by decide)]
    rw [IntKind.wrap_u8, IntKind.wrap_u8, IntKind.wrap_u8, IntKind.wrap_u8]
    generalize hN : ((a.toNat * 256 + b.toNat) * 256 + c.toNat) * 256 + d.toNat = N
    have e1 : (((N : Int) / 16777216 % 256).toNat) = a.toNat := by omega
    have e2 : (((N : Int) / 65536 % 256).toNat) = b.toNat := by omega
    have e3 : (((N : Int) / 256 % 256).toNat) = c.toNat := by omega
    have e4 : (((N : Int) / 1 % 256).toNat) = d.toNat := by omega
    rw [e1, e2, e3, e4, UInt8.ofNat_toNat, UInt8.ofNat_toNat, UInt8.ofNat_toNat, UInt8.ofNat_toNat]
/-- Copied numbers are the bytes. -/
theorem copies_back (k : Nat) (hk : k = 2 ∨ k = 4) : ∀ (m : Nat) (w : Wr) (x : List UInt8) (p : Nat), p + k * m = x.length → (w.copies k m ⟨x, p, false⟩).1.full = false →
    (w.copies k m ⟨x, p, false⟩).1.buf = w.buf ++ x.drop p ∧ (w.copies k m ⟨x, p, false⟩).1.rests = w.rests
  | 0, w, x, p, hp, _ => by
    show w.buf = w.buf ++ x.drop p ∧ _
    rw [List.drop_of_length_le (by omega), List.append_nil]
    exact ⟨rfl, rfl⟩
  | m + 1, w, x, p, hp, hf => by
    have hmul : k * (m + 1) = k * m + k := rfl
    have hk0 : 0 < k := by omega
    have hraw : (Rdr.mk x p false).raw (k : Nat) = (⟨x, p + k, false⟩, (x.drop p).take k) := by
      unfold Rdr.raw
      rw [if_neg (by simp), if_neg (by show ¬ (((k : Nat) : Int) < 0 ∨ ((k : Nat) : Int) > (x.length : Int) - p); omega), Int.toNat_natCast]
    have hnum : (Rdr.mk x p false).num k = (⟨x, p + k, false⟩, numOf ((x.drop p).take k)) := by
      unfold Rdr.num
      rw [hraw]
      rfl
    have hxl : ((x.drop p).take k).length = k := by rw [List.length_take, List.length_drop]; omega
    obtain ⟨hbe, _⟩ := numOf_be k hk _ hxl
    have e : w.copies k (m + 1) ⟨x, p, false⟩ = (w.piece ((x.drop p).take k)).copies k m ⟨x, p + k, false⟩ := by
      show (w.num k ((Rdr.mk x p false).num k).2).copies k m ((Rdr.mk x p false).num k).1 = _
      rw [hnum]
      show (w.piece (be k ((numOf ((x.drop p).take k) : Nat) : Int))).copies k m _ = _
      rw [hbe]
    rw [e] at hf ⊢
    obtain ⟨a1, a2⟩ := copies_back k hk m _ x (p + k) (by omega) hf
    have hpf : (w.piece ((x.drop p).take k)).full = false := (copies_op k m _).full _ hf
    obtain ⟨b1, b2, _⟩ := piece_fit_rests hpf
    refine ⟨?_, a2.trans b1⟩
    rw [a1, b2, List.append_assoc, ← List.drop_drop, List.take_append_drop]
/-- Names that were written are read. -/
theorem names_back (p : Bool) : ∀ (l : List (List UInt8)) (w : Wr), (∀ n ∈ l, isName n) → RO w → (w.names p l).full = false →
    RO (w.names p l) ∧ ∀ b, Reads w (w.names p l) (fun r => Rdr.names l.length r b) (b ++ l.flatten)
  | [], w, _, hro, _ => ⟨hro, fun b S _ => by show (_, b) = _; simp [Wr.names]⟩
  | n :: l, w, hl, hro, hf => by
    have hf : ((w.name n p).names p l).full = false := hf
    have h1 := (names_op p l).full _ hf
    have h0 := (name_op n p).full _ h1
    obtain ⟨a1, _, a3⟩ := name_back h0 hro (hl n (List.mem_cons_self ..)) p h1
    obtain ⟨b1, b2⟩ := names_back p l (w.name n p) (fun x hx => hl x (List.mem_cons_of_mem _ hx)) a1 hf
    refine ⟨b1, fun b S hS => ?_⟩
    show Rdr.names l.length (Rdr.mk S w.buf.length false).name.1 (b ++ (Rdr.mk S w.buf.length false).name.2) = _
    rw [a3 S (((names_op p l).pre _).trans hS)]
    rw [List.flatten_cons, ← List.append_assoc]
    exact b2 (b ++ n) S hS
theorem formOf_cases {t : Int} {f : Nat × Nat × Nat} (h : formOf t = some f) : t ≠ 1 ∧ t ≠ 28 ∧ t ≠ 16 := by
  unfold formOf at h
  repeat' (split at h)
  all_goals first | omega | cases h
theorem raw_reads {w w1 : Wr} {x : List UInt8} (h : w1.buf = w.buf ++ x) : Reads w w1 (fun r => r.raw x.length) x := by
  intro S ⟨t, ht⟩
  have := raw_back w.buf x t
  rw [← h, ht] at this
  exact this
/-- Data that were written are read. -/
theorem rdata_back {w : Wr} (hro : RO w) {t : Int} {s : List UInt8} (hs : rcheck t s = true) (hf : (w.rdata t s).1.full = false) :
    RO (w.rdata t s).1 ∧ ∀ S, (w.rdata t s).1.buf <+: S → (Rdr.mk S w.buf.length false).rdata t ((w.rdata t s).1.buf.length - w.buf.length : Nat) = (s, 0) ∧
      ((Rdr.mk S w.buf.length false).part ((w.rdata t s).1.buf.length - w.buf.length : Nat)).1 = ⟨S, (w.rdata t s).1.buf.length, false⟩ := by
  obtain ⟨d, hd⟩ := (rdata_op t s).pre w
  have hd : w.buf ++ d = (w.rdata t s).1.buf := hd
  have hdl : (w.rdata t s).1.buf.length - w.buf.length = d.length := by rw [← hd, List.length_append]; omega
  -- what lies there
  have body : RO (w.rdata t s).1 ∧ (Rdr.mk (w.rdata t s).1.buf w.buf.length false).body t d.length = (⟨(w.rdata t s).1.buf, (w.rdata t s).1.buf.length, false⟩, s) := by
    cases hfo : formOf t with
    | none =>
      have hl : lookF t s = none := by unfold lookF; rw [hfo]; split <;> rfl
      have e : (w.rdata t s).1 = w.piece s := by unfold Wr.rdata; rw [hs, hl]; rfl
      rw [e] at hf hd ⊢
      obtain ⟨b1, b2, _⟩ := piece_fit_rests hf
      have : d = s := List.append_cancel_left (hd.trans b2)
      subst this
      refine ⟨hro.more b2 b1, ?_⟩
      unfold Rdr.body
      rw [hfo]
      exact raw_reads b2 _ (List.prefix_refl _)
    | some f =>
      obtain ⟨t1, t2, t3⟩ := formOf_cases hfo
      have hcs := hs
      unfold rcheck rgood at hcs
      rw [if_neg t1, if_neg t2, if_neg t3, hfo] at hcs
      simp only [Bool.and_eq_true, decide_eq_true_eq] at hcs
      obtain ⟨c1, c2⟩ := hcs
      obtain ⟨⟨x, l, r⟩, hcut⟩ := Option.isSome_iff_exists.1 c2
      have hl : lookF t s = some (f, x, l, r) := by unfold lookF; rw [if_pos c1, hfo]; show (cutF f.1 f.2.1 f.2.2 s).map _ = _; rw [hcut]; rfl
      obtain ⟨_, _, e1, e2, e3, e4⟩ := lookF_le hl
      obtain ⟨n1, n2, n3⟩ := namesF_eq _ _ _ _ e3
      have hx : x.length = 2 * f.1 := by rw [e1, List.length_take]; omega
      have hcat : x ++ l.flatten ++ r = s := by rw [List.append_assoc, n1, e1, List.take_append_drop]
      have e : (w.rdata t s).1 = (((w.copies 2 f.1 ⟨x, 0, false⟩).1.names (t != 33) l).copies 4 f.2.2 ⟨r, 0, false⟩).1 := by unfold Wr.rdata; rw [hs, hl]; rfl
      rw [e] at hf hd ⊢
      have f2 := (copies_op 4 f.2.2 _).full _ hf
      have f1 := (names_op _ l).full _ f2
      obtain ⟨g1, g2⟩ := copies_back 2 (.inl rfl) f.1 w x 0 (by omega) f1
      obtain ⟨g3, g4⟩ := copies_back 4 (.inr rfl) f.2.2 _ r 0 (by omega) hf
      rw [List.drop_zero] at g1 g3
      obtain ⟨k1, k2⟩ := names_back (t != 33) l _ n3 (hro.more g1 g2) f2
      refine ⟨k1.more g3 g4, ?_⟩
      have p2 : ((w.copies 2 f.1 ⟨x, 0, false⟩).1.names (t != 33) l).buf <+: _ := (copies_op 4 f.2.2 ⟨r, 0, false⟩).pre ((w.copies 2 f.1 ⟨x, 0, false⟩).1.names (t != 33) l)
      have p1 : (w.copies 2 f.1 ⟨x, 0, false⟩).1.buf <+: ((w.copies 2 f.1 ⟨x, 0, false⟩).1.names (t != 33) l).buf := (names_op (t != 33) l).pre (w.copies 2 f.1 ⟨x, 0, false⟩).1
      clear f1 f2 e g2 g4 k1 hf hd
      generalize (((w.copies 2 f.1 ⟨x, 0, false⟩).1.names (t != 33) l).copies 4 f.2.2 ⟨r, 0, false⟩).1 = w3 at p2 g3 ⊢
      generalize (w.copies 2 f.1 ⟨x, 0, false⟩).1.names (t != 33) l = w2 at p2 p1 g3 k2
      generalize (w.copies 2 f.1 ⟨x, 0, false⟩).1 = w1 at p1 g1 k2
      have r1 : ∀ S, w1.buf <+: S → (Rdr.mk S w.buf.length false).raw x.length = (⟨S, w1.buf.length, false⟩, x) := raw_reads g1
      have r3 : ∀ S, w3.buf <+: S → (Rdr.mk S w2.buf.length false).raw r.length = (⟨S, w3.buf.length, false⟩, r) := raw_reads g3
      have k2 : ∀ b S, w2.buf <+: S → Rdr.names l.length ⟨S, w1.buf.length, false⟩ b = (⟨S, w2.buf.length, false⟩, b ++ l.flatten) := k2
      unfold Rdr.body
      rw [hfo]
      show (((Rdr.names f.2.1 ((Rdr.mk _ w.buf.length false).raw (2 * (f.1 : Int))).1 ((Rdr.mk _ w.buf.length false).raw (2 * (f.1 : Int))).2).1.raw (4 * (f.2.2 : Int))).1, _ ++ ((Rdr.names f.2.1 ((Rdr.mk _ w.buf.length false).raw (2 * (f.1 : Int))).1 ((Rdr.mk _ w.buf.length false).raw (2 * (f.1 : Int))).2).1.raw (4 * (f.2.2 : Int))).2) = _
      have q1 : (2 * (f.1 : Int)) = ((x.length : Nat) : Int) := by omega
      have q2 : (4 * (f.2.2 : Int)) = ((r.length : Nat) : Int) := by omega
      rw [q1, q2, r1 _ (p1.trans p2), ← n2, k2 x _ p2, r3 _ (List.prefix_refl _)]
      show (_, x ++ l.flatten ++ r) = _
      rw [hcat]
  refine ⟨body.1, fun S hS => ?_⟩
  rw [hdl]
  have hraw := raw_reads hd.symm S hS
  have hraw : (Rdr.mk S w.buf.length false).raw (d.length : Nat) = (⟨S, (w.rdata t s).1.buf.length, false⟩, d) := hraw
  have htake : S.take (w.rdata t s).1.buf.length = (w.rdata t s).1.buf := by
    obtain ⟨u, hu⟩ := hS
    rw [← hu, List.take_left]
  have hpart : (Rdr.mk S w.buf.length false).part (d.length : Nat) = (⟨S, (w.rdata t s).1.buf.length, false⟩, ⟨(w.rdata t s).1.buf, w.buf.length, false⟩) := by
    unfold Rdr.part
    rw [hraw]
    show (_, if false = true then _ else (⟨S.take (w.rdata t s).1.buf.length, if false = true then 0 else w.buf.length, false⟩ : Rdr)) = _
    rw [if_neg (by simp), if_neg (by simp), htake]
  refine ⟨?_, by rw [hpart]⟩
  unfold Rdr.rdata
  rw [hpart]
  show (if false = true then _ else _) = _
  rw [if_neg (by simp)]
  show (if (((Rdr.mk (w.rdata t s).1.buf w.buf.length false).body t (d.length : Nat)).1.bad || decide (0 < ((Rdr.mk (w.rdata t s).1.buf w.buf.length false).body t (d.length : Nat)).1.s.length - ((Rdr.mk (w.rdata t s).1.buf w.buf.length false).body t (d.length : Nat)).1.p) || !rcheck t ((Rdr.mk (w.rdata t s).1.buf w.buf.length false).body t (d.length : Nat)).2) = true then _ else (((Rdr.mk (w.rdata t s).1.buf w.buf.length false).body t (d.length : Nat)).2, (0 : Int))) = _
  rw [body.2]
  show (if (false || decide (0 < (w.rdata t s).1.buf.length - (w.rdata t s).1.buf.length) || !rcheck t s) = true then _ else (s, (0 : Int))) = _
  rw [hs, Nat.sub_self]
  rfl
theorem record_lim (w : Wr) (r : RR) : (w.record r).1.limit = w.limit := by
  unfold Wr.record
  split
  · have hset : ∀ (a : Wr) (i n : Int), (a.set i n).limit = a.limit := fun a i n => by unfold Wr.set; split <;> rfl
    exact (hset _ _ _).trans (((((((name_op r.nm true).comp (num_op 2 r.ty)).comp (num_op 2 r.cl)).comp (num_op 4 r.ttl)).comp (num_op 2 0)).comp (rdata_op r.ty r.d)).lim w)
  · rfl
/-- A record that was written is read. -/
theorem record_back {w : Wr} (hok : w.Ok) (hlim : w.limit ≤ 65535) (hro : RO w) {r : RR} (hc : r.check = true) (ho : r.Ok) (hf : (w.record r).1.full = false) :
    w.full = false ∧ RO (w.record r).1 ∧ w.buf <+: (w.record r).1.buf ∧ ∀ S, (w.record r).1.buf <+: S → (Rdr.mk S w.buf.length false).recd = (⟨S, (w.record r).1.buf.length, false⟩, r, 0) := by
  have hcs := hc
  simp only [RR.check, Bool.and_eq_true, Bool.or_eq_true, decide_eq_true_eq, beq_iff_eq] at hcs
  obtain ⟨⟨c1, c2⟩, c3⟩ := hcs
  obtain ⟨ty, hty⟩ : ∃ n : Nat, r.ty = n := ⟨r.ty.toNat, by have := ho.ty; omega⟩
  obtain ⟨cl, hcl⟩ : ∃ n : Nat, r.cl = n := ⟨r.cl.toNat, by have := ho.cl; omega⟩
  obtain ⟨tt, htt⟩ : ∃ n : Nat, r.ttl = n := ⟨r.ttl.toNat, by have := ho.ttl; omega⟩
  have hty' : ty < 65536 := by have := ho.ty; omega
  have hcl' : cl < 65536 := by have := ho.cl; omega
  have htt' : tt < 4294967296 := by have := ho.ttl; omega
  generalize hw0 : w.name r.nm true = wa
  generalize hwb : wa.num 2 r.ty = wb
  generalize hwc : wb.num 2 r.cl = wc
  generalize hwd : wc.num 4 r.ttl = w1
  obtain ⟨d, hd1, hd2⟩ := (rdata_op r.ty r.d).blind (w1.num 2 0)
  have hd1 : ((w1.num 2 0).rdata r.ty r.d).1.buf = (w1.num 2 0).buf ++ d := hd1
  have hoks : ((w1.num 2 0).rdata r.ty r.d).1.Ok := by
    rw [← hwd, ← hwc, ← hwb, ← hw0]
    exact Wr.Ok.rdata (((((hok.name _ _).num _ _).num _ _).num _ _).num _ _) _ _
  have hlims : ((w1.num 2 0).rdata r.ty r.d).1.limit = w.limit := by
    rw [← hwd, ← hwc, ← hwb, ← hw0]
    exact ((((((name_op r.nm true).comp (num_op 2 r.ty)).comp (num_op 2 r.cl)).comp (num_op 4 r.ttl)).comp (num_op 2 0)).comp (rdata_op r.ty r.d)).lim w
  have hrec : w.record r = (((w1.num 2 0).rdata r.ty r.d).1.set w1.buf.length (IntKind.u16.wrap ((((w1.num 2 0).rdata r.ty r.d).1.buf.length : Int) - (w1.num 2 0).buf.length)), ((w1.num 2 0).rdata r.ty r.d).2) := by
    rw [← hwd, ← hwc, ← hwb, ← hw0]
    unfold Wr.record
    rw [if_pos hc]
  have hsetf : ∀ (a : Wr) (i n : Int), (a.set i n).full = a.full := fun a i n => by unfold Wr.set; split <;> rfl
  rw [hrec] at hf ⊢
  have hf : (((w1.num 2 0).rdata r.ty r.d).1.set w1.buf.length (IntKind.u16.wrap ((((w1.num 2 0).rdata r.ty r.d).1.buf.length : Int) - (w1.num 2 0).buf.length))).full = false := hf
  rw [hsetf] at hf
  have hf2 := (rdata_op r.ty r.d).full _ hf
  obtain ⟨hfit, hpc, hf1⟩ := piece_fit hf2
  have hpc : w1.num 2 0 = { w1 with buf := w1.buf ++ be 2 0 } := hpc
  have hlen2 : ((w1.num 2 0).buf).length = w1.buf.length + 2 := by rw [hpc]; show (w1.buf ++ be 2 0).length = _; rw [List.length_append]; rfl
  have hdlen : d.length ≤ 65535 := by
    have := hoks.len
    rw [hd1, List.length_append, hlims] at this
    omega
  have hL : IntKind.u16.wrap ((((w1.num 2 0).rdata r.ty r.d).1.buf.length : Int) - (w1.num 2 0).buf.length) = (d.length : Int) := by
    rw [hd1, List.length_append, IntKind.wrap_u16]
    omega
  rw [hL]
  have hfitL : w1.fits (be 2 (d.length : Int)) = true := hfit
  have hpcL : w1.num 2 (d.length : Int) = { w1 with buf := w1.buf ++ be 2 (d.length : Int) } := by
    show w1.piece _ = _
    unfold Wr.piece
    rw [if_pos hfitL]
  have hre : w1.num 2 (d.length : Int) = (w1.num 2 0).re (w1.buf ++ be 2 (d.length : Int)) := by rw [hpcL, hpc]; rfl
  have hrd := hd2 (w1.buf ++ be 2 (d.length : Int)) (by rw [List.length_append, hlen2]; rfl)
  have hrd : (((w1.num 2 0).re (w1.buf ++ be 2 (d.length : Int))).rdata r.ty r.d).1 = ((w1.num 2 0).rdata r.ty r.d).1.re (w1.buf ++ be 2 (d.length : Int) ++ d) := hrd
  rw [← hre] at hrd
  have hset : ((w1.num 2 0).rdata r.ty r.d).1.set w1.buf.length (d.length : Int) = ((w1.num 2 (d.length : Int)).rdata r.ty r.d).1 := by
    rw [hrd]
    unfold Wr.set
    have hbl : ((w1.num 2 0).rdata r.ty r.d).1.buf.length = w1.buf.length + 2 + d.length := by rw [hd1, List.length_append, hlen2]
    rw [if_neg (by rw [hbl]; omega), Int.toNat_natCast, hd1, hpc]
    unfold Wr.re
    congr 1
    show two (w1.buf ++ be 2 0 ++ d) w1.buf.length _ _ = _
    unfold two
    rw [List.append_assoc, List.take_left, List.append_assoc]
    congr 1
    rw [be2 _ (show d.length < 65536 by omega)]
    have q0 : (w1.buf ++ (be 2 0 ++ d)).drop (w1.buf.length + 2) = d := by
      rw [← List.drop_drop, List.drop_left]
      rfl
    rw [q0]
    have q1 : (d.length : Int).fdiv 256 = ((d.length / 256 : Nat) : Int) := by rw [Int.fdiv_eq_ediv_of_nonneg _ (by decide)]; omega
    rw [q1, IntKind.wrap_u8, IntKind.wrap_u8]
    show _ :: _ :: d = [_, _] ++ d
    congr 2
    congr 2
    omega
  rw [hset]
  have hfR : ((w1.num 2 (d.length : Int)).rdata r.ty r.d).1.full = false := by rw [hrd]; exact hf
  clear hrec hset hre hd2 hoks hlims hf hf2 hfit hfitL
  have fL : (w1.num 2 (d.length : Int)).full = false := (rdata_op r.ty r.d).full _ hfR
  have f1 : w1.full = false := (num_op 2 _).full _ fL
  rw [← hwd] at f1
  have fc : wc.full = false := (num_op 4 _).full _ f1
  rw [← hwc] at fc
  have fb : wb.full = false := (num_op 2 _).full _ fc
  rw [← hwb] at fb
  have fa : wa.full = false := (num_op 2 _).full _ fb
  rw [← hw0] at fa
  have f0 : w.full = false := (name_op r.nm true).full _ fa
  obtain ⟨ra, pa, va⟩ := name_back f0 hro c1 true fa
  rw [hw0] at ra pa va
  rw [hty] at fb hwb
  obtain ⟨_, rb, pb, vb⟩ := num_back ra 2 ty (.inl ⟨rfl, hty'⟩) fb
  rw [hwb] at rb pb vb
  rw [hcl] at fc hwc
  obtain ⟨_, rc, pc, vc⟩ := num_back rb 2 cl (.inl ⟨rfl, hcl'⟩) fc
  rw [hwc] at rc pc vc
  rw [htt] at f1 hwd
  obtain ⟨_, rd, pd, vd⟩ := num_back rc 4 tt (.inr ⟨rfl, htt'⟩) f1
  rw [hwd] at rd pd vd
  obtain ⟨_, re, pe, ve⟩ := num_back rd 2 d.length (.inl ⟨rfl, by omega⟩) fL
  obtain ⟨rf, vf⟩ := rdata_back re c2 hfR
  have pf := (rdata_op r.ty r.d).pre (w1.num 2 (d.length : Int))
  refine ⟨f0, rf, (((pa.trans pb).trans pc).trans pd).trans (pe.trans pf), fun S hS => ?_⟩
  obtain ⟨vf1, vf2⟩ := vf S hS
  have hS : ((w1.num 2 (d.length : Int)).rdata r.ty r.d).1.buf <+: S := hS
  have s5 := pf.trans hS
  have s4 := pe.trans s5
  have s3 := pd.trans s4
  have s2 := pc.trans s3
  have s1 := pb.trans s2
  have hdl : ((w1.num 2 (d.length : Int)).rdata r.ty r.d).1.buf.length - (w1.num 2 (d.length : Int)).buf.length = d.length := by
    rw [hrd, hpcL]
    show (w1.buf ++ be 2 (d.length : Int) ++ d).length - (w1.buf ++ be 2 (d.length : Int)).length = _
    simp only [List.length_append]
    omega
  rw [hdl] at vf1 vf2
  unfold Rdr.recd
  rw [va S s1]
  dsimp only
  have vb : (Rdr.mk S wa.buf.length false).num 2 = _ := vb S s2
  rw [vb]
  dsimp only
  have vc : (Rdr.mk S wb.buf.length false).num 2 = _ := vc S s3
  rw [vc]
  dsimp only
  have vd : (Rdr.mk S wc.buf.length false).num 4 = _ := vd S s4
  rw [vd]
  dsimp only
  have ve : (Rdr.mk S w1.buf.length false).num 2 = _ := ve S s5
  rw [ve]
  dsimp only
  rw [if_neg (by simp)]
  have x1 : IntKind.u16.wrap (ty : Int) = r.ty := by rw [IntKind.wrap_u16, hty]; omega
  have x2 : IntKind.i64.wrap (d.length : Int) = (d.length : Int) := w64_in _ (by omega)
  have x3 : IntKind.u16.wrap (cl : Int) = r.cl := by rw [IntKind.wrap_u16, hcl]; omega
  have x4 : IntKind.u32.wrap (tt : Int) = r.ttl := by rw [IntKind.wrap_u32, htt]; omega
  rw [x1, x2, x3, x4, vf1, vf2]
  dsimp only
  rw [if_neg (by simp), if_neg (by rintro ⟨h1, h2⟩; rcases c3 with h | h <;> omega)]
end Go.Proofs.Ytdphkaiijlekhaa
