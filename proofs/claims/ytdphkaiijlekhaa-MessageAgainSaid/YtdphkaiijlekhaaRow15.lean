/-
  MessageAgain returns true at every input and leaves its arguments as they read; ahead of it what is read is right.
  Conditions: none.
-/
import Derived.Test.YtdphkaiijlekhaaB3
set_option linter.unusedVariables false
set_option linter.unusedSimpArgs false
namespace Go.Proofs.Ytdphkaiijlekhaa
open Go Go.Eng
theorem raw_bad {r : Rdr} {n : Int} (h : (r.raw n).1.bad = false) : r.bad = false := by
  unfold Rdr.raw at h
  split at h
  · rename_i hb; rw [hb] at h; cases h
  · rename_i hb
    cases hr : r.bad
    · rfl
    · exact absurd hr hb
theorem num_bad {r : Rdr} {n : Nat} (h : (r.num n).1.bad = false) : r.bad = false := raw_bad h
theorem name_right {r : Rdr} (h : r.name.1.bad = false) : isName r.name.2 := by
  unfold Rdr.name at h ⊢
  split at h
  · rename_i hb; rw [hb] at h; cases h
  · rename_i hb
    split at h
    · rename_i hn
      rw [if_neg hb, if_pos hn]
      exact hn
    · cases h
theorem u16_in (n : Int) : 0 ≤ IntKind.u16.wrap n ∧ IntKind.u16.wrap n ≤ 65535 := by rw [IntKind.wrap_u16]; omega
theorem u32_in (n : Int) : 0 ≤ IntKind.u32.wrap n ∧ IntKind.u32.wrap n ≤ 4294967295 := by rw [IntKind.wrap_u32]; omega
theorem qs_right : ∀ (n : Nat) (r : Rdr) (l : List Q), (∀ q ∈ l, isName q.nm ∧ q.Ok) → (r.qs n l).2.2 = true → (∀ q ∈ (r.qs n l).2.1, isName q.nm ∧ q.Ok) ∧ (r.qs n l).2.1.length = l.length + n
  | 0, r, l, hl, _ => ⟨hl, rfl⟩
  | n + 1, r, l, hl, h => by
    unfold Rdr.qs at h ⊢
    split at h
    · cases h
    · rename_i hb
      rw [if_neg hb]
      have hb : ((r.name.1.num 2).1.num 2).1.bad = false := by simpa using hb
      have hn := name_right (num_bad (num_bad hb))
      obtain ⟨h1, h2⟩ := qs_right n _ (l ++ [⟨r.name.2, IntKind.u16.wrap (r.name.1.num 2).2, IntKind.u16.wrap ((r.name.1.num 2).1.num 2).2⟩]) (fun q hq => by
        rcases List.mem_append.1 hq with hq | hq
        · exact hl q hq
        · rw [List.mem_singleton.1 hq]
          exact ⟨hn, ⟨u16_in _, u16_in _⟩⟩) h
      refine ⟨h1, ?_⟩
      rw [h2, List.length_append]
      show l.length + 1 + n = l.length + (n + 1)
      omega
theorem rdata_right {r : Rdr} {t w : Int} (h : (r.rdata t w).2 = 0) : rcheck t (r.rdata t w).1 = true := by
  unfold Rdr.rdata at h ⊢
  split at h
  · cases h
  · rename_i hb
    rw [if_neg hb]
    dsimp only at h ⊢
    split at h
    · cases h
    · rename_i hc
      rw [if_neg hc]
      simp only [Bool.or_eq_true, Bool.not_eq_true', decide_eq_true_eq, not_or] at hc
      simpa using hc.2
theorem recd_right {r : Rdr} (h : r.recd.2.2 = 0) : r.recd.2.1.check = true ∧ r.recd.2.1.Ok := by
  unfold Rdr.recd at h ⊢
  dsimp only at h ⊢
  split at h
  · cases h
  · rename_i hb
    rw [if_neg hb]
    split at h
    · rename_i hx
      exact absurd h hx
    · rename_i hx
      rw [if_neg hx]
      have hb : (((((r.name).1.num 2).1.num 2).1.num 4).1.num 2).1.bad = false := by simpa using hb
      have hn := name_right (num_bad (num_bad (num_bad (num_bad hb))))
      have hx : ¬ ((((((r.name).1.num 2).1.num 2).1.num 4).1.num 2).1.rdata (IntKind.u16.wrap (r.name.1.num 2).2) (IntKind.i64.wrap ((((r.name.1.num 2).1.num 2).1.num 4).1.num 2).2)).2 ≠ 0 := hx
      have hd := rdata_right (Decidable.not_not.1 hx)
      constructor
      · unfold RR.check
        simp only [Bool.and_eq_true, Bool.or_eq_true, decide_eq_true_eq, beq_iff_eq]
        refine ⟨⟨hn, hd⟩, ?_⟩
        split
        · exact .inl (by decide)
        · rename_i hc
          by_cases h1 : IntKind.u32.wrap ((((r.name.1.num 2).1.num 2).1.num 4).2 : Int) > 2147483647
          · exact .inr (Decidable.byContradiction fun h2 => hc ⟨h1, h2⟩)
          · exact .inl (by omega)
      · refine ⟨u16_in _, u16_in _, ?_⟩
        dsimp only
        split
        · omega
        · exact u32_in _
theorem rs_right : ∀ (n : Nat) (r : Rdr) (l : List RR), (∀ q ∈ l, q.check = true ∧ q.Ok) → (r.rs n l).2.2 = 0 → (∀ q ∈ (r.rs n l).2.1, q.check = true ∧ q.Ok) ∧ (r.rs n l).2.1.length = l.length + n
  | 0, r, l, hl, _ => ⟨hl, rfl⟩
  | n + 1, r, l, hl, h => by
    unfold Rdr.rs at h ⊢
    split at h
    · rename_i hb; exact absurd h hb
    · rename_i hb
      rw [if_neg hb]
      have hg := recd_right (Decidable.not_not.1 hb)
      obtain ⟨h1, h2⟩ := rs_right n _ (l ++ [r.recd.2.1]) (fun q hq => by
        rcases List.mem_append.1 hq with hq | hq
        · exact hl q hq
        · rw [List.mem_singleton.1 hq]
          exact hg) h
      refine ⟨h1, ?_⟩
      rw [h2, List.length_append]
      show l.length + 1 + n = l.length + (n + 1)
      omega
/-- What sec comes to: an error, and no message, or what comes behind it. -/
theorem sec_right {r : Rdr} {n : Nat} {k : Rdr → List RR → Msg × Int} (P : Msg × Int → Prop) (hno : ∀ e, e ≠ 0 → P (Msg.no, e)) (hk : ∀ r1 x, (∀ q ∈ x, q.check = true ∧ q.Ok) → x.length = n → P (k r1 x)) : P (r.sec n k) := by
  unfold Rdr.sec
  split
  · rename_i h; exact hno _ h
  · rename_i h
    obtain ⟨h1, h2⟩ := rs_right n r [] (fun q hq => by cases hq) (Decidable.not_not.1 h)
    exact hk _ _ h1 (by simpa using h2)
structure Right (m : Msg) : Prop where
  check : m.check = true
  fld : m.Fld
theorem read_cases (s : List UInt8) : ((Msg.read s).2 ≠ 0 ∧ (Msg.read s).1 = Msg.no) ∨ ((Msg.read s).2 = 0 ∧ Right (Msg.read s).1) := by
  have hno : ∀ e : Int, e ≠ 0 → ((Msg.no, e).2 ≠ 0 ∧ (Msg.no, e).1 = Msg.no) ∨ ((Msg.no, e).2 = 0 ∧ Right (Msg.no, e).1) := fun e h => .inl ⟨h, rfl⟩
  unfold Msg.read
  split
  · exact hno 5 (by decide)
  dsimp only
  unfold Rdr.rest
  split
  · exact hno 7 (by decide)
  rename_i hc
  split
  · exact hno 5 (by decide)
  rename_i hq
  obtain ⟨q1, q2⟩ := qs_right _ _ [] (fun q hq => by cases hq) (by simpa using hq)
  refine sec_right (fun p => (p.2 ≠ 0 ∧ p.1 = Msg.no) ∨ (p.2 = 0 ∧ Right p.1)) hno fun r1 x hx lx => ?_
  refine sec_right (fun p => (p.2 ≠ 0 ∧ p.1 = Msg.no) ∨ (p.2 = 0 ∧ Right p.1)) hno fun r2 y hy ly => ?_
  refine sec_right (fun p => (p.2 ≠ 0 ∧ p.1 = Msg.no) ∨ (p.2 = 0 ∧ Right p.1)) hno fun r3 z hz lz => ?_
  unfold Rdr.fin
  split
  · exact hno 6 (by decide)
  refine .inr ⟨rfl, ?_, ⟨u16_in _, u16_in _, fun q hq => (q1 q hq).2, fun r hr => (hx r hr).2, fun r hr => (hy r hr).2, fun r hr => (hz r hr).2, fun h => ?_⟩⟩
  · unfold Msg.check Msg.of
    simp only [Bool.and_eq_true, decide_eq_true_eq, List.all_eq_true]
    rw [q2]
    simp only [List.length_nil]
    exact ⟨⟨⟨⟨⟨⟨⟨by omega, by omega⟩, by omega⟩, by omega⟩, fun q hq => (q1 q hq).1⟩, fun r hr => (hx r hr).1⟩, fun r hr => (hy r hr).1⟩, fun r hr => (hz r hr).1⟩
  · exact List.length_eq_zero_iff.1 (Nat.eq_of_beq_eq_true h)
/-- A reply's bits. -/
theorem bv16 (Y : BitVec 16) : BitVec.ofInt 16 (IntKind.u16.wrap (Y.toNat : Int)) = Y := by
  have h := Y.isLt
  have : IntKind.u16.wrap (Y.toNat : Int) = (Y.toNat : Int) := by rw [IntKind.wrap_u16]; omega
  rw [this]
  exact BitVec.eq_of_toNat_eq (by simp)
theorem low4 : ∀ c : Fin 16, (32768#16 ||| BitVec.ofNat 16 c.val) &&& 30720#16 = 0#16 ∧ (32768#16 ||| BitVec.ofNat 16 c.val) &&& 32768#16 = 32768#16 ∧ (32768#16 ||| BitVec.ofNat 16 c.val) &&& 15#16 = BitVec.ofNat 16 c.val := by decide
def and15 (code : Int) : Int := Go.bits BinOp.and IntKind.i64 code 15
theorem and15_lt (code : Int) : ∃ c : Fin 16, and15 code = (c.val : Int) := by
  unfold and15 Go.bits
  have h : ((BitVec.ofInt IntKind.i64.bits code &&& BitVec.ofInt IntKind.i64.bits 15).toNat) < 16 := by
    rw [BitVec.toNat_and]
    exact Nat.lt_of_le_of_lt (Nat.and_le_right) (by show (15#64).toNat < 16; decide)
  refine ⟨⟨_, h⟩, ?_⟩
  show IntKind.i64.wrap (((BitVec.ofInt IntKind.i64.bits code &&& BitVec.ofInt IntKind.i64.bits 15).toNat : Nat) : Int) = _
  rw [w64_in _ (by omega)]
theorem reply_bits (b code : Int) : ∃ c : Fin 16, and15 code = (c.val : Int) ∧
    Go.bits BinOp.or IntKind.u16 (Go.bits BinOp.and IntKind.u16 b 30976) (Go.bits BinOp.or IntKind.u16 32768 (IntKind.u16.wrap (Go.bits BinOp.and IntKind.i64 code 15))) = (((BitVec.ofInt 16 b &&& 30976#16) ||| (32768#16 ||| BitVec.ofNat 16 c.val)).toNat : Int) := by
  obtain ⟨c, hc⟩ := and15_lt code
  refine ⟨c, hc, ?_⟩
  have hc' : Go.bits BinOp.and IntKind.i64 code 15 = (c.val : Int) := hc
  rw [hc']
  have e1 : Go.bits BinOp.and IntKind.u16 b 30976 = IntKind.u16.wrap (((BitVec.ofInt 16 b &&& 30976#16).toNat : Nat) : Int) := rfl
  have hcl := c.isLt
  have e2 : IntKind.u16.wrap (c.val : Int) = (c.val : Int) := by rw [IntKind.wrap_u16]; omega
  have e3 : BitVec.ofInt 16 (c.val : Int) = BitVec.ofNat 16 c.val := BitVec.eq_of_toNat_eq (by simp)
  have e4 : Go.bits BinOp.or IntKind.u16 32768 (c.val : Int) = IntKind.u16.wrap (((32768#16 ||| BitVec.ofNat 16 c.val).toNat : Nat) : Int) := by
    rw [← e3]
    rfl
  rw [e1, e2, e4]
  have e5 : ∀ x y : BitVec 16, Go.bits BinOp.or IntKind.u16 (IntKind.u16.wrap (x.toNat : Int)) (IntKind.u16.wrap (y.toNat : Int)) = ((x ||| y).toNat : Int) := fun x y => by
    have : Go.bits BinOp.or IntKind.u16 (IntKind.u16.wrap (x.toNat : Int)) (IntKind.u16.wrap (y.toNat : Int)) = IntKind.u16.wrap (((BitVec.ofInt 16 (IntKind.u16.wrap (x.toNat : Int)) ||| BitVec.ofInt 16 (IntKind.u16.wrap (y.toNat : Int))).toNat : Nat) : Int) := rfl
    rw [this, bv16, bv16, IntKind.wrap_u16]
    have := (x ||| y).isLt
    omega
  exact e5 _ _
theorem and16 (X : BitVec 16) (n : Int) : Go.bits BinOp.and IntKind.u16 (X.toNat : Int) n = ((X &&& BitVec.ofInt 16 n).toNat : Int) := by
  have e : BitVec.ofInt 16 (X.toNat : Int) = X := BitVec.eq_of_toNat_eq (by simp)
  have : Go.bits BinOp.and IntKind.u16 (X.toNat : Int) n = IntKind.u16.wrap (((BitVec.ofInt 16 (X.toNat : Int) &&& BitVec.ofInt 16 n).toNat : Nat) : Int) := rfl
  rw [this, e, IntKind.wrap_u16]
  have := (X &&& BitVec.ofInt 16 n).isLt
  omega
theorem reply_law (m : Msg) (code : Int) : Go.bits BinOp.and IntKind.u16 (m.reply code).bits 32768 = 32768 ∧ (m.reply code).op = m.op ∧ (m.reply code).code = and15 code := by
  obtain ⟨c, hc, hb⟩ := reply_bits m.bits code
  obtain ⟨k1, k2, k3⟩ := low4 c
  have hb : (m.reply code).bits = (((BitVec.ofInt 16 m.bits &&& 30976#16) ||| (32768#16 ||| BitVec.ofNat 16 c.val)).toNat : Int) := hb
  have d : ∀ n : BitVec 16, ((BitVec.ofInt 16 m.bits &&& 30976#16) ||| (32768#16 ||| BitVec.ofNat 16 c.val)) &&& n = (BitVec.ofInt 16 m.bits &&& (30976#16 &&& n)) ||| ((32768#16 ||| BitVec.ofNat 16 c.val) &&& n) := fun n => by
    rw [BitVec.and_or_distrib_right, BitVec.and_assoc]
  have hcl := c.isLt
  refine ⟨?_, ?_, ?_⟩
  · rw [hb, and16]
    show (((((BitVec.ofInt 16 m.bits &&& 30976#16) ||| (32768#16 ||| BitVec.ofNat 16 c.val)) &&& 32768#16).toNat : Nat) : Int) = 32768
    rw [d, k2]
    have : (30976#16 &&& 32768#16) = 0#16 := by decide
    rw [this]
    simp
  · unfold Msg.op
    rw [hb, and16]
    have e : Go.bits BinOp.and IntKind.u16 m.bits 30720 = (((BitVec.ofInt 16 m.bits &&& 30720#16).toNat : Nat) : Int) := by
      have : Go.bits BinOp.and IntKind.u16 m.bits 30720 = IntKind.u16.wrap (((BitVec.ofInt 16 m.bits &&& 30720#16).toNat : Nat) : Int) := rfl
      rw [this, IntKind.wrap_u16]
      have := (BitVec.ofInt 16 m.bits &&& 30720#16).isLt
      omega
    rw [e]
    show (IntKind.i64.wrap (((((BitVec.ofInt 16 m.bits &&& 30976#16) ||| (32768#16 ||| BitVec.ofNat 16 c.val)) &&& 30720#16).toNat : Nat) : Int)).fdiv _ = _
    rw [d, k1]
    have : (30976#16 &&& 30720#16) = 30720#16 := by decide
    rw [this]
    simp
  · unfold Msg.code
    rw [hb, and16]
    show IntKind.i64.wrap (((((BitVec.ofInt 16 m.bits &&& 30976#16) ||| (32768#16 ||| BitVec.ofNat 16 c.val)) &&& 15#16).toNat : Nat) : Int) = _
    rw [d, k3, hc]
    have : (30976#16 &&& 15#16) = 0#16 := by decide
    rw [this]
    simp
    rw [w64_in _ (by omega)]
    omega
end Go.Proofs.Ytdphkaiijlekhaa
namespace Go.Proofs.Ytdphkaiijlekhaa
open Go Go.Eng
set_option maxRecDepth 100000 in
set_option maxHeartbeats 16000000 in
theorem again_ok (s : List UInt8) (code : Int) : FnOk Try.prog 9 [.d (.str s), .d (.int .i64 code)] (.d (.bool true)) := by
  refine fnOk_of_run (TT := TT) (IN := lookI []) TT_ok INok_nil mixed 1000 Try.func9 rfl (enters Try.func9 (by kernel_rfl) rfl) rfl 119 (by kernel_rfl) ?_
  conv => whnf
  refine .one (.data _ lives6_ok rfl rfl ?_)
  conv => whnf
  refine brF rfl ?_
  conv => whnf
  refine ⟨fun h1 => ?_, fun h1 => ?_⟩
  · conv => whnf
    try exact rfl
  have h1 : ¬ (s.length : Int) > 32768 := of_decide_eq_false h1
  have hr := mread_ok s (by omega)
  conv => whnf
  rcases read_cases s with ⟨e1, e2⟩ | ⟨e1, hm⟩
  · have hne : ((Msg.read s).2 != 0) = true := by simp [e1]
    rw [e2] at hr
    refine .one (.data _ hr rfl rfl ?_)
    conv => whnf
    refine brT hne ?_
    conv => whnf
    exact rfl
  rw [e1] at hr
  generalize (Msg.read s).1 = m at hr hm
  obtain ⟨hc, hf⟩ := hm
  have hcs := hc
  simp only [Msg.check, Bool.and_eq_true, decide_eq_true_eq] at hcs
  obtain ⟨⟨⟨⟨⟨⟨⟨l1, l2⟩, l3⟩, l4⟩, _⟩, _⟩, _⟩, _⟩ := hcs
  have hok := hf.ok (by omega)
  have hrep := reply_ok m code hf.za (by omega)
  have hchk := mcheck_ok m hok.len
  rw [hc] at hchk
  have hop1 := op_ok (m.reply code)
  have hop2 := op_ok m
  have hcode := code_ok (m.reply code)
  obtain ⟨b1, b2, b3⟩ := reply_law m code
  rw [b2] at hop1
  rw [b3] at hcode
  have hw := mwrite_ok m hok 65536 (by decide)
  refine .one (.data _ hr rfl rfl ?_)
  conv => whnf
  repeat (first | (refine brF rfl ?_; conv => whnf) | (refine brT rfl ?_; conv => whnf))
  refine .one (.data _ hrep rfl rfl ?_)
  conv => whnf
  refine .data _ hchk rfl rfl ?_
  conv => whnf
  have hid : (m.id != m.id) = false := by simp
  have hln : ((m.asks.length : Int) != (m.asks.length : Int)) = false := by simp
  have hqr : (Go.bits BinOp.and IntKind.u16 (m.reply code).bits 32768 == 0) = false := by rw [b1]; rfl
  have hopp : (m.op != m.op) = false := by simp
  have hcod : (and15 code != Go.bits BinOp.and IntKind.i64 code 15) = false := by unfold and15; simp
  repeat (first | (refine brF rfl ?_; conv => whnf) | (refine brT rfl ?_; conv => whnf) | (refine brF hid ?_; conv => whnf) | (refine brF hln ?_; conv => whnf) | (refine brF hqr ?_; conv => whnf) | (refine brF hopp ?_; conv => whnf) | (refine brF hcod ?_; conv => whnf))
  refine .data _ hop1 rfl rfl ?_
  conv => whnf
  refine .data _ hop2 rfl rfl ?_
  conv => whnf
  repeat (first | (refine brF rfl ?_; conv => whnf) | (refine brT rfl ?_; conv => whnf) | (refine brF hid ?_; conv => whnf) | (refine brF hln ?_; conv => whnf) | (refine brF hqr ?_; conv => whnf) | (refine brF hopp ?_; conv => whnf) | (refine brF hcod ?_; conv => whnf))
  refine .data _ hcode rfl rfl ?_
  conv => whnf
  repeat (first | (refine brF rfl ?_; conv => whnf) | (refine brT rfl ?_; conv => whnf) | (refine brF hid ?_; conv => whnf) | (refine brF hln ?_; conv => whnf) | (refine brF hqr ?_; conv => whnf) | (refine brF hopp ?_; conv => whnf) | (refine brF hcod ?_; conv => whnf))
  rcases write_cases (limit := 65536) hok (by decide) with ⟨hc2, _⟩ | ⟨_, e2⟩ | ⟨_, b, e2, er, el, eb⟩
  · rw [hc] at hc2
    cases hc2
  · have hr0 := mread_ok [] (by decide)
    rw [read_nil] at hr0
    rw [e2] at hw
    refine .one (.data _ hw rfl rfl ?_)
    conv => whnf
    refine .one (.data _ hr0 rfl rfl ?_)
    conv => whnf
    repeat (first | (refine brF rfl ?_; conv => whnf) | (refine brT rfl ?_; conv => whnf) | (refine brF hid ?_; conv => whnf) | (refine brF hln ?_; conv => whnf) | (refine brF hqr ?_; conv => whnf) | (refine brF hopp ?_; conv => whnf) | (refine brF hcod ?_; conv => whnf))
    try exact rfl
  · have hr1 := mread_ok b (by omega)
    rw [er] at hr1
    rw [e2] at hw
    have hsm := same_ok m.again m ⟨by show m.asks.length < _; omega, by show m.says.length < _; omega, by show m.heads.length < _; omega, by show m.extra.length < _; omega⟩ ⟨by omega, by omega, by omega, by omega⟩
    rw [same_again] at hsm
    refine .one (.data _ hw rfl rfl ?_)
    conv => whnf
    refine .one (.data _ hr1 rfl rfl ?_)
    conv => whnf
    repeat (first | (refine brF rfl ?_; conv => whnf) | (refine brT rfl ?_; conv => whnf) | (refine brF hid ?_; conv => whnf) | (refine brF hln ?_; conv => whnf) | (refine brF hqr ?_; conv => whnf) | (refine brF hopp ?_; conv => whnf) | (refine brF hcod ?_; conv => whnf))
    refine .one (.data _ hsm rfl rfl ?_)
    conv => whnf
    repeat (first | (refine brF rfl ?_; conv => whnf) | (refine brT rfl ?_; conv => whnf) | (refine brF hid ?_; conv => whnf) | (refine brF hln ?_; conv => whnf) | (refine brF hqr ?_; conv => whnf) | (refine brF hopp ?_; conv => whnf) | (refine brF hcod ?_; conv => whnf))
    try exact rfl
end Go.Proofs.Ytdphkaiijlekhaa
namespace Go.Proofs.Ytdphkaiijlekhaa
open Go Go.Eng Go.ChangeShapes Go.WideShapes Go.RowKit

theorem again_contract (dss : List (List DV)) (h : DTs Try.prog Try.f9.params.toList dss) : FnOk Try.prog 9 (argsSV Try.prog Try.f9.params.toList dss) (.d (.bool true)) := by
  rw [Try.params9] at h ⊢
  match dss, h with
  | [a0, a1], ⟨h0, h1, _⟩ =>
    obtain ⟨s, rfl, _⟩ := h0.str_inv Try.underlying9
    obtain ⟨code, rfl, _⟩ := h1.int_inv Try.underlying3
    have ha2 : argsSV Try.prog #[9, 3].toList [[.str s], [.int .i64 code]] = [.d (.str s), .d (.int .i64 code)] := by
      simp [argsSV, argSV, oneSV, Try.underlying9, Try.underlying3]
    rw [ha2]
    exact again_ok s code
set_option maxRecDepth 100000 in
theorem again_lifted (os : Os) (started : os.Started) (H : Type) (enc : TypeId × Value → H) :
    ReturnsInHanded {} Try.checked os 9 .any (Rows.messageAgainSpec.pre6 enc Try.prog Try.f9 [] false)
      (Rows.messageAgainSpec.post enc Try.prog Try.f9 false true false false) := by
  refine returnsInHanded_of_change (C := Try.checked) own started (by kernel_rfl) Try.func9
    (ChangeSpec.witness6 (enc := enc) (C := Try.checked) (os := os) false ⟨#[], #[.string ⟨#[]⟩, .int .i64 0], []⟩ 8 (by kernel_rfl) (by kernel_rfl) (by kernel_rfl) (by kernel_rfl) (by kernel_rfl)) ?_
  intro W base args ds gs before hval0 hW _ _
  have hlen : ∃ d1 d2, ds = [d1, d2] := by
    obtain ⟨p, q, hA, _⟩ := hW
    have hA : DataW.TrodAll enc Try.prog W 0 (fun _ => true) true Try.f9.params.toList args.toList ds p := hA
    have := trodAll_len hA
    rw [Try.params9] at this
    match ds, this with
    | [d1, d2], _ => exact ⟨d1, d2, rfl⟩
  obtain ⟨d1, d2, rfl⟩ := hlen
  exact law_calls kids full (m := 8) (fun t ht => by
    rw [Try.params9] at ht
    simp at ht
    rcases ht with rfl | rfl <;> exact ⟨by kernel_rfl, of_decide_eq_true (by kernel_rfl)⟩) again_contract hval0 rfl hW (by kernel_rfl) Try.underlying4 ⟨rfl, rfl, rfl⟩

theorem again_holds : Rows.MessageAgainSaid :=
  OpenClaim.holds_of_wide 9 Try.f9 rfl rfl rfl rfl rfl rfl rfl ⟨rfl, rfl, rfl, rfl, rfl⟩ rfl rfl rfl rfl rfl (by kernel_rfl) Try.func9 (by kernel_rfl)
    (of_decide_eq_true (by kernel_rfl)) (by unfold Func.isWrapper; rw [if_neg (of_decide_eq_false (by kernel_rfl))]; exact ⟨rfl, rfl⟩)
    (fun os started H enc _ => again_lifted os started H enc)
end Go.Proofs.Ytdphkaiijlekhaa
