/-
  edns: closures that look at a record's type, an option's code; slices.IndexFunc, ContainsFunc over them. Conditions: fewer elements than 2 to the 62. edns.Cookies, valid.code. Conditions: as in Ed1. edns.Get. Conditions: fewer than 2 to the 40 bytes in each record's data, fewer records than 2 to the 62. valid.Look, Size, Strip. Conditions: the bytes are fewer than 2 to the 40. edns.With, Put at what hardtacklaw28.lives asks of them. No conditions. hardtacklaw28.lives. No conditions. What is looked at; a right question, written, is resolved. Plain lemmas.
-/
import Derived.Test.YtdphkaiijlekhaaB3
import Derived.Test.YtdphkaiijlekhaaM4
set_option linter.unusedVariables false
set_option linter.unusedSimpArgs false
namespace Go.Proofs.Ytdphkaiijlekhaa
open Go Go.Eng
/-- An option. -/
structure Opt where
  code : Int
  data : List UInt8
deriving Inhabited
def Opt.enc (o : Opt) : List DV := [.int .u16 o.code, .str o.data]
def optsD (z : Bool) (l : List Opt) : DV := .sl z l.length 2 (fun i => (l.getD i default).enc)
def typedV (t : Int) : SV := .fn 173 [.dptr [.int .u16 t] 0]
def codedV (t : Int) : SV := .fn 171 [.dptr [.int .u16 t] 0]
set_option maxRecDepth 100000
theorem typed_ok (t : Int) : FnOk Try.prog 148 [.d (.int .u16 t)] (typedV t) := by
  refine COk.clos (t := 24) ?_
  refine cOk_of_run (TT := TT) (IN := lookI []) TT_ok INok_nil mixed 1000 Try.func148 rfl (enters Try.func148 (by kernel_rfl) rfl) 3 (by kernel_rfl) ?_
  conv => whnf
  refine ⟨[0], .fn 173 [.ptr 0 0], [.cells 24 [.d (.int .u16 t)]], rfl, rfl, rfl, ?_, rfl, rfl⟩
  repeat' (first | exact True.intro | exact rfl | exact fun _ => Iff.rfl | exact fun _ _ => rfl | exact renM_ent rfl _ | refine And.intro ?_ ?_)
theorem coded_ok (t : Int) : FnOk Try.prog 144 [.d (.int .u16 t)] (codedV t) := by
  refine COk.clos (t := 23) ?_
  refine cOk_of_run (TT := TT) (IN := lookI []) TT_ok INok_nil mixed 1000 Try.func144 rfl (enters Try.func144 (by kernel_rfl) rfl) 3 (by kernel_rfl) ?_
  conv => whnf
  refine ⟨[0], .fn 171 [.ptr 0 0], [.cells 23 [.d (.int .u16 t)]], rfl, rfl, rfl, ?_, rfl, rfl⟩
  repeat' (first | exact True.intro | exact rfl | exact fun _ => Iff.rfl | exact fun _ _ => rfl | exact renM_ent rfl _ | refine And.intro ?_ ?_)
/-- Where the first one stands; -1: nowhere. -/
def idxI {α : Type} (p : α → Bool) (l : List α) : Int := match l.findIdx? p with
  | some i => i
  | none => -1
theorem idxI_none {α : Type} {p : α → Bool} {l : List α} (h : ∀ x ∈ l, p x = false) : idxI p l = -1 := by
  unfold idxI
  rw [List.findIdx?_eq_none_iff.2 h]
theorem idxI_some {α : Type} {p : α → Bool} {l : List α} {i : Nat} {a : α} (hi : l[i]? = some a) (ha : p a = true) (h : ∀ x ∈ l.take i, p x = false) : idxI p l = i := by
  unfold idxI
  have : l.findIdx? p = some i := by
    rw [List.findIdx?_eq_some_iff_getElem]
    obtain ⟨h1, h2⟩ := List.getElem?_eq_some_iff.1 hi
    refine ⟨h1, by rw [h2]; exact ha, fun j hj => ?_⟩
    rw [h _ (List.mem_take_iff_getElem.2 ⟨j, by omega, rfl⟩)]
    simp
  rw [this]
set_option maxHeartbeats 4000000 in
theorem rindex_ok (z : Bool) (l : List RR) (t : Int) (hl : l.length < 4611686018427387904) : FnOk Try.prog 150 [.d (rrsD z l), typedV t] (.d (.int .i64 (idxI (fun r => r.ty == t) l))) := by
  refine fnOk_of_run (TT := TT) (IN := lookI [(173, Try.f173, 2)]) TT_ok (INok_cons INok_nil Try.func173 (by kernel_rfl) (by kernel_rfl)) mixed 1000 Try.func150 rfl (enters Try.func150 (by kernel_rfl) rfl) rfl 17 (by kernel_rfl) ?_
  conv => whnf
  refine .inv Nat (fun i => i ≤ l.length ∧ ∀ x ∈ l.take i, (x.ty == t) = false) (fun i => [(8, .d (.int .i64 i))]) (fun _ => []) (fun i => l.length - i) ⟨0, [], ⟨Nat.zero_le _, fun x hx => by simp at hx⟩, ?_⟩ ?_
  · conv => whnf
    repeat' (first | exact True.intro | exact rfl | exact fun _ => Iff.rfl | exact fun _ _ => rfl | exact renM_ent rfl _ | refine And.intro ?_ ?_)
  rintro i ⟨hi, hall⟩
  conv => whnf
  refine ⟨fun c5 => ?_, fun c5 => ?_⟩
  · have c5' : i < l.length := (by have h : (i : Int) < l.length := of_decide_eq_true c5; omega)
    obtain ⟨q, hq⟩ : ∃ q, l.getD i default = q := ⟨_, rfl⟩
    have hq2 : l[i]? = some q := by rw [← hq, List.getD, List.getElem?_eq_getElem c5']; rfl
    have htk : l.take (i + 1) = l.take i ++ [q] := by rw [List.take_add_one, hq2]; rfl
    conv => whnf
    refine ⟨by omega, ?_⟩
    conv => whnf
    rw [Int.toNat_natCast, hq]
    refine ⟨fun h1 => ?_, fun h1 => ?_⟩
    · rw [idxI_some hq2 h1 hall]
      conv => whnf
      try exact rfl
    · conv => whnf
      have hw1 : IntKind.i64.wrap ((i : Int) + 1) = ((i + 1 : Nat) : Int) := by rw [w64_in _ (by omega)]; omega
      refine ⟨i + 1, [], ⟨c5', by
        intro x hx
        rw [htk, List.mem_append, List.mem_singleton] at hx
        rcases hx with hx | rfl
        · exact hall x hx
        · exact h1⟩, by omega, ?_⟩
      conv => whnf
      rw [hw1]
      repeat' (first | exact True.intro | exact rfl | exact fun _ => Iff.rfl | exact fun _ _ => rfl | exact renM_ent rfl _ | refine And.intro ?_ ?_)
  · have hic : i = l.length := (by have h : ¬ (i : Int) < l.length := of_decide_eq_false c5; omega)
    rw [hic, List.take_length] at hall
    rw [idxI_none hall]
    conv => whnf
    try exact rfl
set_option maxHeartbeats 4000000 in
theorem oindex_ok (z : Bool) (l : List Opt) (t : Int) (hl : l.length < 4611686018427387904) : FnOk Try.prog 152 [.d (optsD z l), codedV t] (.d (.int .i64 (idxI (fun r => r.code == t) l))) := by
  refine fnOk_of_run (TT := TT) (IN := lookI [(171, Try.f171, 2)]) TT_ok (INok_cons INok_nil Try.func171 (by kernel_rfl) (by kernel_rfl)) mixed 1000 Try.func152 rfl (enters Try.func152 (by kernel_rfl) rfl) rfl 17 (by kernel_rfl) ?_
  conv => whnf
  refine .inv Nat (fun i => i ≤ l.length ∧ ∀ x ∈ l.take i, (x.code == t) = false) (fun i => [(8, .d (.int .i64 i))]) (fun _ => []) (fun i => l.length - i) ⟨0, [], ⟨Nat.zero_le _, fun x hx => by simp at hx⟩, ?_⟩ ?_
  · conv => whnf
    repeat' (first | exact True.intro | exact rfl | exact fun _ => Iff.rfl | exact fun _ _ => rfl | exact renM_ent rfl _ | refine And.intro ?_ ?_)
  rintro i ⟨hi, hall⟩
  conv => whnf
  refine ⟨fun c5 => ?_, fun c5 => ?_⟩
  · have c5' : i < l.length := (by have h : (i : Int) < l.length := of_decide_eq_true c5; omega)
    obtain ⟨q, hq⟩ : ∃ q, l.getD i default = q := ⟨_, rfl⟩
    have hq2 : l[i]? = some q := by rw [← hq, List.getD, List.getElem?_eq_getElem c5']; rfl
    have htk : l.take (i + 1) = l.take i ++ [q] := by rw [List.take_add_one, hq2]; rfl
    conv => whnf
    refine ⟨by omega, ?_⟩
    conv => whnf
    rw [Int.toNat_natCast, hq]
    refine ⟨fun h1 => ?_, fun h1 => ?_⟩
    · rw [idxI_some hq2 h1 hall]
      conv => whnf
      try exact rfl
    · conv => whnf
      have hw1 : IntKind.i64.wrap ((i : Int) + 1) = ((i + 1 : Nat) : Int) := by rw [w64_in _ (by omega)]; omega
      refine ⟨i + 1, [], ⟨c5', by
        intro x hx
        rw [htk, List.mem_append, List.mem_singleton] at hx
        rcases hx with hx | rfl
        · exact hall x hx
        · exact h1⟩, by omega, ?_⟩
      conv => whnf
      rw [hw1]
      repeat' (first | exact True.intro | exact rfl | exact fun _ => Iff.rfl | exact fun _ _ => rfl | exact renM_ent rfl _ | refine And.intro ?_ ?_)
  · have hic : i = l.length := (by have h : ¬ (i : Int) < l.length := of_decide_eq_false c5; omega)
    rw [hic, List.take_length] at hall
    rw [idxI_none hall]
    conv => whnf
    try exact rfl
theorem rcont_ok (z : Bool) (l : List RR) (t : Int) (hl : l.length < 4611686018427387904) : FnOk Try.prog 149 [.d (rrsD z l), typedV t] (.d (.bool (decide (0 ≤ idxI (fun r => r.ty == t) l)))) := by
  refine fnOk_of_run (TT := TT) (IN := lookI []) TT_ok INok_nil mixed 1000 Try.func149 rfl (enters Try.func149 (by kernel_rfl) rfl) rfl 7 (by kernel_rfl) ?_
  conv => whnf
  refine .one (.data _ (rindex_ok z l t hl) rfl rfl ?_)
  conv => whnf
  try exact rfl
def rightB (a b : List UInt8) : Bool := (a.length == 8) && ((b == []) || (decide (8 ≤ b.length) && decide (b.length ≤ 32)))
set_option maxHeartbeats 4000000 in
theorem right_ok (a b : List UInt8) : FnOk Try.prog 141 [.d (.str a), .d (.str b)] (.d (.bool (rightB a b))) := by
  refine fnOk_of_run (TT := TT) (IN := lookI []) TT_ok INok_nil mixed 1000 Try.func141 rfl (enters Try.func141 (by kernel_rfl) rfl) rfl 20 (by kernel_rfl) ?_
  conv => whnf
  refine ⟨fun h1 => ?_, fun h1 => ?_⟩
  · have h1 : (a.length == 8) = true := by simp at h1 ⊢; omega
    conv => whnf
    refine ⟨fun h2 => ?_, fun h2 => ?_⟩
    · have h2 : (b == []) = true := h2
      have e : rightB a b = true := by unfold rightB; rw [h1, h2]; rfl
      rw [e]
      conv => whnf
      try exact rfl
    · have h2 : (b == []) = false := h2
      conv => whnf
      refine ⟨fun h3 => ?_, fun h3 => ?_⟩
      · have h3 : (b.length : Int) ≥ 8 := of_decide_eq_true h3
        have e : rightB a b = decide ((b.length : Int) ≤ 32) := by
          unfold rightB; rw [h1, h2, decide_eq_true (p := 8 ≤ b.length) (by omega)]
          simp only [Bool.true_and, Bool.false_or]
          exact decide_eq_decide.2 (by omega)
        rw [e]
        conv => whnf
        try exact rfl
      · have h3 : ¬ (b.length : Int) ≥ 8 := of_decide_eq_false h3
        have e : rightB a b = false := by
          unfold rightB; rw [h1, h2, decide_eq_false (p := 8 ≤ b.length) (by omega)]; rfl
        rw [e]
        conv => whnf
        try exact rfl
  · have h1 : (a.length == 8) = false := by simp at h1 ⊢; omega
    have e : rightB a b = false := by unfold rightB; rw [h1]; rfl
    rw [e]
    conv => whnf
    try exact rfl
end Go.Proofs.Ytdphkaiijlekhaa
namespace Go.Proofs.Ytdphkaiijlekhaa
open Go Go.Eng
/-- What an OPT record says. -/
structure Ed where
  there : Bool
  size : Int
  high : Int
  ver : Int
  flags : Int
  zo : Bool
  opts : List Opt
def Ed.cells (e : Ed) : List SV := [.d (.bool e.there), .d (.int .u16 e.size), .d (.int .u8 e.high), .d (.int .u8 e.ver), .d (.int .u16 e.flags), .d (optsD e.zo e.opts)]
def Ed.no : Ed := ⟨false, 0, 0, 0, 0, true, []⟩
def cookiesAt (text : List UInt8) : List UInt8 × List UInt8 × Int :=
  if rightB (text.take 8) (text.drop 8) then (text.take 8, text.drop 8, 0) else ([], [], 2)
def cookies (l : List Opt) : List UInt8 × List UInt8 × Int :=
  if idxI (fun o => o.code == 10) l < 0 then ([], [], 3) else cookiesAt (l.getD (idxI (fun o => o.code == 10) l).toNat default).data
theorem idxI_lt {α : Type} (p : α → Bool) (l : List α) : idxI p l < l.length := by
  unfold idxI
  cases h : l.findIdx? p with
  | none => show (-1 : Int) < _; omega
  | some i =>
    obtain ⟨h1, _⟩ := List.findIdx?_eq_some_iff_getElem.1 h
    show (i : Int) < _
    omega
set_option maxRecDepth 100000
set_option maxHeartbeats 4000000 in
theorem cookies_ok (e : Ed) (hl : e.opts.length < 4611686018427387904) (hd : ∀ o ∈ e.opts, o.data.length < 4611686018427387904) : FnOk Try.prog 102 [.agg e.cells] (.tup [.d (.str (cookies e.opts).1), .d (.str (cookies e.opts).2.1), .d (.int .i64 (cookies e.opts).2.2)]) := by
  refine fnOk_of_run (TT := TT) (IN := lookI []) TT_ok INok_nil mixed 1000 Try.func102 rfl (enters Try.func102 (by kernel_rfl) rfl) rfl 36 (by kernel_rfl) ?_
  conv => whnf
  refine .data _ (coded_ok 10) rfl rfl ?_
  conv => whnf
  refine .data _ (oindex_ok e.zo e.opts 10 hl) rfl rfl ?_
  conv => whnf
  have hlt := idxI_lt (fun o => o.code == 10) e.opts
  have hsp : cookies e.opts = cookies e.opts := rfl
  conv at hsp => rhs; unfold cookies
  generalize idxI (fun o => o.code == 10) e.opts = i at hlt hsp ⊢
  refine ⟨fun h1 => ?_, fun h1 => ?_⟩
  · have h1 : i < 0 := of_decide_eq_true h1
    rw [if_pos h1] at hsp
    rw [hsp]
    conv => whnf
    repeat' (first | exact True.intro | exact rfl | exact ⟨rfl, rfl, .inr rfl, fun _ _ => rfl⟩ | exact ⟨rfl, rfl, .inl rfl, fun i hi => absurd hi (Nat.not_lt_zero _)⟩ | refine And.intro ?_ ?_)
  have h1 : ¬ i < 0 := of_decide_eq_false h1
  rw [if_neg h1] at hsp
  conv => whnf
  refine ⟨by omega, ?_⟩
  conv => whnf
  obtain ⟨q, hq⟩ : ∃ q, e.opts.getD i.toNat default = q := ⟨_, rfl⟩
  have hq2 : e.opts[i.toNat]? = some q := by rw [← hq, List.getD, List.getElem?_eq_getElem (by omega)]; rfl
  have hqd := hd q (List.mem_of_getElem? hq2)
  rw [hq] at hsp ⊢
  have hmin : (if (8 : Int) < (q.data.length : Int) then (8 : Int) else (q.data.length : Int)) = ((min 8 q.data.length : Nat) : Int) := by split <;> omega
  rw [hmin]
  refine ⟨by omega, ?_⟩
  conv => whnf
  refine ⟨by omega, ?_⟩
  conv => whnf
  have e1 : sub q.data 0 ((min 8 q.data.length : Nat) : Int) = q.data.take 8 := by
    unfold sub
    rw [Int.toNat_natCast]
    simp
  have e2 : sub q.data ((min 8 q.data.length : Nat) : Int) (q.data.length : Int) = q.data.drop 8 := by
    unfold sub
    rw [Int.toNat_natCast, Int.toNat_natCast, List.take_of_length_le (by simp)]
    rcases Nat.le_total 8 q.data.length with h | h
    · rw [Nat.min_eq_left h]
    · rw [Nat.min_eq_right h, List.drop_eq_nil_of_le (Nat.le_refl _), List.drop_eq_nil_of_le h]
  rw [e1, e2]
  refine .one (.data _ (right_ok _ _) rfl rfl ?_)
  conv => whnf
  unfold cookiesAt at hsp
  refine ⟨fun h2 => ?_, fun h2 => ?_⟩
  · have h2 : rightB (q.data.take 8) (q.data.drop 8) = false := by simpa using h2
    rw [h2, if_neg (by simp)] at hsp
    rw [hsp]
    conv => whnf
    repeat' (first | exact True.intro | exact rfl | exact ⟨rfl, rfl, .inr rfl, fun _ _ => rfl⟩ | exact ⟨rfl, rfl, .inl rfl, fun i hi => absurd hi (Nat.not_lt_zero _)⟩ | refine And.intro ?_ ?_)
  · have h2 : rightB (q.data.take 8) (q.data.drop 8) = true := by simpa using h2
    rw [h2, if_pos rfl] at hsp
    rw [hsp]
    conv => whnf
    repeat' (first | exact True.intro | exact rfl | exact ⟨rfl, rfl, .inr rfl, fun _ _ => rfl⟩ | exact ⟨rfl, rfl, .inl rfl, fun i hi => absurd hi (Nat.not_lt_zero _)⟩ | refine And.intro ?_ ?_)
/-- What becomes of a message. -/
def codeV (m : Msg) (ver bad : Int) : Int :=
  if m.asks.length ≠ 1 ∨ 0 < m.says.length ∨ 0 < m.heads.length ∨ bad = 2 then 1 else
  if m.op ≠ 0 then 4 else
  if ver > 0 then 16 else
  if (m.asks.getD 0 default).cl ≠ 1 ∨ Go.bits BinOp.and IntKind.u16 m.bits 256 = 0 then 5 else
  if (m.asks.getD 0 default).ty = 0 ∨ (m.asks.getD 0 default).ty = 41 ∨ (251 ≤ (m.asks.getD 0 default).ty ∧ (m.asks.getD 0 default).ty ≤ 255) then 5 else -1
set_option maxHeartbeats 8000000 in
theorem vcode_ok (m : Msg) (e : Ed) (bad : Int) : FnOk Try.prog 103 [.agg m.cells, .agg e.cells, .d (.int .i64 bad)] (.d (.int .i64 (codeV m e.ver bad))) := by
  refine fnOk_of_run (TT := TT) (IN := lookI []) TT_ok INok_nil mixed 1000 Try.func103 rfl (enters Try.func103 (by kernel_rfl) rfl) rfl 60 (by kernel_rfl) ?_
  have hsp : codeV m e.ver bad = codeV m e.ver bad := rfl
  conv at hsp => rhs; unfold codeV
  conv => whnf
  refine ⟨fun h1 => ?_, fun h1 => ?_⟩
  · have h1 : m.asks.length ≠ 1 := by simp at h1; omega
    rw [if_pos (.inl h1)] at hsp
    rw [hsp]
    conv => whnf
    repeat (first | (refine brT rfl ?_; conv => whnf) | (refine brF rfl ?_; conv => whnf))
    try exact rfl
  have h1 : ¬ m.asks.length ≠ 1 := by simp at h1; omega
  conv => whnf
  refine ⟨fun h2 => ?_, fun h2 => ?_⟩
  · have h2 : 0 < m.says.length := by have h : (m.says.length : Int) > 0 := of_decide_eq_true h2
                                      omega
    rw [if_pos (.inr (.inl h2))] at hsp
    rw [hsp]
    conv => whnf
    repeat (first | (refine brT rfl ?_; conv => whnf) | (refine brF rfl ?_; conv => whnf))
    try exact rfl
  have h2 : ¬ 0 < m.says.length := by have h : ¬ (m.says.length : Int) > 0 := of_decide_eq_false h2
                                      omega
  conv => whnf
  refine ⟨fun h3 => ?_, fun h3 => ?_⟩
  · have h3 : 0 < m.heads.length := by have h : (m.heads.length : Int) > 0 := of_decide_eq_true h3
                                       omega
    rw [if_pos (.inr (.inr (.inl h3)))] at hsp
    rw [hsp]
    conv => whnf
    repeat (first | (refine brT rfl ?_; conv => whnf) | (refine brF rfl ?_; conv => whnf))
    try exact rfl
  have h3 : ¬ 0 < m.heads.length := by have h : ¬ (m.heads.length : Int) > 0 := of_decide_eq_false h3
                                       omega
  conv => whnf
  refine ⟨fun h4 => ?_, fun h4 => ?_⟩
  · have h4 : bad = 2 := by simpa using h4
    rw [if_pos (.inr (.inr (.inr h4)))] at hsp
    rw [hsp]
    conv => whnf
    try exact rfl
  have h4 : ¬ bad = 2 := by simpa using h4
  rw [if_neg (by rintro (h | h | h | h) <;> contradiction)] at hsp
  have hq2 : m.asks[0]? = some (m.asks.getD 0 default) := by rw [List.getD, List.getElem?_eq_getElem (by omega)]; rfl
  conv => whnf
  refine ⟨by omega, ?_⟩
  conv => whnf
  rw [show (0 : Int).toNat = 0 from rfl]
  generalize m.asks.getD 0 default = q at hsp ⊢
  refine .one (.data _ (op_ok m) rfl rfl ?_)
  conv => whnf
  refine ⟨fun h5 => ?_, fun h5 => ?_⟩
  · have h5 : m.op ≠ 0 := by simpa using h5
    rw [if_pos h5] at hsp
    rw [hsp]
    conv => whnf
    try exact rfl
  have h5 : ¬ m.op ≠ 0 := by simpa using h5
  rw [if_neg h5] at hsp
  conv => whnf
  refine ⟨fun h6 => ?_, fun h6 => ?_⟩
  · have h6 : e.ver > 0 := of_decide_eq_true h6
    rw [if_pos h6] at hsp
    rw [hsp]
    conv => whnf
    try exact rfl
  have h6 : ¬ e.ver > 0 := of_decide_eq_false h6
  rw [if_neg h6] at hsp
  conv => whnf
  refine ⟨fun h7 => ?_, fun h7 => ?_⟩
  · have h7a : q.cl ≠ 1 := by simpa using h7
    rw [if_pos (.inl h7a)] at hsp
    rw [hsp]
    conv => whnf
    refine brT h7 ?_
    conv => whnf
    try exact rfl
  have h7 : ¬ q.cl ≠ 1 := by simpa using h7
  conv => whnf
  refine ⟨fun h8 => ?_, fun h8 => ?_⟩
  · have h8 : Go.bits BinOp.and IntKind.u16 m.bits 256 = 0 := by simpa using h8
    rw [if_pos (.inr h8)] at hsp
    rw [hsp]
    conv => whnf
    try exact rfl
  have h8 : ¬ Go.bits BinOp.and IntKind.u16 m.bits 256 = 0 := by simpa using h8
  rw [if_neg (by rintro (h | h) <;> contradiction)] at hsp
  conv => whnf
  refine ⟨fun h9 => ?_, fun h9 => ?_⟩
  · have h9a : q.ty = 0 := by simpa using h9
    rw [if_pos (.inl h9a)] at hsp
    rw [hsp]
    conv => whnf
    refine brT h9 ?_
    conv => whnf
    try exact rfl
  have h9 : ¬ q.ty = 0 := by simpa using h9
  conv => whnf
  refine ⟨fun h10 => ?_, fun h10 => ?_⟩
  · have h10a : q.ty = 41 := by simpa using h10
    rw [if_pos (.inr (.inl h10a))] at hsp
    rw [hsp]
    conv => whnf
    refine brT h10 ?_
    conv => whnf
    try exact rfl
  have h10 : ¬ q.ty = 41 := by simpa using h10
  conv => whnf
  refine ⟨fun h11 => ?_, fun h11 => ?_⟩
  · have h11 : 251 ≤ q.ty := of_decide_eq_true h11
    conv => whnf
    refine ⟨fun h12 => ?_, fun h12 => ?_⟩
    · have h12 : q.ty ≤ 255 := of_decide_eq_true h12
      rw [if_pos (.inr (.inr ⟨h11, h12⟩))] at hsp
      rw [hsp]
      conv => whnf
      try exact rfl
    have h12 : ¬ q.ty ≤ 255 := of_decide_eq_false h12
    rw [if_neg (by rintro (h | h | h) <;> omega)] at hsp
    rw [hsp]
    conv => whnf
    try exact rfl
  · have h11 : ¬ 251 ≤ q.ty := of_decide_eq_false h11
    rw [if_neg (by rintro (h | h | h) <;> omega)] at hsp
    rw [hsp]
    conv => whnf
    try exact rfl
end Go.Proofs.Ytdphkaiijlekhaa
namespace Go.Proofs.Ytdphkaiijlekhaa
open Go Go.Eng
def Rdr.has (r : Rdr) : Bool := !r.bad && decide (r.p < r.s.length)
/-- One option is read. -/
def Rdr.opt (r : Rdr) : Rdr × Opt :=
  let a := r.num 2
  let b := a.1.num 2
  let c := b.1.raw (IntKind.i64.wrap b.2)
  (c.1, ⟨IntKind.u16.wrap a.2, c.2⟩)
/-- Options are read, behind those that were. -/
def Rdr.opts : Nat → Rdr → List Opt → Option (List Opt)
  | 0, _, l => some l
  | n + 1, r, l => bif r.has then bif r.opt.1.bad then none else Rdr.opts n r.opt.1 (l ++ [r.opt.2]) else some l
def Ed.of (r : RR) (l : List Opt) : Ed := ⟨true, r.cl, IntKind.u8.wrap (r.ttl.fdiv (2 ^ 24)), IntKind.u8.wrap (r.ttl.fdiv (2 ^ 16)), IntKind.u16.wrap r.ttl, Nat.beq l.length 0, l⟩
def optRec (r : RR) : Ed × Int :=
  if r.nm ≠ [0] then (Ed.no, 2) else match Rdr.opts r.d.length ⟨r.d, 0, false⟩ [] with
    | some l => (Ed.of r l, 0)
    | none => (Ed.no, 2)
def optI (l : List RR) : Int := idxI (fun r => r.ty == 41) l
def Msg.get (m : Msg) : Ed × Int :=
  if 0 ≤ optI m.says ∨ 0 ≤ optI m.heads then (Ed.no, 2) else
  if optI m.extra < 0 then (Ed.no, 0) else
  if 0 ≤ optI (m.extra.drop ((optI m.extra).toNat + 1)) then (Ed.no, 4) else
  optRec (m.extra.getD (optI m.extra).toNat default)
theorem Rdr.opt_lt {r : Rdr} (h : r.opt.1.bad = false) : r.p < r.opt.1.p := by
  have hm : ∀ (r : Rdr) (n : Int), (r.raw n).1.bad = false → r.bad = false ∧ (r.raw n).1.p = r.p + n.toNat := fun r n h => by
    unfold Rdr.raw at h ⊢
    split
    · rename_i hb; rw [if_pos hb] at h; rw [hb] at h; cases h
    · rename_i hb
      rw [if_neg hb] at h
      split
      · rename_i hc; rw [if_pos hc] at h; cases h
      · exact ⟨by simpa using hb, rfl⟩
  unfold Rdr.opt at h ⊢
  dsimp only at h ⊢
  obtain ⟨h1, e1⟩ := hm _ _ h
  obtain ⟨h2, e2⟩ := hm _ _ h1
  obtain ⟨h3, e3⟩ := hm _ _ h2
  rw [e1]
  have e2 : ((r.num 2).1.num 2).1.p = (r.num 2).1.p + 2 := e2
  have e3 : (r.num 2).1.p = r.p + 2 := e3
  omega
theorem Rdr.opt_s (r : Rdr) : r.opt.1.s = r.s := by
  unfold Rdr.opt
  dsimp only
  rw [Rdr.raw_s, Rdr.num_s, Rdr.num_s]
theorem opt_cat (l : List Opt) (q : Opt) (j : Nat) (hj : j < l.length + 1) : catF l.length (fun j => (l.getD j default).enc) (chunk q.enc 2) j = ((l ++ [q]).getD j default).enc := by
  unfold catF
  split
  · rename_i h
    show (l.getD j default).enc = _
    rw [List.getD, List.getD, List.getElem?_append_left h]
  · rename_i h
    have : j = l.length := by omega
    subst this
    rw [Nat.sub_self, List.getD, List.getElem?_append_right (Nat.le_refl _), Nat.sub_self]
    rfl
theorem Rdr.opts_end {n : Nat} {r : Rdr} {l : List Opt} (h : r.has = false) : Rdr.opts n r l = some l := by
  cases n with
  | zero => rfl
  | succ n => unfold Rdr.opts; rw [h]; rfl
structure OpS where
  r : Rdr
  l : List Opt
  n : Nat
theorem drop_rrs (z : Bool) (l : List RR) (i : Nat) : AEq (.d (.sl z (l.length - i) 5 (fun j => (l.getD (i + j) default).enc))) (.d (rrsD z (l.drop i))) := by
  have : (l.drop i).length = l.length - i := by simp
  unfold rrsD
  rw [this]
  refine AEq.row (fun j hj => ?_)
  rw [List.getD, List.getD, List.getElem?_drop]
set_option maxRecDepth 100000 in
set_option maxHeartbeats 8000000 in
theorem get_ok (m : Msg) (h1 : m.says.length < 4611686018427387904) (h2 : m.heads.length < 4611686018427387904) (h3 : m.extra.length < 4611686018427387904) (hd : ∀ r ∈ m.extra, r.d.length < 1099511627776) : FnOk Try.prog 101 [.agg m.cells] (.tup [.agg m.get.1.cells, .d (.int .i64 m.get.2)]) := by
  refine fnOk_of_run (TT := TT) (IN := lookI [(151, Try.f151, 1), (174, Try.f174, 2), (94, Try.f94, 1), (96, Try.f96, 1)]) TT_ok (INok_cons (INok_cons (INok_cons (INok_cons INok_nil Try.func96 (by kernel_rfl) (by kernel_rfl)) Try.func94 (by kernel_rfl) (by kernel_rfl)) Try.func174 (by kernel_rfl) (by kernel_rfl)) Try.func151 (by kernel_rfl) (by kernel_rfl)) mixed 1000 Try.func101 rfl (enters Try.func101 (by kernel_rfl) rfl) rfl 74 (by kernel_rfl) ?_
  have hsp : m.get = m.get := rfl
  conv at hsp => rhs; unfold Msg.get
  conv => whnf
  refine .one (.data _ (typed_ok 41) rfl rfl ?_)
  conv => whnf
  refine .one (.data _ (rcont_ok m.zs m.says 41 h1) rfl rfl ?_)
  conv => whnf
  refine ⟨fun c1 => ?_, fun c1 => ?_⟩
  · have c1 : 0 ≤ optI m.says := of_decide_eq_true c1
    rw [if_pos (.inl c1)] at hsp
    rw [hsp]
    conv => whnf
    repeat (first | (refine brT rfl ?_; conv => whnf) | (refine brF rfl ?_; conv => whnf))
    repeat' (first | exact True.intro | exact rfl | exact ⟨rfl, rfl, .inr rfl, fun _ _ => rfl⟩ | exact ⟨rfl, rfl, .inl rfl, fun i hi => absurd hi (Nat.not_lt_zero _)⟩ | refine And.intro ?_ ?_)
  have c1 : ¬ 0 ≤ optI m.says := of_decide_eq_false c1
  conv => whnf
  refine .one (.data _ (rcont_ok m.zh m.heads 41 h2) rfl rfl ?_)
  conv => whnf
  refine ⟨fun c2 => ?_, fun c2 => ?_⟩
  · have c2 : 0 ≤ optI m.heads := of_decide_eq_true c2
    rw [if_pos (.inr c2)] at hsp
    rw [hsp]
    conv => whnf
    repeat (first | (refine brT rfl ?_; conv => whnf) | (refine brF rfl ?_; conv => whnf))
    repeat' (first | exact True.intro | exact rfl | exact ⟨rfl, rfl, .inr rfl, fun _ _ => rfl⟩ | exact ⟨rfl, rfl, .inl rfl, fun i hi => absurd hi (Nat.not_lt_zero _)⟩ | refine And.intro ?_ ?_)
  have c2 : ¬ 0 ≤ optI m.heads := of_decide_eq_false c2
  rw [if_neg (by rintro (h | h) <;> contradiction)] at hsp
  conv => whnf
  refine .one (.data _ (rindex_ok m.ze m.extra 41 h3) rfl rfl ?_)
  conv => whnf
  have hlt := idxI_lt (fun r : RR => r.ty == 41) m.extra
  unfold optI at hsp
  generalize idxI (fun r : RR => r.ty == 41) m.extra = i at hlt hsp ⊢
  refine ⟨fun c3 => ?_, fun c3 => ?_⟩
  · have c3 : i < 0 := of_decide_eq_true c3
    rw [if_pos c3] at hsp
    rw [hsp]
    conv => whnf
    repeat' (first | exact True.intro | exact rfl | exact ⟨rfl, rfl, .inr rfl, fun _ _ => rfl⟩ | exact ⟨rfl, rfl, .inl rfl, fun i hi => absurd hi (Nat.not_lt_zero _)⟩ | refine And.intro ?_ ?_)
  have c3 : ¬ i < 0 := of_decide_eq_false c3
  rw [if_neg c3] at hsp
  obtain ⟨k, rfl⟩ : ∃ k : Nat, i = k := ⟨i.toNat, by omega⟩
  have hw1 : IntKind.i64.wrap ((k : Int) + 1) = ((k + 1 : Nat) : Int) := by rw [w64_in _ (by omega)]; omega
  conv => whnf
  rw [hw1]
  refine ⟨by omega, ?_⟩
  conv => whnf
  rw [Int.toNat_natCast] at hsp
  rw [show ((m.extra.length : Int) - ((k + 1 : Nat) : Int)).toNat = m.extra.length - (k + 1) by omega, Int.toNat_natCast]
  refine .one (.data _ ((rcont_ok m.ze (m.extra.drop (k + 1)) 41 (by simp; omega)).convA ⟨drop_rrs _ _ _, .refl _, True.intro⟩) rfl rfl ?_)
  conv => whnf
  refine ⟨fun c4 => ?_, fun c4 => ?_⟩
  · have c4 : 0 ≤ idxI (fun r : RR => r.ty == 41) (m.extra.drop (k + 1)) := of_decide_eq_true c4
    rw [if_pos c4] at hsp
    rw [hsp]
    conv => whnf
    repeat' (first | exact True.intro | exact rfl | exact ⟨rfl, rfl, .inr rfl, fun _ _ => rfl⟩ | exact ⟨rfl, rfl, .inl rfl, fun i hi => absurd hi (Nat.not_lt_zero _)⟩ | refine And.intro ?_ ?_)
  have c4 : ¬ 0 ≤ idxI (fun r : RR => r.ty == 41) (m.extra.drop (k + 1)) := of_decide_eq_false c4
  rw [if_neg c4] at hsp
  conv => whnf
  refine ⟨by omega, ?_⟩
  conv => whnf
  rw [Int.toNat_natCast]
  have hq2 : m.extra[k]? = some (m.extra.getD k default) := by rw [List.getD, List.getElem?_eq_getElem (by omega)]; rfl
  have hqd := hd _ (List.mem_of_getElem? hq2)
  generalize m.extra.getD k default = q at hsp hqd ⊢
  unfold optRec at hsp
  refine ⟨fun c5 => ?_, fun c5 => ?_⟩
  · have c5 : q.nm ≠ [0] := by simpa using c5
    rw [if_pos c5] at hsp
    rw [hsp]
    conv => whnf
    repeat' (first | exact True.intro | exact rfl | exact ⟨rfl, rfl, .inr rfl, fun _ _ => rfl⟩ | exact ⟨rfl, rfl, .inl rfl, fun i hi => absurd hi (Nat.not_lt_zero _)⟩ | refine And.intro ?_ ?_)
  have c5 : ¬ q.nm ≠ [0] := by simpa using c5
  rw [if_neg c5] at hsp
  conv => whnf
  refine ⟨by decide, ?_⟩
  conv => whnf
  refine ⟨by decide, ?_⟩
  conv => whnf
  refine .rel _ (new_among (fun _ => rfl) (open_ok q.d) [_, _, _, _, _, _, _] (fun _ => rfl)) (fun x ks' hR => ?_)
  obtain ⟨rfl, rfl⟩ := hR
  conv => whnf
  refine .nilC 4 5 223 2 (fun _ => []) _ _ _ _ rfl rfl ?_
  have hr0 : (Rdr.mk q.d 0 false).Ok := ⟨by show q.d.length < _; omega, Nat.zero_le _⟩
  refine .inv OpS (fun x => x.r.Ok ∧ x.r.s.length < 1099511627776 ∧ x.r.s.length - x.r.p ≤ x.n ∧ x.l.length + x.n = q.d.length ∧ Rdr.opts x.n x.r x.l = Rdr.opts q.d.length ⟨q.d, 0, false⟩ []) (fun _ => []) (fun x => [(7, x.r.kb), (8, .row 223 2 x.l.length .iff (fun j => (x.l.getD j default).enc))])
    (fun x => x.n) ⟨⟨⟨q.d, 0, false⟩, [], q.d.length⟩, [0, 1, 2, 3, 4, 5, 6, 7, 8], ⟨hr0, hqd, Nat.sub_le _ _, Nat.zero_add _, rfl⟩, ?_⟩ ?_
  · conv => whnf
    repeat' (first | exact True.intro | exact rfl | (intro i hi; exact absurd hi (Nat.not_lt_zero _)) | refine And.intro ?_ ?_)
  intro x hx
  obtain ⟨kr, ks, kn, kl, hrest⟩ := hx
  conv => whnf
  generalize x.r = r at kr ks kn hrest ⊢
  generalize x.l = l at kl hrest ⊢
  generalize x.n = n at kn kl hrest ⊢
  have hql := kr.len
  have hqp := kr.p
  have hsub : IntKind.i64.wrap ((r.s.length : Int) - r.p) = (r.s.length : Int) - r.p := w64_in _ (by omega)
  refine ⟨fun c6 => ?_, fun c6 => ?_⟩
  · have c6 : r.bad = true := c6
    rw [Rdr.opts_end (by unfold Rdr.has; rw [c6]; rfl)] at hrest
    rw [← hrest] at hsp
    have hsp : m.get = (Ed.of q l, 0) := hsp
    rw [hsp]
    conv => whnf
    try (refine brF rfl ?_; conv => whnf)
    repeat' (first | exact True.intro | exact rfl | exact ⟨rfl, rfl, .inr rfl, fun _ _ => rfl⟩ | exact ⟨rfl, rfl, .inl rfl, fun i hi => absurd hi (Nat.not_lt_zero _)⟩ | refine And.intro ?_ ?_)
  have c6 : r.bad = false := c6
  conv => whnf
  rw [hsub]
  refine ⟨fun c7 => ?_, fun c7 => ?_⟩
  · have c7 : r.p < r.s.length := by have h : (r.s.length : Int) - r.p > 0 := of_decide_eq_true c7
                                     omega
    obtain ⟨n, rfl⟩ : ∃ k, n = k + 1 := ⟨n - 1, by omega⟩
    have hhas : r.has = true := by unfold Rdr.has; rw [c6, decide_eq_true c7]; rfl
    conv at hrest => lhs; unfold Rdr.opts
    rw [hhas, cond_true] at hrest
    have hlt := r.opt_lt
    have hos := r.opt_s
    unfold Rdr.opt at hrest hlt hos
    dsimp only at hrest hlt hos
    conv => whnf
    refine .rel _ (rdr_fam (rnum_ok r kr 2 (.inr (.inl rfl))) [_, _, _, _, _, _, _] [_] _ rfl rfl) (fun x ks' hR => ?_)
    obtain ⟨_, q1, ⟨rfl, rfl⟩, rfl, rfl⟩ := hR
    have ka := kr.num 2
    generalize r.num 2 = a at ka hrest hlt hos ⊢
    conv => whnf
    refine .rel _ (rdr_fam (rnum_ok a.1 ka 2 (.inr (.inl rfl))) [_, _, _, _, _, _, _] [_] _ rfl rfl) (fun x ks' hR => ?_)
    obtain ⟨_, q1, ⟨rfl, rfl⟩, rfl, rfl⟩ := hR
    have kb := ka.num 2
    generalize a.1.num 2 = b at kb hrest hlt hos ⊢
    conv => whnf
    refine .rel _ (rdr_fam (raw_ok b.1 kb (IntKind.i64.wrap b.2) (by rw [IntKind.wrap_i64]; omega)) [_, _, _, _, _, _, _] [_] _ rfl rfl) (fun x ks' hR => ?_)
    obtain ⟨_, q1, ⟨rfl, rfl⟩, rfl, rfl⟩ := hR
    have kc := kb.raw (IntKind.i64.wrap b.2)
    generalize b.1.raw (IntKind.i64.wrap b.2) = c at kc hrest hlt hos ⊢
    conv => whnf
    refine ⟨fun c8 => ?_, fun c8 => ?_⟩
    · have c8 : c.1.bad = true := c8
      rw [c8, cond_true] at hrest
      rw [← hrest] at hsp
      have hsp : m.get = (Ed.no, 2) := hsp
      rw [hsp]
      conv => whnf
      try (refine brT rfl ?_; conv => whnf)
      repeat' (first | exact True.intro | exact rfl | exact ⟨rfl, rfl, .inr rfl, fun _ _ => rfl⟩ | exact ⟨rfl, rfl, .inl rfl, fun i hi => absurd hi (Nat.not_lt_zero _)⟩ | refine And.intro ?_ ?_)
    have c8 : c.1.bad = false := c8
    rw [c8, cond_false] at hrest
    have hlt := hlt c8
    conv => whnf
    refine ⟨by omega, ?_⟩
    conv => whnf
    refine ⟨⟨c.1, l ++ [⟨IntKind.u16.wrap a.2, c.2⟩], n⟩, [0, 1, 2, 3, 4, 5, 6, 7, 11], ⟨kc, by rw [hos]; exact ks, by rw [hos]; show r.s.length - c.1.p ≤ n; omega, by rw [List.length_append]; simp only [List.length_cons, List.length_nil]; omega, hrest⟩, Nat.lt_succ_self n, ?_⟩
    conv => whnf
    repeat' (first | exact True.intro | exact rfl | refine And.intro ?_ ?_)
    all_goals try exact fun _ _ => rfl
    · show l.length + 1 = (l ++ [_]).length
      rw [List.length_append]
      rfl
    · intro j hj
      exact opt_cat l ⟨IntKind.u16.wrap a.2, c.2⟩ j hj
  · have c7 : ¬ r.p < r.s.length := by have h : ¬ (r.s.length : Int) - r.p > 0 := of_decide_eq_false c7
                                       omega
    rw [Rdr.opts_end (by unfold Rdr.has; rw [decide_eq_false c7, Bool.and_false])] at hrest
    rw [← hrest] at hsp
    have hsp : m.get = (Ed.of q l, 0) := hsp
    rw [hsp]
    conv => whnf
    repeat' (first | exact True.intro | exact rfl | exact ⟨rfl, rfl, .inr rfl, fun _ _ => rfl⟩ | exact ⟨rfl, rfl, .inl rfl, fun i hi => absurd hi (Nat.not_lt_zero _)⟩ | refine And.intro ?_ ?_)
end Go.Proofs.Ytdphkaiijlekhaa
namespace Go.Proofs.Ytdphkaiijlekhaa
open Go Go.Eng
/-- A request that was looked at. -/
structure Rq where
  m : Msg
  e : Ed
  client : List UInt8
  server : List UInt8
  code : Int
def Rq.cells (r : Rq) : List SV := [.d (.int .u16 r.m.id), .d (.int .u16 r.m.bits), .d (qsD r.m.za r.m.asks), .d (rrsD r.m.zs r.m.says), .d (rrsD r.m.zh r.m.heads), .d (rrsD r.m.ze r.m.extra),
  .d (.bool r.e.there), .d (.int .u16 r.e.size), .d (.int .u8 r.e.high), .d (.int .u8 r.e.ver), .d (.int .u16 r.e.flags), .d (optsD r.e.zo r.e.opts), .d (.str r.client), .d (.str r.server), .d (.int .i64 r.code)]
def lookM (m : Msg) : Rq :=
  if m.get.2 ≠ 0 then ⟨m, Ed.no, [], [], 1⟩ else
  if (cookies m.get.1.opts).2.2 = 0 then ⟨m, m.get.1, (cookies m.get.1.opts).1, (cookies m.get.1.opts).2.1, codeV m m.get.1.ver (cookies m.get.1.opts).2.2⟩
  else ⟨m, m.get.1, [], [], codeV m m.get.1.ver (cookies m.get.1.opts).2.2⟩
def look (s : List UInt8) : Rq :=
  if (headOf s).2.2 ≠ 0 ∨ Go.bits BinOp.and IntKind.u16 (headOf s).2.1 32768 ≠ 0 then ⟨Msg.no, Ed.no, [], [], -2⟩ else
  if (Msg.read s).2 ≠ 0 then ⟨⟨(headOf s).1, (headOf s).2.1, true, [], true, [], true, [], true, []⟩, Ed.no, [], [], 1⟩ else lookM (Msg.read s).1
theorem opts_fit : ∀ (n : Nat) (r : Rdr) (l l' : List Opt), Rdr.opts n r l = some l' → (∀ o ∈ l, o.data.length ≤ r.s.length) → l'.length ≤ l.length + n ∧ ∀ o ∈ l', o.data.length ≤ r.s.length
  | 0, r, l, l', h, hl => by
    cases h
    exact ⟨by omega, hl⟩
  | n + 1, r, l, l', h, hl => by
    unfold Rdr.opts at h
    cases hh : r.has
    · rw [hh, cond_false] at h
      cases h
      exact ⟨by omega, hl⟩
    · rw [hh, cond_true] at h
      cases hb : r.opt.1.bad
      · rw [hb, cond_false] at h
        obtain ⟨h1, h2⟩ := opts_fit n r.opt.1 (l ++ [r.opt.2]) l' h (fun o ho => by
          rw [Rdr.opt_s]
          rcases List.mem_append.1 ho with ho | ho
          · exact hl o ho
          · rw [List.mem_singleton.1 ho]
            have hs : ∀ (r : Rdr) (n : Int), (r.raw n).2.length ≤ r.s.length := fun r n => by
              unfold Rdr.raw
              split
              · exact Nat.zero_le _
              · split
                · exact Nat.zero_le _
                · show ((r.s.drop r.p).take n.toNat).length ≤ _
                  simp
                  omega
            have := hs (((r.num 2).1.num 2).1) (IntKind.i64.wrap ((r.num 2).1.num 2).2)
            rw [Rdr.num_s, Rdr.num_s] at this
            exact this)
        rw [Rdr.opt_s] at h2
        refine ⟨?_, h2⟩
        rw [List.length_append] at h1
        simp only [List.length_cons, List.length_nil] at h1
        omega
      · rw [hb, cond_true] at h
        cases h
theorem get_fit (m : Msg) (hd : ∀ r ∈ m.extra, r.d.length < 1099511627776) : m.get.1.opts.length < 1099511627776 ∧ ∀ o ∈ m.get.1.opts, o.data.length < 1099511627776 := by
  have no : Ed.no.opts.length < 1099511627776 ∧ ∀ o ∈ Ed.no.opts, o.data.length < 1099511627776 := ⟨by decide, fun o ho => by cases ho⟩
  have hlt := idxI_lt (fun r : RR => r.ty == 41) m.extra
  unfold Msg.get
  split
  · exact no
  split
  · exact no
  rename_i hi
  split
  · exact no
  unfold optRec
  split
  · exact no
  split
  · rename_i l hl
    have hi : ¬ idxI (fun r : RR => r.ty == 41) m.extra < 0 := hi
    have hm : m.extra.getD (optI m.extra).toNat default ∈ m.extra := by
      have : m.extra[(optI m.extra).toNat]? = some (m.extra.getD (optI m.extra).toNat default) := by
        rw [List.getD, List.getElem?_eq_getElem (by unfold optI; omega)]; rfl
      exact List.mem_of_getElem? this
    have hq := hd _ hm
    obtain ⟨h1, h2⟩ := opts_fit _ _ [] l hl (fun o ho => by cases ho)
    refine ⟨?_, fun o ho => Nat.lt_of_le_of_lt (h2 o ho) hq⟩
    show l.length < _
    simp only [List.length_nil] at h1
    omega
  · exact no
set_option maxRecDepth 100000
set_option maxHeartbeats 8000000 in
theorem strip_ok (r : Rq) (h : r.m.za = true → r.m.asks = []) (ha : r.m.asks.length ≤ 1000000) : FnOk Try.prog 100 [.agg r.cells] (.agg (Msg.mk r.m.id r.m.bits r.m.za r.m.asks true [] true [] true []).cells) := by
  refine fnOk_of_run (TT := TT) (IN := lookI []) TT_ok INok_nil mixed 1000 Try.func100 rfl (enters Try.func100 (by kernel_rfl) rfl) rfl 13 (by kernel_rfl) ?_
  conv => whnf
  refine .data _ (qclone_ok r.m.za r.m.asks h ha) rfl rfl ?_
  conv => whnf
  repeat' (first | exact True.intro | exact rfl | exact ⟨rfl, rfl, .inr rfl, fun _ _ => rfl⟩ | exact ⟨rfl, rfl, .inl rfl, fun i hi => absurd hi (Nat.not_lt_zero _)⟩ | refine And.intro ?_ ?_)
def sizeV (e : Ed) (tcp : Bool) : Int := if tcp then 65535 else if e.there = false ∨ e.size < 512 then 512 else if 4096 < IntKind.i64.wrap e.size then 4096 else IntKind.i64.wrap e.size
set_option maxHeartbeats 8000000 in
theorem size_ok (r : Rq) (tcp : Bool) : FnOk Try.prog 99 [.agg r.cells, .d (.bool tcp)] (.d (.int .i64 (sizeV r.e tcp))) := by
  refine fnOk_of_run (TT := TT) (IN := lookI []) TT_ok INok_nil mixed 1000 Try.func99 rfl (enters Try.func99 (by kernel_rfl) rfl) rfl 21 (by kernel_rfl) ?_
  unfold sizeV
  conv => whnf
  refine ⟨fun h1 => ?_, fun h1 => ?_⟩
  · rw [if_pos h1]
    conv => whnf
    try exact rfl
  rw [if_neg (by simp [h1])]
  conv => whnf
  refine ⟨fun h2 => ?_, fun h2 => ?_⟩
  · have h2 : r.e.there = false := by simpa using h2
    rw [if_pos (.inl h2)]
    conv => whnf
    repeat (first | (refine brT rfl ?_; conv => whnf) | (refine brF rfl ?_; conv => whnf))
    try exact rfl
  have h2 : ¬ r.e.there = false := by simpa using h2
  conv => whnf
  refine ⟨fun h3 => ?_, fun h3 => ?_⟩
  · have h3 : r.e.size < 512 := of_decide_eq_true h3
    rw [if_pos (.inr h3)]
    conv => whnf
    repeat (first | (refine brT rfl ?_; conv => whnf) | (refine brF rfl ?_; conv => whnf))
    try exact rfl
  have h3 : ¬ r.e.size < 512 := of_decide_eq_false h3
  rw [if_neg (by rintro (h | h) <;> contradiction)]
  conv => whnf
  try exact rfl
set_option maxHeartbeats 8000000 in
theorem vlook_ok (s : List UInt8) (hs : s.length < 1099511627776) : FnOk Try.prog 48 [.d (.str s)] (.agg (look s).cells) := by
  refine fnOk_of_run (TT := TT) (IN := lookI []) TT_ok INok_nil mixed 1000 Try.func48 rfl (enters Try.func48 (by kernel_rfl) rfl) rfl 67 (by kernel_rfl) ?_
  have hsp : look s = look s := rfl
  conv at hsp => rhs; unfold look
  have hh := mhead_ok s (by omega)
  generalize headOf s = p at hsp hh
  conv => whnf
  refine .one (.data _ hh rfl rfl ?_)
  conv => whnf
  refine ⟨fun h1 => ?_, fun h1 => ?_⟩
  · have h1 : p.2.2 ≠ 0 := by simpa using h1
    rw [if_pos (.inl h1)] at hsp
    rw [hsp]
    conv => whnf
    repeat (first | (refine brT rfl ?_; conv => whnf) | (refine brF rfl ?_; conv => whnf))
    repeat' (first | exact True.intro | exact rfl | exact ⟨rfl, rfl, .inr rfl, fun _ _ => rfl⟩ | exact ⟨rfl, rfl, .inl rfl, fun i hi => absurd hi (Nat.not_lt_zero _)⟩ | refine And.intro ?_ ?_)
  have h1 : ¬ p.2.2 ≠ 0 := by simpa using h1
  conv => whnf
  refine ⟨fun h2 => ?_, fun h2 => ?_⟩
  · have h2 : Go.bits BinOp.and IntKind.u16 p.2.1 32768 ≠ 0 := by simpa using h2
    rw [if_pos (.inr h2)] at hsp
    rw [hsp]
    conv => whnf
    repeat (first | (refine brT rfl ?_; conv => whnf) | (refine brF rfl ?_; conv => whnf))
    repeat' (first | exact True.intro | exact rfl | exact ⟨rfl, rfl, .inr rfl, fun _ _ => rfl⟩ | exact ⟨rfl, rfl, .inl rfl, fun i hi => absurd hi (Nat.not_lt_zero _)⟩ | refine And.intro ?_ ?_)
  have h2 : ¬ Go.bits BinOp.and IntKind.u16 p.2.1 32768 ≠ 0 := by simpa using h2
  rw [if_neg (by rintro (h | h) <;> contradiction)] at hsp
  conv => whnf
  have hr := mread_ok s hs
  refine .one (.data _ hr rfl rfl ?_)
  conv => whnf
  refine ⟨fun h3 => ?_, fun h3 => ?_⟩
  · have h3 : (Msg.read s).2 ≠ 0 := by simpa using h3
    rw [if_pos h3] at hsp
    rw [hsp]
    conv => whnf
    repeat (first | (refine brT rfl ?_; conv => whnf) | (refine brF rfl ?_; conv => whnf))
    repeat' (first | exact True.intro | exact rfl | exact ⟨rfl, rfl, .inr rfl, fun _ _ => rfl⟩ | exact ⟨rfl, rfl, .inl rfl, fun i hi => absurd hi (Nat.not_lt_zero _)⟩ | refine And.intro ?_ ?_)
  have h3 : ¬ (Msg.read s).2 ≠ 0 := by simpa using h3
  rw [if_neg h3] at hsp
  rcases read_cases s with ⟨e1, _⟩ | ⟨_, hm⟩
  · exact absurd e1 h3
  clear hr
  generalize (Msg.read s).1 = m at hsp hm ⊢
  have hc := hm.check
  simp only [Msg.check, Bool.and_eq_true, decide_eq_true_eq, List.all_eq_true] at hc
  obtain ⟨⟨⟨⟨⟨⟨⟨l1, l2⟩, l3⟩, l4⟩, _⟩, _⟩, _⟩, hx⟩ := hc
  have hd : ∀ r ∈ m.extra, r.d.length < 1099511627776 := fun r hr => by
    have := hx r hr
    simp only [RR.check, rcheck, Bool.and_eq_true, decide_eq_true_eq] at this
    omega
  obtain ⟨g1, g2⟩ := get_fit m hd
  unfold lookM at hsp
  conv => whnf
  refine .one (.data _ (get_ok m (by omega) (by omega) (by omega) hd) rfl rfl ?_)
  conv => whnf
  refine ⟨fun h4 => ?_, fun h4 => ?_⟩
  · have h4 : m.get.2 ≠ 0 := by simpa using h4
    rw [if_pos h4] at hsp
    rw [hsp]
    conv => whnf
    repeat' (first | exact True.intro | exact rfl | exact ⟨rfl, rfl, .inr rfl, fun _ _ => rfl⟩ | exact ⟨rfl, rfl, .inl rfl, fun i hi => absurd hi (Nat.not_lt_zero _)⟩ | refine And.intro ?_ ?_)
  have h4 : ¬ m.get.2 ≠ 0 := by simpa using h4
  rw [if_neg h4] at hsp
  conv => whnf
  refine .one (.data _ (cookies_ok m.get.1 (by omega) (fun o ho => by have := g2 o ho; omega)) rfl rfl ?_)
  have hcd := vcode_ok m m.get.1 (cookies m.get.1.opts).2.2
  generalize m.get.1 = e at hsp hcd ⊢
  generalize cookies e.opts = c at hsp hcd ⊢
  conv => whnf
  refine ⟨fun h5 => ?_, fun h5 => ?_⟩
  · have h5 : c.2.2 = 0 := by simpa using h5
    rw [if_pos h5] at hsp
    rw [hsp]
    conv => whnf
    refine .one (.data _ hcd rfl rfl ?_)
    conv => whnf
    repeat' (first | exact True.intro | exact rfl | exact ⟨rfl, rfl, .inr rfl, fun _ _ => rfl⟩ | exact ⟨rfl, rfl, .inl rfl, fun i hi => absurd hi (Nat.not_lt_zero _)⟩ | refine And.intro ?_ ?_)
  · have h5 : ¬ c.2.2 = 0 := by simpa using h5
    rw [if_neg h5] at hsp
    rw [hsp]
    conv => whnf
    refine .one (.data _ hcd rfl rfl ?_)
    conv => whnf
    repeat' (first | exact True.intro | exact rfl | exact ⟨rfl, rfl, .inr rfl, fun _ _ => rfl⟩ | exact ⟨rfl, rfl, .inl rfl, fun i hi => absurd hi (Nat.not_lt_zero _)⟩ | refine And.intro ?_ ?_)
end Go.Proofs.Ytdphkaiijlekhaa
namespace Go.Proofs.Ytdphkaiijlekhaa
open Go Go.Eng
def cA : List UInt8 := [49, 50, 51, 52, 53, 54, 55, 56]
def cB : List UInt8 := [97, 98, 99, 100, 101, 102, 103, 104]
def eS : Ed := ⟨false, 9000, 0, 0, 0, true, []⟩
def eW : Ed := ⟨true, 9000, 0, 0, 0, false, [⟨10, cA ++ cB⟩]⟩
def sD : List UInt8 := [0, 10, 0, 16] ++ (cA ++ cB)
set_option maxRecDepth 100000
theorem oclone_nil (sz : Nat) (f : Nat → List DV) : FnOk Try.prog 143 [.d (.sl true 0 sz f)] nilS := by
  refine fnOk_of_run (TT := TT) (IN := lookI []) TT_ok INok_nil mixed 1000 Try.func143 rfl (enters Try.func143 (by kernel_rfl) rfl) rfl 7 (by kernel_rfl) ?_
  conv => whnf
  refine ⟨fun _ => ?_, fun h1 => nomatch h1⟩
  conv => whnf
  repeat' (first | exact True.intro | exact rfl | exact ⟨rfl, rfl, .inr rfl, fun _ _ => rfl⟩ | exact ⟨rfl, rfl, .inl rfl, fun i hi => absurd hi (Nat.not_lt_zero _)⟩ | refine And.intro ?_ ?_)
theorem rclone_nil (sz : Nat) (f : Nat → List DV) : FnOk Try.prog 146 [.d (.sl true 0 sz f)] nilS := by
  refine fnOk_of_run (TT := TT) (IN := lookI []) TT_ok INok_nil mixed 1000 Try.func146 rfl (enters Try.func146 (by kernel_rfl) rfl) rfl 7 (by kernel_rfl) ?_
  conv => whnf
  refine ⟨fun _ => ?_, fun h1 => nomatch h1⟩
  conv => whnf
  repeat' (first | exact True.intro | exact rfl | exact ⟨rfl, rfl, .inr rfl, fun _ _ => rfl⟩ | exact ⟨rfl, rfl, .inl rfl, fun i hi => absurd hi (Nat.not_lt_zero _)⟩ | refine And.intro ?_ ?_)
theorem odel_nil : FnOk Try.prog 142 [nilS, codedV 10] nilS := by
  refine fnOk_of_run (TT := TT) (IN := lookI []) TT_ok INok_nil mixed 1000 Try.func142 rfl (enters Try.func142 (by kernel_rfl) rfl) rfl 40 (by kernel_rfl) ?_
  conv => whnf
  refine .one (.data (.d (.int .i64 (-1))) ((oindex_ok true [] 10 (by decide)).convA ⟨.none _ _ _ _ _, .refl _, True.intro⟩) rfl rfl ?_)
  conv => whnf
  refine brT rfl ?_
  conv => whnf
  repeat' (first | exact True.intro | exact rfl | exact ⟨rfl, rfl, .inr rfl, fun _ _ => rfl⟩ | exact ⟨rfl, rfl, .inl rfl, fun i hi => absurd hi (Nat.not_lt_zero _)⟩ | refine And.intro ?_ ?_)
theorem rdel_nil : FnOk Try.prog 147 [nilS, typedV 41] nilS := by
  refine fnOk_of_run (TT := TT) (IN := lookI []) TT_ok INok_nil mixed 1000 Try.func147 rfl (enters Try.func147 (by kernel_rfl) rfl) rfl 40 (by kernel_rfl) ?_
  conv => whnf
  refine .one (.data (.d (.int .i64 (-1))) ((rindex_ok true [] 41 (by decide)).convA ⟨.none _ _ _ _ _, .refl _, True.intro⟩) rfl rfl ?_)
  conv => whnf
  refine brT rfl ?_
  conv => whnf
  repeat' (first | exact True.intro | exact rfl | exact ⟨rfl, rfl, .inr rfl, fun _ _ => rfl⟩ | exact ⟨rfl, rfl, .inl rfl, fun i hi => absurd hi (Nat.not_lt_zero _)⟩ | refine And.intro ?_ ?_)
set_option maxHeartbeats 8000000 in
theorem with_ok : FnOk Try.prog 97 [.agg [.d .ff, .d (.int .u16 9000), .d (.int .u8 0), .d (.int .u8 0), .d (.int .u16 0), nilS], .d (.str cA), .d (.str cB)] (.tup [.agg eW.cells, .d (.int .i64 0)]) := by
  refine fnOk_of_run (TT := TT) (IN := lookI []) TT_ok INok_nil mixed 1000 Try.func97 rfl (enters Try.func97 (by kernel_rfl) rfl) rfl 29 (by kernel_rfl) ?_
  conv => whnf
  have hr := right_ok cA cB
  rw [show rightB cA cB = true by kernel_rfl] at hr
  refine .one (.data _ hr rfl rfl ?_)
  conv => whnf
  refine brF rfl ?_
  conv => whnf
  refine .one (.data _ (oclone_nil 0 _) rfl rfl ?_)
  conv => whnf
  refine .one (.data _ (coded_ok 10) rfl rfl ?_)
  conv => whnf
  refine .one (.data _ odel_nil rfl rfl ?_)
  conv => whnf
  refine ⟨by decide, ?_⟩
  conv => whnf
  refine ⟨by decide, ?_⟩
  conv => whnf
  repeat' (first | exact True.intro | exact rfl | exact ⟨rfl, rfl, .inr rfl, fun _ _ => rfl⟩ | exact ⟨rfl, rfl, .inl rfl, fun i hi => absurd hi (Nat.not_lt_zero _)⟩ | refine And.intro ?_ ?_)
  · exact .inr rfl
  · intro i hi
    match i, hi with
    | 0, _ => rfl
    | i + 1, h => exact absurd h (by omega)
theorem eWok : (Wr.mk [] 4096 false []).Ok := ⟨by decide, by decide, .inl rfl, fun e he => by cases he⟩
set_option maxHeartbeats 8000000 in
theorem data_ok : FnOk Try.prog 145 [.agg eW.cells] (.tup [.d (.str sD), .d .tt]) := by
  refine fnOk_of_run (TT := TT) (IN := lookI []) TT_ok INok_nil mixed 1000 Try.func145 rfl (enters Try.func145 (by kernel_rfl) rfl) rfl 46 (by kernel_rfl) ?_
  conv => whnf
  refine ⟨fun h => (nomatch h), fun _ => ?_⟩
  conv => whnf
  refine .rel _ (new_among (fun _ => rfl) (wnew_ok 4096) [_] (fun _ => rfl)) (fun r ks' hR => ?_)
  obtain ⟨rfl, rfl⟩ := hR
  have hok := eWok
  conv => whnf
  refine .once ?_
  conv => whnf
  refine ⟨fun _ => ?_, fun h => (nomatch h)⟩
  conv => whnf
  refine ⟨by decide, ?_⟩
  conv => whnf
  refine .rel _ (COk.thing Wr.fl (num_ok _ hok 2 (.inr (.inl rfl)) _) [_] [_] _ rfl rfl) (fun x ks' hR => ?_)
  obtain ⟨_, wq, ⟨rfl, rfl⟩, rfl, rfl⟩ := hR
  have hok := hok.num 2 (IntKind.u64.wrap (eW.opts.getD (Int.toNat 0) default).code)
  conv => whnf
  refine .rel _ (COk.thing Wr.fl (num_ok _ hok 2 (.inr (.inl rfl)) _) [_] [_] _ rfl rfl) (fun x ks' hR => ?_)
  obtain ⟨_, wq, ⟨rfl, rfl⟩, rfl, rfl⟩ := hR
  have hok := hok.num 2 (IntKind.u64.wrap ((eW.opts.getD (Int.toNat 0) default).data.length : Int))
  conv => whnf
  refine .rel _ (COk.thing Wr.fl (wraw_ok _ hok (eW.opts.getD (Int.toNat 0) default).data (by show 16 < _; decide)) [_] [_] _ rfl rfl) (fun x ks' hR => ?_)
  obtain ⟨_, wq, ⟨rfl, rfl⟩, rfl, rfl⟩ := hR
  conv => whnf
  refine .once ?_
  conv => whnf
  refine ⟨fun h => (nomatch h), fun _ => ?_⟩
  conv => whnf
  refine .rel _ (COk.thing Wr.fl (out_ok _) [_] [_] _ rfl rfl) (fun x ks' hR => ?_)
  obtain ⟨_, wq, ⟨rfl, rfl⟩, rfl, rfl⟩ := hR
  have ef : ((((Wr.mk [] 4096 false []).num 2 (IntKind.u64.wrap (eW.opts.getD (Int.toNat 0) default).code)).num 2 (IntKind.u64.wrap ((eW.opts.getD (Int.toNat 0) default).data.length : Int))).piece (eW.opts.getD (Int.toNat 0) default).data).full = false := by kernel_rfl
  have eb : ((((Wr.mk [] 4096 false []).num 2 (IntKind.u64.wrap (eW.opts.getD (Int.toNat 0) default).code)).num 2 (IntKind.u64.wrap ((eW.opts.getD (Int.toNat 0) default).data.length : Int))).piece (eW.opts.getD (Int.toNat 0) default).data).buf = sD := by kernel_rfl
  rw [ef, eb]
  conv => whnf
  exact ⟨rfl, rfl, True.intro⟩
def m7 : Msg := ⟨7, 256, false, [⟨[1, 97, 0], 1, 1⟩], true, [], true, [], true, []⟩
def rO : RR := ⟨[0], 41, 9000, 0, sD⟩
def mP : Msg := ⟨7, 256, false, [⟨[1, 97, 0], 1, 1⟩], true, [], true, [], false, [rO]⟩
def a7 : List SV := [.d (.int .u16 7), .d (.int .u16 256), .d qD, nilS, nilS, nilS]
theorem aM7 : AEq (.agg a7) (.agg m7.cells) := AEq.aggL ⟨.refl _, .refl _, aq, .none _ _ _ _ _, .none _ _ _ _ _, .none _ _ _ _ _, True.intro⟩
set_option maxHeartbeats 8000000 in
theorem put_ok : FnOk Try.prog 98 [.agg a7, .agg eW.cells] (.tup [.agg mP.cells, .d (.int .i64 0)]) := by
  refine fnOk_of_run (TT := TT) (IN := lookI []) TT_ok INok_nil mixed 1000 Try.func98 rfl (enters Try.func98 (by kernel_rfl) rfl) rfl 63 (by kernel_rfl) ?_
  conv => whnf
  refine .one (.data _ data_ok rfl rfl ?_)
  conv => whnf
  refine .data _ ((qclone_ok false [⟨[1, 97, 0], 1, 1⟩] (fun h => by cases h) (by decide)).convA ⟨aq, True.intro⟩) rfl rfl ?_
  conv => whnf
  refine .data _ (rclone_nil _ _) rfl rfl ?_
  conv => whnf
  refine .data _ (rclone_nil _ _) rfl rfl ?_
  conv => whnf
  refine .data _ (rclone_nil _ _) rfl rfl ?_
  conv => whnf
  refine .data _ (typed_ok 41) rfl rfl ?_
  conv => whnf
  refine .data _ rdel_nil rfl rfl ?_
  conv => whnf
  refine ⟨fun _ => ?_, fun h => (nomatch h)⟩
  conv => whnf
  refine ⟨by decide, ?_⟩
  conv => whnf
  refine ⟨by decide, ?_⟩
  conv => whnf
  refine ⟨by decide, ?_⟩
  conv => whnf
  repeat' (first | exact True.intro | exact rfl | exact ⟨rfl, rfl, .inr rfl, fun _ _ => rfl⟩ | exact ⟨rfl, rfl, .inl rfl, fun i hi => absurd hi (Nat.not_lt_zero _)⟩ | refine And.intro ?_ ?_)
  · exact .inr rfl
  · intro i hi
    match i, hi with
    | 0, _ => exact Eq.trans (b := rO.enc) (by kernel_rfl) rfl
    | i + 1, h => exact absurd h (by omega)
end Go.Proofs.Ytdphkaiijlekhaa
namespace Go.Proofs.Ytdphkaiijlekhaa
open Go Go.Eng
set_option maxRecDepth 100000
def rP : Rq := ⟨mP, eW, cA, cB, -1⟩
theorem v1 : ∃ b, mP.write 512 = (b, 0) ∧ look b = rP ∧ b.length < 1099511627776 := ⟨(mP.write 512).1, by kernel_rfl, by kernel_rfl, of_decide_eq_true (by kernel_rfl)⟩
def s3 : List UInt8 := [49, 50, 51]
def s12 : List UInt8 := [0, 7, 1, 0, 0, 1, 0, 0, 0, 0, 0, 0]
def r3 : Rq := ⟨Msg.no, Ed.no, [], [], -2⟩
def r12 : Rq := ⟨⟨7, 256, true, [], true, [], true, [], true, []⟩, Ed.no, [], [], 1⟩
theorem v2 : look s3 = r3 := by kernel_rfl
theorem v3 : look s12 = r12 := by kernel_rfl
def mV : Msg := { m7 with bits := 2304 }
theorem v4 : ∃ b, mV.write 512 = (b, 0) ∧ (look b).code = 4 ∧ b.length < 1099511627776 := ⟨(mV.write 512).1, by kernel_rfl, by kernel_rfl, of_decide_eq_true (by kernel_rfl)⟩
theorem v5 : sizeV eW false = 4096 := by kernel_rfl
theorem v6 : sizeV eW true = 65535 := by kernel_rfl
theorem v7 : sizeV Ed.no false = 512 := by kernel_rfl
theorem okP : mP.Ok := ⟨by decide, by decide, fun q hq => (by rw [List.mem_singleton.1 hq]; exact ⟨(by decide), (by decide)⟩), fun r hr => (by cases hr), fun r hr => (by cases hr), fun r hr => (by rw [List.mem_singleton.1 hr]; exact ⟨(by decide), (by decide), (by decide)⟩), by decide⟩
theorem okV : mV.Ok := ⟨by decide, by decide, fun q hq => (by rw [List.mem_singleton.1 hq]; exact ⟨(by decide), (by decide)⟩), fun r hr => (by cases hr), fun r hr => (by cases hr), fun r hr => (by cases hr), by decide⟩
def aV : List SV := [.d (.int .u16 7), .d (.int .u16 2304), .d qD, nilS, nilS, nilS]
theorem aMV : AEq (.agg aV) (.agg mV.cells) := AEq.aggL ⟨.refl _, .refl _, aq, .none _ _ _ _ _, .none _ _ _ _ _, .none _ _ _ _ _, True.intro⟩
set_option maxHeartbeats 16000000 in
theorem lives28_ok : FnOk Try.prog 47 [] (.d (.bool true)) := by
  obtain ⟨bP, e1, k1, n1⟩ := v1
  obtain ⟨bV, e4, k4, n4⟩ := v4
  have c1 := mwrite_ok mP okP 512 (by decide)
  rw [e1] at c1
  have c2 := vlook_ok bP n1
  rw [k1] at c2
  have c3 := vlook_ok s3 (by decide)
  rw [v2] at c3
  have c4 := vlook_ok s12 (by decide)
  rw [v3] at c4
  have c5 := (mwrite_ok mV okV 512 (by decide)).convA (args' := [.agg aV, .d (.int .i64 512)]) ⟨aMV, .refl _, True.intro⟩
  rw [e4] at c5
  have c6 := vlook_ok bV n4
  have c7 := size_ok rP false
  rw [show rP.e = eW from rfl, v5] at c7
  have c8 := size_ok rP true
  rw [show rP.e = eW from rfl, v6] at c8
  have c9 := size_ok r12 false
  rw [show r12.e = Ed.no from rfl, v7] at c9
  have c10 := strip_ok rP (fun h => by cases h) (by decide)
  refine fnOk_of_run (TT := TT) (IN := lookI []) TT_ok INok_nil mixed 1000 Try.func47 rfl (enters Try.func47 (by kernel_rfl) rfl) rfl 127 (by kernel_rfl) ?_
  conv => whnf
  refine .one (.data _ with_ok rfl rfl ?_)
  conv => whnf
  refine .still [0] [(1, 66, a7)] (.tup [.agg mP.cells, .d (.int .i64 0)]) _ ⟨⟨_, rfl, ?_, rfl⟩, True.intro⟩ ?_ put_ok rfl rfl ?_
  · conv => whnf
    exact ⟨rfl, rfl⟩
  · conv => whnf
    exact ⟨rfl, rfl⟩
  conv => whnf
  refine .one (.data _ c1 rfl rfl ?_)
  conv => whnf
  refine .one (.data _ c2 rfl rfl ?_)
  conv => whnf
  refine .one (.data _ c3 rfl rfl ?_)
  conv => whnf
  refine .one (.data _ c4 rfl rfl ?_)
  conv => whnf
  rw [show Go.bits BinOp.or IntKind.u16 256 2048 = 2304 by kernel_rfl]
  refine .one (.data _ c5 rfl rfl ?_)
  conv => whnf
  repeat (refine brT rfl ?_; conv => whnf)
  refine .one (.data _ (c7.convA (args' := [.agg rP.cells, .d .ff]) ⟨.refl _, .d .fb, True.intro⟩) rfl rfl ?_)
  conv => whnf
  repeat (refine brT rfl ?_; conv => whnf)
  refine .one (.data _ (c8.convA (args' := [.agg rP.cells, .d .tt]) ⟨.refl _, .d .tb, True.intro⟩) rfl rfl ?_)
  conv => whnf
  repeat (refine brT rfl ?_; conv => whnf)
  refine .one (.data _ (c9.convA (args' := [.agg r12.cells, .d .ff]) ⟨.refl _, .d .fb, True.intro⟩) rfl rfl ?_)
  conv => whnf
  repeat (refine brT rfl ?_; conv => whnf)
  refine .one (.data _ c6 rfl rfl ?_)
  conv => whnf
  rw [k4]
  repeat (refine brT rfl ?_; conv => whnf)
  refine .one (.data _ c10 rfl rfl ?_)
  conv => whnf
  repeat (refine brT rfl ?_; conv => whnf)
  refine .one (.data _ c10 rfl rfl ?_)
  conv => whnf
  try exact rfl
end Go.Proofs.Ytdphkaiijlekhaa
namespace Go.Proofs.Ytdphkaiijlekhaa
open Go Go.Eng
theorem piece_room {w : Wr} {s : List UInt8} (hf : w.full = false) (h : (s.length : Int) ≤ w.limit - w.buf.length) : w.piece s = { w with buf := w.buf ++ s } := by
  have : w.fits s = true := by
    unfold Wr.fits
    rw [hf]
    simp [h]
  unfold Wr.piece
  rw [if_pos this]
def Room (w v : Wr) (n : Nat) : Prop := v.full = false ∧ v.limit = w.limit ∧ v.buf.length ≤ w.buf.length + n
theorem room_piece {w : Wr} {s : List UInt8} (hf : w.full = false) (h : (s.length : Int) ≤ w.limit - w.buf.length) : Room w (w.piece s) s.length := by
  rw [piece_room hf h]
  exact ⟨hf, rfl, by show (w.buf ++ s).length ≤ _; rw [List.length_append]; omega⟩
theorem room_num {w : Wr} {x : Int} (hf : w.full = false) (h : (2 : Int) ≤ w.limit - w.buf.length) : Room w (w.num 2 x) 2 := room_piece (s := be 2 x) hf h
theorem room_trans {a b c : Wr} {m n : Nat} (h : Room a b m) (k : Room b c n) : Room a c (m + n) := ⟨k.1, k.2.1.trans h.2.1, by have := h.2.2; have := k.2.2; omega⟩
theorem room_le {a b : Wr} {m n : Nat} (h : Room a b m) (hm : m ≤ n) : Room a b n := ⟨h.1, h.2.1, by have := h.2.2; omega⟩
theorem room_name : ∀ (m : Nat) (w : Wr) (n : List UInt8), w.full = false → (n.length : Int) ≤ w.limit - w.buf.length → Room w (Wr.nameGo true m w n) n.length
  | 0, w, n, hf, h => room_piece hf h
  | m + 1, w, n, hf, h => by
    have htd : n.length = (n.take (1 + bt n 0)).length + (n.drop (1 + bt n 0)).length := by
      rw [← List.length_append, List.take_append_drop]
    have ht : ((n.take (1 + bt n 0)).length : Int) ≤ w.limit - w.buf.length := by omega
    unfold Wr.nameGo
    split
    · rename_i h1
      split
      · rw [if_pos rfl]
        exact room_le (room_num hf (by omega)) (by omega)
      · split
        · rename_i hfit
          have hp := room_piece hf ht
          split
          · have hq : Room w { w.piece (n.take (1 + bt n 0)) with rests := w.rests ++ [(n, (w.buf.length : Int))] } (n.take (1 + bt n 0)).length := hp
            have := room_name m _ (n.drop (1 + bt n 0)) hq.1 (by rw [hq.2.1]; have := hq.2.2; omega)
            rw [htd]
            exact room_trans hq this
          · have := room_name m _ (n.drop (1 + bt n 0)) hp.1 (by rw [hp.2.1]; have := hp.2.2; omega)
            rw [htd]
            exact room_trans hp this
        · exact room_le (room_piece hf ht) (by omega)
    · exact room_piece hf h
def oneQ (id : Int) (n : List UInt8) : Msg := ⟨id, 256, false, [⟨n, 1, 1⟩], true, [], true, [], true, []⟩
theorem one_room (id : Int) (n : List UInt8) (h : isName n) : ((oneQ id n).last 512).full = false := by
  have hn := h.2.1
  have hl : lm 512 = 512 := by decide
  unfold Msg.last
  rw [hl]
  have r1 : Room (Wr.mk [] 512 false []) ((Wr.mk [] 512 false []).head (oneQ id n)) 12 := by
    unfold Wr.head
    have f0 : (Wr.mk [] 512 false []).full = false := rfl
    have g0 : (2 : Int) ≤ (Wr.mk [] 512 false []).limit - (Wr.mk [] 512 false []).buf.length := by decide
    have h0 : (Wr.mk [] 512 false []).limit - ((Wr.mk [] 512 false []).buf.length : Int) = 512 := by decide
    generalize Wr.mk [] 512 false [] = w at f0 g0 h0 ⊢
    have q1 := room_num (x := (oneQ id n).id) f0 g0
    have q2 := room_trans q1 (room_num (x := (oneQ id n).bits) q1.1 (by rw [q1.2.1]; have := q1.2.2; omega))
    have q3 := room_trans q2 (room_num (x := ((oneQ id n).asks.length : Int)) q2.1 (by rw [q2.2.1]; have := q2.2.2; omega))
    have q4 := room_trans q3 (room_num (x := ((oneQ id n).says.length : Int)) q3.1 (by rw [q3.2.1]; have := q3.2.2; omega))
    have q5 := room_trans q4 (room_num (x := ((oneQ id n).heads.length : Int)) q4.1 (by rw [q4.2.1]; have := q4.2.2; omega))
    exact room_trans q5 (room_num (x := ((oneQ id n).extra.length : Int)) q5.1 (by rw [q5.2.1]; have := q5.2.2; omega))
  generalize (Wr.mk [] 512 false []).head (oneQ id n) = w at r1 ⊢
  show ((w.name n true).num 2 1 |>.num 2 1).full = false
  obtain ⟨f1, l1, b1⟩ := r1
  have l1 : w.limit = 512 := l1
  have b1 : w.buf.length ≤ 12 := by simpa using b1
  have r2 : Room w (w.name n true) n.length := by
    unfold Wr.name
    rw [if_neg (by rintro (h1 | h1); · rw [f1] at h1; cases h1
                   · exact h1 h)]
    exact room_name _ _ _ f1 (by omega)
  obtain ⟨f2, l2, b2⟩ := r2
  obtain ⟨f3, l3, b3⟩ := room_num (x := 1) f2 (by omega)
  exact (room_num (x := 1) f3 (by omega)).1
theorem read_head (s : List UInt8) (h : (Msg.read s).2 = 0) : headOf s = ((Msg.read s).1.id, (Msg.read s).1.bits, 0) := by
  have key : (Msg.read s).2 ≠ 0 ∨ headOf s = ((Msg.read s).1.id, (Msg.read s).1.bits, 0) := by
    unfold Msg.read headOf
    split
    · exact .inl (by decide)
    dsimp only
    unfold Rdr.rest
    split
    · exact .inl (by decide)
    split
    · exact .inl (by decide)
    refine sec_right (fun p => p.2 ≠ 0 ∨ _ = (p.1.id, p.1.bits, 0)) (fun e he => .inl he) fun r1 x hx lx => ?_
    refine sec_right (fun p => p.2 ≠ 0 ∨ _ = (p.1.id, p.1.bits, 0)) (fun e he => .inl he) fun r2 y hy ly => ?_
    refine sec_right (fun p => p.2 ≠ 0 ∨ _ = (p.1.id, p.1.bits, 0)) (fun e he => .inl he) fun r3 z hz lz => ?_
    unfold Rdr.fin
    split
    · exact .inl (by decide)
    · exact .inr rfl
  exact key.resolve_left (fun hn => hn h)
structure Res (r : Rq) : Prop where
  code : r.code = -1
  asks : r.m.asks.length = 1
  cl : (r.m.asks.getD 0 default).cl = 1
  nm : isName (r.m.asks.getD 0 default).nm
  qr : Go.bits BinOp.and IntKind.u16 r.m.bits 32768 = 0
  says : r.m.says = []
theorem code_cases (m : Msg) (ver bad : Int) : (codeV m ver bad = 1 ∨ codeV m ver bad = 4 ∨ codeV m ver bad = 5 ∨ codeV m ver bad = 16) ∨ (codeV m ver bad = -1 ∧ m.asks.length = 1 ∧ m.says = [] ∧ (m.asks.getD 0 default).cl = 1) := by
  unfold codeV
  split
  · exact .inl (.inl rfl)
  rename_i h1
  split
  · exact .inl (.inr (.inl rfl))
  split
  · exact .inl (.inr (.inr (.inr rfl)))
  split
  · exact .inl (.inr (.inr (.inl rfl)))
  rename_i h2
  split
  · exact .inl (.inr (.inr (.inl rfl)))
  · refine .inr ⟨rfl, ?_, ?_, ?_⟩
    · exact Decidable.byContradiction fun h => h1 (.inl h)
    · have : ¬ 0 < m.says.length := fun h => h1 (.inr (.inl h))
      exact List.length_eq_zero_iff.1 (by omega)
    · exact Decidable.byContradiction fun h => h2 (.inl h)
theorem look_cases (s : List UInt8) : ((look s).code = -2 ∧ (look s).m = Msg.no) ∨ ((look s).code = 1 ∨ (look s).code = 4 ∨ (look s).code = 5 ∨ (look s).code = 16) ∨ Res (look s) := by
  unfold look
  split
  · exact .inl ⟨rfl, rfl⟩
  rename_i h1
  split
  · exact .inr (.inl (.inl rfl))
  rename_i h2
  have h2 : (Msg.read s).2 = 0 := Decidable.not_not.1 h2
  have hh := read_head s h2
  rcases read_cases s with ⟨e1, _⟩ | ⟨_, hm⟩
  · exact absurd h2 e1
  have hqr : Go.bits BinOp.and IntKind.u16 (Msg.read s).1.bits 32768 = 0 := by
    rw [hh] at h1
    exact Decidable.byContradiction fun h => h1 (.inr h)
  generalize (Msg.read s).1 = m at hqr hm ⊢
  unfold lookM
  split
  · exact .inr (.inl (.inl rfl))
  have hn : ∀ q ∈ m.asks, isName q.nm := fun q hq => by
    have := hm.check
    simp only [Msg.check, Bool.and_eq_true, decide_eq_true_eq, List.all_eq_true] at this
    exact this.1.1.1.2 q hq
  have hr : ∀ bad : Int, (codeV m m.get.1.ver bad = 1 ∨ codeV m m.get.1.ver bad = 4 ∨ codeV m m.get.1.ver bad = 5 ∨ codeV m m.get.1.ver bad = 16) ∨ (codeV m m.get.1.ver bad = -1 ∧ m.asks.length = 1 ∧ m.says = [] ∧ (m.asks.getD 0 default).cl = 1 ∧ isName (m.asks.getD 0 default).nm) := fun bad => by
    rcases code_cases m m.get.1.ver bad with h | ⟨k1, k2, k3, k4⟩
    · exact .inl h
    · refine .inr ⟨k1, k2, k3, k4, hn _ ?_⟩
      have : m.asks[0]? = some (m.asks.getD 0 default) := by rw [List.getD, List.getElem?_eq_getElem (by omega)]; rfl
      exact List.mem_of_getElem? this
  split
  · rcases hr (cookies m.get.1.opts).2.2 with h | ⟨k1, k2, k3, k4, k5⟩
    · exact .inr (.inl h)
    · exact .inr (.inr ⟨k1, k2, k4, k5, hqr, k3⟩)
  · rcases hr (cookies m.get.1.opts).2.2 with h | ⟨k1, k2, k3, k4, k5⟩
    · exact .inr (.inl h)
    · exact .inr (.inr ⟨k1, k2, k4, k5, hqr, k3⟩)
/-- A right question alone: written, read, looked at. -/
theorem one_law (id : Int) (hid : 0 ≤ id ∧ id ≤ 65535) (n : List UInt8) :
    (¬ isName n ∧ (oneQ id n).write 512 = ([], 2)) ∨
    (isName n ∧ ∃ b, (oneQ id n).write 512 = (b, 0) ∧ b.length ≤ 512 ∧ look b = ⟨(oneQ id n).again, Ed.no, [], [], -1⟩) := by
  have hok : (oneQ id n).Ok := ⟨hid, ⟨show (0 : Int) ≤ 256 by decide, show (256 : Int) ≤ 65535 by decide⟩, fun q hq => (by rw [List.mem_singleton.1 hq]; exact ⟨⟨show (0 : Int) ≤ 1 by decide, show (1 : Int) ≤ 65535 by decide⟩, ⟨show (0 : Int) ≤ 1 by decide, show (1 : Int) ≤ 65535 by decide⟩⟩), fun r hr => (by cases hr), fun r hr => (by cases hr), fun r hr => (by cases hr), by show 1 < _; decide⟩
  have hck : (oneQ id n).check = decide (isName n) := by
    unfold Msg.check oneQ
    simp
  by_cases hn : isName n
  · rw [decide_eq_true hn] at hck
    refine .inr ⟨hn, ((oneQ id n).last 512).buf, ?_, ?_, ?_⟩
    · unfold Msg.write
      rw [hck, one_room id n hn]
      rfl
    · have := (msg_back hok (limit := 512) (by decide) hck (one_room id n hn)).2
      omega
    · have hb := (msg_back hok (limit := 512) (by decide) hck (one_room id n hn)).1
      generalize ((oneQ id n).last 512).buf = b at hb ⊢
      have hh := read_head b (by rw [hb])
      unfold look
      rw [hh, hb]
      rw [if_neg (by rintro (h | h); · exact h rfl
                     · exact h (by kernel_rfl)), if_neg (by simp)]
      unfold lookM
      have hg : (oneQ id n).again.get = (Ed.no, 0) := by
        have e1 : optI (oneQ id n).again.says = -1 := rfl
        have e2 : optI (oneQ id n).again.heads = -1 := rfl
        have e3 : optI (oneQ id n).again.extra = -1 := rfl
        unfold Msg.get
        rw [e1, e2, e3, if_neg (by decide), if_pos (by decide)]
      rw [hg]
      show (if (0 : Int) ≠ 0 then _ else _) = _
      rw [if_neg (by decide)]
      have hc : cookies Ed.no.opts = ([], [], 3) := by kernel_rfl
      rw [hc, if_neg (by decide)]
      have : codeV (oneQ id n).again Ed.no.ver 3 = -1 := by
        unfold codeV
        have e1 : (oneQ id n).again.op = 0 := by
          unfold Msg.op
          show (IntKind.i64.wrap (Go.bits BinOp.and IntKind.u16 256 30720)).fdiv (2 ^ 11) = 0
          kernel_rfl
        rw [if_neg (by rintro (h | h | h | h); · exact h rfl
                       · exact absurd h (by show ¬ 0 < 0; decide)
                       · exact absurd h (by show ¬ 0 < 0; decide)
                       · cases h), e1, if_neg (by decide), if_neg (by decide)]
        rw [if_neg (by rintro (h | h); · exact h rfl
                       · exact absurd h (by show ¬ Go.bits BinOp.and IntKind.u16 256 256 = 0
                                            rw [show Go.bits BinOp.and IntKind.u16 256 256 = 256 by kernel_rfl]
                                            decide))]
        rw [if_neg (by show ¬ ((1 : Int) = 0 ∨ (1 : Int) = 41 ∨ (251 ≤ (1 : Int) ∧ (1 : Int) ≤ 255)); decide)]
      rw [this]
  · rw [decide_eq_false hn] at hck
    exact .inl ⟨hn, by unfold Msg.write; rw [hck]; rfl⟩
end Go.Proofs.Ytdphkaiijlekhaa
