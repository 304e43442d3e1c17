/-
  cache.None, Len over known blocks. Conditions: lengths, ranges of numbers.
-/
import Derived.Test.YtdphkaiijlekhaaNew
import Derived.Test.YtdphkaiijlekhaaEgF
namespace Go.Proofs.Ytdphkaiijlekhaa
open Go Go.Eng
def okNone (nm : List UInt8) (ty : Int) (all : Bool) : Bool := decide (isName nm) && (all || ty != 0)
def noneT (nm : List UInt8) (ty ttl : Int) (all : Bool) (now : Int) : Th := ⟨nm, if all then 0 else ty, ttl, true, 0, fun _ => [], 4, true, all, now + mn ttl 10800⟩
def NoneR (c : CSt) (nm : List UInt8) (ty : Int) (all : Bool) (ttl now : Int) (s : SV) (ks : List KB) : Prop :=
  (okNone nm ty all = false ∧ s = .d .ff ∧ ks = c.ks 0) ∨ (okNone nm ty all = true ∧ HoldR c (noneT nm ty ttl all now) (mn ttl 10800) now s ks)
set_option maxRecDepth 100000
set_option maxHeartbeats 8000000 in
theorem none_ok (c : CSt) (hw : c.Wf) (nm : List UInt8) (ty : Int) (all : Bool) (ttl now : Int) (httl : 0 ≤ ttl) :
    COk Try.prog 15 [.ptr 0 0, .d (.str nm), .d (.int .u16 ty), .d (.bool all), .d (.int .u32 ttl), .d (.int .i64 now)] (c.ks 0) (NoneR c nm ty all ttl now) := by
  refine cOk_of_run (TT := TT) (IN := lookI []) TT_ok INok_nil mixed 1000 Try.func15 rfl (enters Try.func15 (by kernel_rfl) rfl) 32 (by kernel_rfl) ?_
  conv => whnf
  refine .one (.data _ (check_ok nm) rfl rfl ?_)
  have hbad : okNone nm ty all = false → NoneR c nm ty all ttl now (.d .ff) (c.ks 0) := fun h => .inl ⟨h, rfl, rfl⟩
  by_cases hn : isName nm
  · rw [if_pos hn]
    have hnm : nm.length < 9223372036854775808 := by have := hn.2.1; omega
    conv => whnf
    refine brF rfl ?_
    conv => whnf
    cases all
    · refine ⟨fun h2 => ?_, fun h2 => ?_⟩
      · have hk : okNone nm ty false = false := by
          have : ty = 0 := by simpa using h2
          simp [okNone, this]
        conv => whnf
        refine brT rfl ?_
        conv => whnf
        refine ⟨[0, 1, 2], .d .ff, c.ks 0, rfl, rfl, rfl, ?_, hbad hk⟩
        repeat' (first | exact True.intro | exact rfl | exact fun _ => Iff.rfl | exact fun _ _ => rfl | exact renM_ent rfl _ | refine And.intro ?_ ?_)
      · have hk : okNone nm ty false = true := by
          have : ¬ ty = 0 := by simpa using h2
          simp [okNone, this, hn]
        conv => whnf
        refine brF rfl ?_
        conv => whnf
        refine .rel _ (cks ((hold_ok c hw nm ty ttl true 0 (fun _ => []) 4 true false (mn ttl 10800) now (fun _ => rfl) (by omega) hnm (by unfold mn; split <;> omega)).convA (args' := [.ptr 0 0, .agg [.d (.str nm), .d (.int .u16 ty), .d (.int .u32 ttl), nilS, .d (.int .u8 4), .d .tt, .d (.bool false)], .d (.int .u32 (mn ttl 10800)), .d (.int .i64 now)]) ⟨.refl _, .aggL ⟨.refl _, .refl _, .refl _, .d (.none _ _ _ _ _), .refl _, .d .tb, .refl _, True.intro⟩, .refl _, .refl _, True.intro⟩) _ (fun _ => rfl) hold_ks) (fun r ks' hR => ?_)
        obtain ⟨c', rfl, hR⟩ := hR
        conv => whnf
        refine ⟨[0, 1, 2], r, c'.ks 0, rfl, rfl, ?_, ?_, .inr ⟨hk, hR⟩⟩
        · rcases hR with ⟨rfl, _⟩ | ⟨rfl, _⟩ <;> exact rfl
        · repeat' (first | exact True.intro | exact rfl | exact fun _ => Iff.rfl | exact fun _ _ => rfl | exact renM_ent rfl _ | refine And.intro ?_ ?_)
    · refine ⟨fun h2 => ?_, fun h2 => ?_⟩
      · have hk : okNone nm ty true = true := by simp [okNone, hn]
        conv => whnf
        refine brF rfl ?_
        conv => whnf
        refine brT rfl ?_
        conv => whnf
        refine .rel _ (cks ((hold_ok c hw nm 0 ttl true 0 (fun _ => []) 4 true true (mn ttl 10800) now (fun _ => rfl) (by omega) hnm (by unfold mn; split <;> omega)).convA (args' := [.ptr 0 0, .agg [.d (.str nm), .d (.int .u16 0), .d (.int .u32 ttl), nilS, .d (.int .u8 4), .d .tt, .d (.bool true)], .d (.int .u32 (mn ttl 10800)), .d (.int .i64 now)]) ⟨.refl _, .aggL ⟨.refl _, .refl _, .refl _, .d (.none _ _ _ _ _), .refl _, .d .tb, .refl _, True.intro⟩, .refl _, .refl _, True.intro⟩) _ (fun _ => rfl) hold_ks) (fun r ks' hR => ?_)
        obtain ⟨c', rfl, hR⟩ := hR
        conv => whnf
        refine ⟨[0, 1, 2], r, c'.ks 0, rfl, rfl, ?_, ?_, .inr ⟨hk, hR⟩⟩
        · rcases hR with ⟨rfl, _⟩ | ⟨rfl, _⟩ <;> exact rfl
        · repeat' (first | exact True.intro | exact rfl | exact fun _ => Iff.rfl | exact fun _ _ => rfl | exact renM_ent rfl _ | refine And.intro ?_ ?_)
      · have hk : okNone nm ty true = true := by simp [okNone, hn]
        conv => whnf
        refine brT rfl ?_
        conv => whnf
        refine .rel _ (cks ((hold_ok c hw nm 0 ttl true 0 (fun _ => []) 4 true true (mn ttl 10800) now (fun _ => rfl) (by omega) hnm (by unfold mn; split <;> omega)).convA (args' := [.ptr 0 0, .agg [.d (.str nm), .d (.int .u16 0), .d (.int .u32 ttl), nilS, .d (.int .u8 4), .d .tt, .d (.bool true)], .d (.int .u32 (mn ttl 10800)), .d (.int .i64 now)]) ⟨.refl _, .aggL ⟨.refl _, .refl _, .refl _, .d (.none _ _ _ _ _), .refl _, .d .tb, .refl _, True.intro⟩, .refl _, .refl _, True.intro⟩) _ (fun _ => rfl) hold_ks) (fun r ks' hR => ?_)
        obtain ⟨c', rfl, hR⟩ := hR
        conv => whnf
        refine ⟨[0, 1, 2], r, c'.ks 0, rfl, rfl, ?_, ?_, .inr ⟨hk, hR⟩⟩
        · rcases hR with ⟨rfl, _⟩ | ⟨rfl, _⟩ <;> exact rfl
        · repeat' (first | exact True.intro | exact rfl | exact fun _ => Iff.rfl | exact fun _ _ => rfl | exact renM_ent rfl _ | refine And.intro ?_ ?_)
  · rw [if_neg hn]
    have hk : okNone nm ty all = false := by simp [okNone, hn]
    conv => whnf
    refine brT rfl ?_
    conv => whnf
    refine ⟨[0, 1, 2], .d .ff, c.ks 0, rfl, rfl, rfl, ?_, hbad hk⟩
    repeat' (first | exact True.intro | exact rfl | exact fun _ => Iff.rfl | exact fun _ _ => rfl | exact renM_ent rfl _ | refine And.intro ?_ ?_)
set_option maxHeartbeats 8000000 in
theorem len_ok (c : CSt) (hw : c.Wf) : COk Try.prog 17 [.ptr 0 0] (c.ks 0) (fun s k => s = .d (.int .i64 c.m.length) ∧ k = c.ks 0) := by
  refine cOk_of_run (TT := TT) (IN := lookI [(54, Try.f54, 1)]) TT_ok (INok_cons INok_nil Try.func54 (by kernel_rfl) (by kernel_rfl)) mixed 1000 Try.func17 rfl (enters Try.func17 (by kernel_rfl) rfl) 10 (by kernel_rfl) ?_
  have hr0 : c.r ≠ 0 := dom_ne hw.h0 hw.hr
  conv => whnf
  refine brF (by simp [hr0]) ?_
  conv => whnf
  refine ⟨[0, 1, 2], .d (.int .i64 c.m.length), c.ks 0, rfl, rfl, ?_, ?_, rfl, rfl⟩
  · show SV.d _ = _
    rw [entL_length]
  · repeat' (first | exact True.intro | exact rfl | exact fun _ => Iff.rfl | exact fun _ _ => rfl | exact renM_ent rfl _ | refine And.intro ?_ ?_)
theorem mapM_ent' (σ : Nat → Nat) (i : Nat) (l : List (List UInt8 × Int × Nat)) : mapM σ (entL i l) = entL (σ i) l := by
  induction l with
  | nil => rfl
  | cons e l ih => simp [entL, mapM, ent, mapL, mapV, ih]
theorem mapB_ks' (c : CSt) {σ : Nat → Nat} {p : Nat} (h1 : σ 1 = p + 1) (h2 : σ 2 = p + 2) : mapB σ (c.ks 0) = c.ks p := by
  show [KB.cells 100 [.d (.int .i64 c.room), .np (σ 1) c.r, .map (σ 2)], KB.arena 108 c.dom [.str c.nm, .int .u16 c.ty, .int .u32 c.ttl, .sl 1 c.ni c.ln c.dg, .int .u8 c.rk, .bool c.no, .bool c.nb, .int .i64 c.til, .str c.an, .int .u16 c.ak, .np (σ 1) c.bf, .np (σ 1) c.bh], KB.map [EK.str, EK.int IntKind.u16] true false (mapM σ (entL 1 c.m))] = _
  rw [mapM_ent', h1, h2]
  rfl
/-- The cache among other blocks, from number p on. -/
theorem ckp {P : Program} {f : FuncId} {al al' : List SV} {c : CSt} {Q : SV → CSt → Prop} (h : COk P f al (c.ks 0) (fun s k => ∃ c1, k = CSt.ks c1 0 ∧ Q s c1)) (pre rest : List KB) (σ : Nat → Nat) (hσ : σ = sig (List.range' pre.length 3) (pre.length + (3 + rest.length))) (ha : mapL σ al = al') :
    COk P f al' (pre ++ (c.ks pre.length ++ rest)) (fun s k => ∃ s0 c1, Q s0 c1 ∧ s = mapV σ s0 ∧ k = pre ++ (CSt.ks c1 pre.length ++ rest)) := by
  have h1 : σ 1 = pre.length + 1 := by rw [hσ]; rfl
  have h2 : σ 2 = pre.length + 2 := by rw [hσ]; rfl
  have := h.among pre rest (σ := σ) (fun s k hs => by obtain ⟨c', rfl, _⟩ := hs; exact Nat.le_refl _) hσ
  rw [mapB_ks' c h1 h2, ha] at this
  refine this.imp fun s k ⟨s0, k1, ⟨c', hk1, hr⟩, hs, hk⟩ => ?_
  subst hk1
  refine ⟨s0, c', hr, hs, ?_⟩
  rw [hk, show (c'.ks 0).take (c.ks 0).length = c'.ks 0 from rfl, show (c'.ks 0).drop (c.ks 0).length = [] from rfl, mapB_ks' c' h1 h2]
  show pre ++ (c'.ks pre.length ++ (rest ++ [])) = _
  rw [List.append_nil]
/-- New behind other blocks. -/
theorem newp {al : List SV} {room : Int} (h : COk Try.prog 12 al [] (NewR room)) (pre : List KB) (ha : ∀ σ, mapL σ al = al) :
    COk Try.prog 12 al pre (fun s k => (¬ (1 ≤ room ∧ room ≤ 4096) ∧ s = .tup [.v (.pointer none), .d (.int .i64 1)] ∧ k = pre) ∨ ((1 ≤ room ∧ room ≤ 4096) ∧ s = .tup [.ptr pre.length 0, .d (.int .i64 0)] ∧ ∃ c : CSt, k = pre ++ c.ks pre.length ∧ c.Wf ∧ c.room = room ∧ c.abs = [])) := by
  have := h.among pre [] (fun s k _ => Nat.zero_le _) rfl
  rw [ha] at this
  have e : pre ++ (mapB (sig (List.range' pre.length ([] : List KB).length) (pre.length + (([] : List KB).length + ([] : List KB).length))) [] ++ []) = pre := by simp [mapB]
  rw [e] at this
  refine this.imp fun s k ⟨s0, k1, hr, hs, hk⟩ => ?_
  rcases hr with ⟨a1, rfl, rfl⟩ | ⟨a1, rfl, c, rfl, a2, a3, a4⟩
  · exact .inl ⟨a1, hs, by rw [hk]; simp [mapB]⟩
  · refine .inr ⟨a1, hs, c, ?_, a2, a3, a4⟩
    rw [hk]
    show pre ++ ([] ++ ([] ++ mapB _ (c.ks 0))) = _
    rw [mapB_ks' c (σ := sig (List.range' pre.length ([] : List KB).length) (pre.length + (([] : List KB).length + ([] : List KB).length))) (p := pre.length) rfl rfl]
    rfl
/-- What Put and None come to, by what is held. -/
def HoldA (abs abs' : List (List UInt8 × Int × Th)) (ok : Bool) (x : Th) (ttl now : Int) (done : Bool) : Prop :=
  (done = false ∧ abs' = abs ∧ (ok = false ∨ ttl = 0 ∨ now < 0 ∨ 4611686018427387904 < now ∨ ∃ y, fnd abs (fold x.nm) x.ty = some y ∧ now < y.til ∧ x.rk < y.rk)) ∨
  (done = true ∧ ok = true ∧ 0 ≤ now ∧ now ≤ 4611686018427387904 ∧ ttl ≠ 0 ∧ (∀ y, fnd abs (fold x.nm) x.ty = some y → ¬ (now < y.til ∧ x.rk < y.rk)) ∧
    ∃ l', (l' = abs ∨ ∃ a t, l' = del abs a t) ∧ abs' = Go.Proofs.Ytdphkaiijlekhaa.put l' (fold x.nm) x.ty x)
def boolV (b : Bool) : SV := .d (if b then .tt else .ff)
def HoldQ (c : CSt) (ok : Bool) (x : Th) (ttl now : Int) (s : SV) (c1 : CSt) : Prop := ∃ done, s = boolV done ∧ c1.Wf ∧ c1.room = c.room ∧ HoldA c.abs c1.abs ok x ttl now done
theorem holdQ {c : CSt} (hw : c.Wf) {x : Th} {ttl now : Int} {s : SV} {k : List KB} (h : HoldR c x ttl now s k) : ∃ c1, k = CSt.ks c1 0 ∧ HoldQ c true x ttl now s c1 := by
  rcases h with ⟨rfl, h2, h3⟩ | ⟨rfl, h2, h3, h4, h5, c1, l', h6, h7, h8, h9, h10⟩
  · exact ⟨c, h2, false, rfl, hw, rfl, .inl ⟨rfl, rfl, .inr h3⟩⟩
  · exact ⟨c1, h6, true, rfl, h7, h8, .inr ⟨rfl, rfl, h2, h3, h4, h5, l', h9, h10⟩⟩
theorem put_q (c : CSt) (hw : c.Wf) (nm : List UInt8) (ty ttl : Int) (b : Bool) (l : List (List UInt8)) (k now : Int) (hb : b = true → l.length = 0) (httl : 0 ≤ ttl) :
    COk Try.prog 14 [.ptr 0 0, setV nm ty ttl b l, .d (.int .u8 k), .d (.int .i64 now)] (c.ks 0) (fun s ks => ∃ c1, ks = CSt.ks c1 0 ∧ HoldQ c (okPut nm ty ttl l k) ⟨nm, ty, ttl, b, l.length, strs l, k, false, false, now + mn ttl 604800⟩ (mn ttl 604800) now s c1) :=
  (put_ok c hw nm ty ttl b l k now hb httl).imp fun s ks h => by
    rcases h with ⟨h1, rfl, h2⟩ | ⟨h1, h⟩
    · rw [h1]; exact ⟨c, h2, false, rfl, hw, rfl, .inl ⟨rfl, rfl, .inl rfl⟩⟩
    · rw [h1]; exact holdQ hw h
theorem none_q (c : CSt) (hw : c.Wf) (nm : List UInt8) (ty : Int) (all : Bool) (ttl now : Int) (httl : 0 ≤ ttl) :
    COk Try.prog 15 [.ptr 0 0, .d (.str nm), .d (.int .u16 ty), .d (.bool all), .d (.int .u32 ttl), .d (.int .i64 now)] (c.ks 0) (fun s ks => ∃ c1, ks = CSt.ks c1 0 ∧ HoldQ c (okNone nm ty all) (noneT nm ty ttl all now) (mn ttl 10800) now s c1) :=
  (none_ok c hw nm ty all ttl now httl).imp fun s ks h => by
    rcases h with ⟨h1, rfl, h2⟩ | ⟨h1, h⟩
    · rw [h1]; exact ⟨c, h2, false, rfl, hw, rfl, .inl ⟨rfl, rfl, .inl rfl⟩⟩
    · rw [h1]; exact holdQ hw h
def GetQ (c : CSt) (o : Option Th) (now : Int) (s : SV) (c1 : CSt) : Prop := s = getV o now ∧ c1.Wf ∧ c1.room = c.room ∧ c1.abs = c.abs
theorem get_q (c : CSt) (hw : c.Wf) (nm : List UInt8) (ty least now : Int) (hnm : nm.length < 9223372036854775808) (hn : 0 ≤ now) :
    COk Try.prog 16 [.ptr 0 0, .d (.str nm), .d (.int .u16 ty), .d (.int .u8 least), .d (.int .i64 now)] (c.ks 0) (fun s ks => ∃ c1, ks = CSt.ks c1 0 ∧ GetQ c (getT' c.abs nm ty least now) now s c1) :=
  (get_ok c hw nm ty least now hnm hn).imp fun s ks ⟨h1, f, g, h2, h3⟩ => ⟨c.ring f g, h2, h1, h3, rfl, rfl⟩
theorem absL_length (f : Nat → Th) (l : List (List UInt8 × Int × Nat)) : (absL f l).length = l.length := by
  induction l with
  | nil => rfl
  | cons e l ih => simp [absL, ih]
theorem len_q (c : CSt) (hw : c.Wf) : COk Try.prog 17 [.ptr 0 0] (c.ks 0) (fun s ks => ∃ c1, ks = CSt.ks c1 0 ∧ (s = .d (.int .i64 c.abs.length) ∧ c1 = c)) :=
  (len_ok c hw).imp fun s ks ⟨h1, h2⟩ => ⟨c, h2, by rw [h1]; unfold CSt.abs; rw [absL_length], rfl⟩
theorem mapV_get (σ : Nat → Nat) (o : Option Th) (now : Int) : mapV σ (getV o now) = getV o now := by cases o <;> rfl
end Go.Proofs.Ytdphkaiijlekhaa
