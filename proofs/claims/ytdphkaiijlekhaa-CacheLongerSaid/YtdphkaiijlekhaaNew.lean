/-
  cache.New, Len, Put, None over known blocks; the cache among other blocks. Conditions: lengths, ranges of numbers.
-/
import Derived.Test.YtdphkaiijlekhaaGet
namespace Go.Proofs.Ytdphkaiijlekhaa
open Go Go.Eng
def c00 : CSt := ⟨0, 0, fun _ => False, fun _ => [], fun _ => 0, fun _ => 0, fun _ => true, fun _ => 0, fun _ _ => [], fun _ => 0, fun _ => false, fun _ => false, fun _ => 0, fun _ => [], fun _ => 0, fun _ => 0, fun _ => 0, []⟩
def NewR (room : Int) (s : SV) (k : List KB) : Prop :=
  (¬ (1 ≤ room ∧ room ≤ 4096) ∧ s = .tup [.v (.pointer none), .d (.int .i64 1)] ∧ k = []) ∨
  ((1 ≤ room ∧ room ≤ 4096) ∧ s = .tup [.ptr 0 0, .d (.int .i64 0)] ∧ ∃ c : CSt, k = c.ks 0 ∧ c.Wf ∧ c.room = room ∧ c.abs = [])
set_option maxRecDepth 100000
set_option maxHeartbeats 8000000 in
theorem new_ok (room : Int) : COk Try.prog 12 [.d (.int .i64 room)] [] (NewR room) := by
  refine cOk_of_run_arena (TT := TT) (IN := lookI [(52, Try.f52, 1)]) TT_ok (INok_cons INok_nil Try.func52 (by kernel_rfl) (by kernel_rfl)) mixed 1000 Try.func12 rfl (enters Try.func12 (by kernel_rfl) rfl) 108 (c00.cols 0) 11 (by kernel_rfl) ?_
  conv => whnf
  refine ⟨fun h1 => ?_, fun h1 => ?_⟩
  · conv => whnf
    have a1 : room < 1 := by simpa using h1
    exact ⟨[], .tup [.v (.pointer none), .d (.int .i64 1)], [], rfl, rfl, rfl, True.intro, .inl ⟨by omega, rfl, rfl⟩⟩
  conv => whnf
  refine ⟨fun h2 => ?_, fun h2 => ?_⟩
  · conv => whnf
    have a1 : room > 4096 := by simpa using h2
    exact ⟨[], .tup [.v (.pointer none), .d (.int .i64 1)], [], rfl, rfl, rfl, True.intro, .inl ⟨by omega, rfl, rfl⟩⟩
  have a1 : ¬ room < 1 := by simpa using h1
  have a2 : ¬ room > 4096 := by simpa using h2
  conv => whnf
  intro p hp0 _
  conv => whnf
  refine ⟨.inl rfl, ?_⟩
  conv => whnf
  refine ⟨.inl rfl, ?_⟩
  conv => whnf
  let c : CSt := ⟨room, p, fun q => q = p ∨ False, upd c00.nm p [], upd c00.ty p 0, upd c00.ttl p 0, upd c00.ni p true, upd c00.ln p 0, upd c00.dg p (fun _ => []), upd c00.rk p 0, upd c00.no p false, upd c00.nb p false, upd c00.til p 0, upd c00.an p [], upd c00.ak p 0, upd (upd c00.bf p 0) p p, upd (upd c00.bh p 0) p p, []⟩
  have hw : c.Wf := by
    refine ⟨fun e => e.elim (fun e => hp0 e.symm) id, .inl rfl, fun n hn => ?_, fun n hn => ?_, fun e he => by cases he⟩
    · have : n = p := hn.resolve_right id
      exact .inl (by show upd _ p p n = p; rw [this, upd_same])
    · have : n = p := hn.resolve_right id
      exact .inl (by show upd _ p p n = p; rw [this, upd_same])
  refine ⟨[3, 0, 2], .tup [.ptr 0 0, .d (.int .i64 0)], c.ks 0, rfl, rfl, rfl, ?_, .inr ⟨by omega, rfl, c, rfl, hw, rfl, rfl⟩⟩
  repeat' (first | exact True.intro | exact rfl | exact fun _ => Iff.rfl | exact fun _ _ => rfl | exact renM_ent rfl _ | refine And.intro ?_ ?_)
theorem mapM_ent (σ : Nat → Nat) (l : List (List UInt8 × Int × Nat)) (h : σ 1 = 1) : mapM σ (entL 1 l) = entL 1 l := by
  induction l with
  | nil => rfl
  | cons e l ih => simp [entL, mapM, ent, mapL, mapV, h, ih]
theorem mapB_ks (c : CSt) (N : Nat) : mapB (sig [0, 1, 2] N) (c.ks 0) = c.ks 0 := by
  show [_, _, KB.map [EK.str, EK.int IntKind.u16] true false (mapM (sig [0, 1, 2] N) (entL 1 c.m))] = _
  rw [mapM_ent _ _ rfl]
  rfl
/-- The cache among other blocks. -/
theorem cks {P : Program} {f : FuncId} {al : List SV} {c : CSt} {R : SV → List KB → Prop} (h : COk P f al (c.ks 0) R) (rest : List KB) (ha : ∀ N, mapL (sig [0, 1, 2] N) al = al) (hR : ∀ s k, R s k → (∃ c' : CSt, k = c'.ks 0) ∧ ∀ N, mapV (sig [0, 1, 2] N) s = s) :
    COk P f al (c.ks 0 ++ rest) (fun s k => ∃ c' : CSt, k = c'.ks 0 ++ rest ∧ R s (c'.ks 0)) := by
  refine h.frame [0, 1, 2] ?_ (ha _) ?_ (fun s0 k0 h0 => ?_)
  · rw [lenB_eq]
    show okN (rest.length + 3) [0, 1, 2] = true
    have : ∀ n i, i ≤ 2 → Nat.ble (i + 1) (n + 3) = true := fun n i hi => Nat.ble_eq_true_of_le (by omega)
    simp only [okN, memN, this _ 0 (by omega), this _ 1 (by omega), this _ 2 (by omega)]
  · rw [mapB_ks]; rfl
  · obtain ⟨⟨c', rfl⟩, hs⟩ := hR s0 k0 h0
    rw [hs, mapB_ks]
    refine ⟨c', ?_, h0⟩
    unfold putBs
    rw [appB_eq, dropB_eq]
    show _ ++ [] = _
    rw [List.append_nil]
    rfl
theorem hold_ks {c : CSt} {x : Th} {ttl now : Int} (s : SV) (k : List KB) (h : HoldR c x ttl now s k) : (∃ c' : CSt, k = c'.ks 0) ∧ ∀ N, mapV (sig [0, 1, 2] N) s = s := by
  rcases h with ⟨rfl, rfl, _⟩ | ⟨rfl, _, _, _, _, c', _, rfl, _⟩
  · exact ⟨⟨c, rfl⟩, fun _ => rfl⟩
  · exact ⟨⟨c', rfl⟩, fun _ => rfl⟩
theorem get_ks {c : CSt} {o : Option Th} {now : Int} (s : SV) (k : List KB) (h : GetR c o now s k) : (∃ c' : CSt, k = c'.ks 0) ∧ ∀ N, mapV (sig [0, 1, 2] N) s = s := by
  obtain ⟨rfl, f, g, rfl, _⟩ := h
  exact ⟨⟨_, rfl⟩, fun _ => by cases o <;> rfl⟩
def okPut (nm : List UInt8) (ty ttl : Int) (l : List (List UInt8)) (k : Int) : Bool := scheck nm ty ttl l && (ty != 0 && decide (1 ≤ k ∧ k ≤ 4))
def mn (a b : Int) : Int := if b < a then b else a
def PutR (c : CSt) (nm : List UInt8) (ty ttl : Int) (b : Bool) (l : List (List UInt8)) (k now : Int) (s : SV) (ks : List KB) : Prop :=
  (okPut nm ty ttl l k = false ∧ s = .d .ff ∧ ks = c.ks 0) ∨ (okPut nm ty ttl l k = true ∧ HoldR c ⟨nm, ty, ttl, b, l.length, strs l, k, false, false, now + mn ttl 604800⟩ (mn ttl 604800) now s ks)
set_option maxHeartbeats 8000000 in
theorem put_ok (c : CSt) (hw : c.Wf) (nm : List UInt8) (ty ttl : Int) (b : Bool) (l : List (List UInt8)) (k now : Int) (hb : b = true → l.length = 0) (httl : 0 ≤ ttl) :
    COk Try.prog 14 [.ptr 0 0, setV nm ty ttl b l, .d (.int .u8 k), .d (.int .i64 now)] (c.ks 0) (PutR c nm ty ttl b l k now) := by
  refine cOk_of_run (TT := TT) (IN := lookI []) TT_ok INok_nil mixed 1000 Try.func14 rfl (enters Try.func14 (by kernel_rfl) rfl) 30 (by kernel_rfl) ?_
  conv => whnf
  refine .one (.data _ (scheck_ok nm ty ttl b l) rfl rfl ?_)
  conv => whnf
  have hbad : okPut nm ty ttl l k = false → PutR c nm ty ttl b l k now (.d .ff) (c.ks 0) := fun h => .inl ⟨h, rfl, rfl⟩
  refine ⟨fun h1 => ?_, fun h1 => ?_⟩
  · have hk : okPut nm ty ttl l k = false := by
      cases hs : scheck nm ty ttl l
      · simp [okPut, hs]
      · rw [hs] at h1; cases h1
    conv => whnf
    refine ⟨[0, 1, 2], .d .ff, c.ks 0, rfl, rfl, rfl, ?_, hbad hk⟩
    repeat' (first | exact True.intro | exact rfl | exact fun _ => Iff.rfl | exact fun _ _ => rfl | exact renM_ent rfl _ | refine And.intro ?_ ?_)
  have hs : scheck nm ty ttl l = true := by
    cases hs : scheck nm ty ttl l
    · rw [hs] at h1; cases h1
    · rfl
  conv => whnf
  refine ⟨fun h2 => ?_, fun h2 => ?_⟩
  · have hk : okPut nm ty ttl l k = false := by
      have : ty = 0 := by simpa using h2
      simp [okPut, this]
    conv => whnf
    refine ⟨[0, 1, 2], .d .ff, c.ks 0, rfl, rfl, rfl, ?_, hbad hk⟩
    repeat' (first | exact True.intro | exact rfl | exact fun _ => Iff.rfl | exact fun _ _ => rfl | exact renM_ent rfl _ | refine And.intro ?_ ?_)
  conv => whnf
  refine ⟨fun h3 => ?_, fun h3 => ?_⟩
  · have hk : okPut nm ty ttl l k = false := by
      have : k < 1 := by simpa using h3
      have : ¬ 1 ≤ k := by omega
      simp [okPut, this]
    conv => whnf
    refine ⟨[0, 1, 2], .d .ff, c.ks 0, rfl, rfl, rfl, ?_, hbad hk⟩
    repeat' (first | exact True.intro | exact rfl | exact fun _ => Iff.rfl | exact fun _ _ => rfl | exact renM_ent rfl _ | refine And.intro ?_ ?_)
  conv => whnf
  refine ⟨fun h4 => ?_, fun h4 => ?_⟩
  · have hk : okPut nm ty ttl l k = false := by
      have : k > 4 := by simpa using h4
      have : ¬ k ≤ 4 := by omega
      simp [okPut, this]
    conv => whnf
    refine ⟨[0, 1, 2], .d .ff, c.ks 0, rfl, rfl, rfl, ?_, hbad hk⟩
    repeat' (first | exact True.intro | exact rfl | exact fun _ => Iff.rfl | exact fun _ _ => rfl | exact renM_ent rfl _ | refine And.intro ?_ ?_)
  have hk : okPut nm ty ttl l k = true := by
    have a2 : ¬ ty = 0 := by simpa using h2
    have a3 : ¬ k < 1 := by simpa using h3
    have a4 : ¬ k > 4 := by simpa using h4
    simp [okPut, hs, a2]
    omega
  have hsc := hs
  simp only [scheck, Bool.and_eq_true, decide_eq_true_eq] at hsc
  have hnm : nm.length < 9223372036854775808 := by
    have := hsc.1.1.1.2.1
    omega
  conv => whnf
  refine .rel _ (cks ((hold_ok c hw nm ty ttl b l.length (strs l) k false false (mn ttl 604800) now hb (by omega) hnm (by unfold mn; split <;> omega)).convA (args' := [.ptr 0 0, .agg [.d (.str nm), .d (.int .u16 ty), .d (.int .u32 ttl), .d (.sl b l.length 1 (strs l)), .d (.int .u8 k), .d .ff, .d .ff], .d (.int .u32 (mn ttl 604800)), .d (.int .i64 now)]) ⟨.refl _, .aggL ⟨.refl _, .refl _, .refl _, .refl _, .refl _, .d .fb, .d .fb, True.intro⟩, .refl _, .refl _, True.intro⟩) _ (fun _ => rfl) hold_ks) (fun r ks' hR => ?_)
  obtain ⟨c', rfl, hR⟩ := hR
  conv => whnf
  refine ⟨[0, 1, 2], r, c'.ks 0, rfl, rfl, ?_, ?_, .inr ⟨hk, hR⟩⟩
  · rcases hR with ⟨rfl, _⟩ | ⟨rfl, _⟩ <;> exact rfl
  · repeat' (first | exact True.intro | exact rfl | exact fun _ => Iff.rfl | exact fun _ _ => rfl | exact renM_ent rfl _ | refine And.intro ?_ ?_)
end Go.Proofs.Ytdphkaiijlekhaa
