/-
  cache.Get, New, Len over known blocks. Conditions: lengths, ranges of numbers.
-/
import Derived.Test.YtdphkaiijlekhaaHold
namespace Go.Proofs.Ytdphkaiijlekhaa
open Go Go.Eng
def pickT (l : List (List UInt8 × Int × Th)) (key : List UInt8) (kind least now : Int) : Option Th := match fnd l key kind with
  | none => none
  | some y => if now < y.til ∧ least ≤ y.rk then some y else none
def getT' (l : List (List UInt8 × Int × Th)) (nm : List UInt8) (t least now : Int) : Option Th := match pickT l (fold nm) t least now with
  | some y => some y
  | none => pickT l (fold nm) 0 least now
def Th.found (y : Th) (now : Int) : List SV := [.d (.str y.nm), .d (.int .u16 y.ty), .d (.int .u32 (if 604800 < y.til - now then 604800 else y.til - now)), .d (.sl y.ni y.ln 1 y.dg), .d (.int .u8 y.rk), .d (.bool y.no), .d (.bool y.nb)]
def noFound : List SV := [.d (.str []), .d (.int .u16 0), .d (.int .u32 0), nilS, .d (.int .u8 0), .d .ff, .d .ff]
def getV (o : Option Th) (now : Int) : SV := match o with
  | some y => .tup [.agg (y.found now), .d .tt]
  | none => .tup [.agg noFound, .d .ff]
def GetR (c : CSt) (o : Option Th) (now : Int) (s : SV) (k : List KB) : Prop := s = getV o now ∧ ∃ f g, k = (c.ring f g).ks 0 ∧ (c.ring f g).Wf
theorem CSt.Wf.of {c : CSt} (hw : c.Wf) {a : List UInt8} {k : Int} {q : Nat} (h : fnd c.m a k = some q) : c.dom q ∧ (c.ni q = true → c.ln q = 0) ∧ c.ln q ≤ 100000 ∧ c.til q ≤ 9223372036854775807 := by
  obtain ⟨h1, _, _, h2, h3, h4⟩ := hw.hm _ (fnd_mem h)
  exact ⟨h1, h2, h3, h4⟩
def CSt.cutG (c : CSt) (q : Nat) : Nat → Nat := upd c.bh (c.bf q) (c.bh q)
def CSt.cutF (c : CSt) (q : Nat) : Nat → Nat := upd c.bf (c.cutG q q) (c.bf q)
def CSt.useG (c : CSt) (q : Nat) : Nat → Nat := upd (upd (c.cutG q) q (c.cutG q c.r)) (upd (c.cutF q) q c.r q) q
def CSt.useF (c : CSt) (q : Nat) : Nat → Nat := upd (upd (c.cutF q) q c.r) (c.useG q q) q
theorem CSt.Wf.use {c : CSt} (hw : c.Wf) {q : Nat} (hqd : c.dom q) : (c.ring (c.useF q) (c.useG q)).Wf := by
  refine hw.ring (fun n hn => ?_) (fun n hn => ?_)
  · unfold CSt.useF CSt.cutF
    repeat' (first | assumption | exact hw.hr | apply hw.hbf | apply hw.hbh | (refine upd_dom ?_ (fun _ => ?_)))
  · unfold CSt.useG CSt.cutG
    repeat' (first | assumption | exact hw.hr | apply hw.hbf | apply hw.hbh | (refine upd_dom ?_ (fun _ => ?_)))
set_option maxRecDepth 100000
set_option maxHeartbeats 8000000 in
theorem get_ok (c : CSt) (hw : c.Wf) (nm : List UInt8) (ty least now : Int) (hnm : nm.length < 9223372036854775808) (hn : 0 ≤ now) :
    COk Try.prog 16 [.ptr 0 0, .d (.str nm), .d (.int .u16 ty), .d (.int .u8 least), .d (.int .i64 now)] (c.ks 0) (GetR c (getT' c.abs nm ty least now) now) := by
  refine cOk_of_run (TT := TT) (IN := lookI [(54, Try.f54, 1), (57, Try.f57, 2), (107, Try.f107, 2), (108, Try.f108, 1)]) TT_ok (INok_cons (INok_cons (INok_cons (INok_cons INok_nil Try.func108 (by kernel_rfl) (by kernel_rfl)) Try.func107 (by kernel_rfl) (by kernel_rfl)) Try.func57 (by kernel_rfl) (by kernel_rfl)) Try.func54 (by kernel_rfl) (by kernel_rfl)) mixed 1000 Try.func16 rfl (enters Try.func16 (by kernel_rfl) rfl) 80 (by kernel_rfl) ?_
  have hr0 : c.r ≠ 0 := dom_ne hw.h0 hw.hr
  conv => whnf
  refine brF (by simp [hr0]) ?_
  conv => whnf
  refine brF (by simp; omega) ?_
  conv => whnf
  have hfa : ∀ k, fnd c.abs (fold nm) k = (fnd c.m (fold nm) k).map c.th := fun k => fnd_abs _ _ _ _
  refine .once ?_
  conv => whnf
  refine brT rfl ?_
  conv => whnf
  refine ⟨by decide, ?_⟩
  conv => whnf
  refine .data _ (placeOf_ok _ _ hnm) rfl rfl ?_
  conv => whnf
  refine ⟨_, (find_ent 1 c.m (fold nm) _), ?_⟩
  rcases hq : fnd c.m (fold nm) ty with _ | q
  · rw [show (fnd c.m (fold nm) (pickI [ty, 0] 0)) = none from hq]
    have hp1 : pickT c.abs (fold nm) ty least now = none := by simp [pickT, hfa ty, hq]
    clear hq
    conv => whnf
    refine .once ?_
    conv => whnf
    refine brT rfl ?_
    conv => whnf
    refine ⟨by decide, ?_⟩
    conv => whnf
    refine .data _ (placeOf_ok _ _ hnm) rfl rfl ?_
    conv => whnf
    refine ⟨_, (find_ent 1 c.m (fold nm) _), ?_⟩
    rcases hq : fnd c.m (fold nm) 0 with _ | q
    · rw [show (fnd c.m (fold nm) (pickI [ty, 0] (IntKind.i64.wrap (0 + 1)))) = none from hq]
      have hpk : getT' c.abs nm ty least now = none := by simp only [getT', hp1]; simp [pickT, hfa 0, hq]
      conv => whnf
      refine .once ?_
      conv => whnf
      refine brF rfl ?_
      conv => whnf
      refine ⟨[0, 1, 2], getV none now, (c.ring c.bf c.bh).ks 0, rfl, rfl, rfl, ?_, ⟨?_, _, _, rfl, hw.ring hw.hbf hw.hbh⟩⟩
      · repeat' (first | exact True.intro | exact rfl | exact fun _ => Iff.rfl | exact fun _ _ => rfl | exact renM_ent rfl _ | refine And.intro ?_ ?_)
      · exact congrArg (fun o => getV o now) hpk.symm
    · rw [show (fnd c.m (fold nm) (pickI [ty, 0] (IntKind.i64.wrap (0 + 1)))) = some q from hq]
      obtain ⟨hqd, hqn, hql, hqt⟩ := hw.of hq
      have hq0 := dom_ne hw.h0 hqd
      conv => whnf
      refine ⟨hqd, ?_⟩
      conv => whnf
      refine .one (.data _ (lives_gen _ _ _ _ _ _ _ _ _) rfl rfl ?_)
      conv => whnf
      refine ⟨fun h4 => ?_, fun h4 => ?_⟩
      · have hpk : getT' c.abs nm ty least now = none := by
          simp only [getT', hp1]
          simp only [pickT, hfa 0, hq, Option.map_some]
          rw [if_neg (fun e => by simp [show now < c.til q from e.1] at h4)]
        conv => whnf
        refine .once ?_
        conv => whnf
        refine brF rfl ?_
        conv => whnf
        refine ⟨[0, 1, 2], getV none now, (c.ring c.bf c.bh).ks 0, rfl, rfl, rfl, ?_, ⟨?_, _, _, rfl, hw.ring hw.hbf hw.hbh⟩⟩
        · repeat' (first | exact True.intro | exact rfl | exact fun _ => Iff.rfl | exact fun _ _ => rfl | exact renM_ent rfl _ | refine And.intro ?_ ?_)
        · exact congrArg (fun o => getV o now) hpk.symm
      · conv => whnf
        refine ⟨hqd, ?_⟩
        conv => whnf
        refine ⟨fun h5 => ?_, fun h5 => ?_⟩
        · have hpk : getT' c.abs nm ty least now = none := by
            simp only [getT', hp1]
            simp only [pickT, hfa 0, hq, Option.map_some]
            rw [if_neg (fun e => by have := of_decide_eq_true h5; have := show least ≤ c.rk q from e.2; omega)]
          conv => whnf
          refine .once ?_
          conv => whnf
          refine brF rfl ?_
          conv => whnf
          refine ⟨[0, 1, 2], getV none now, (c.ring c.bf c.bh).ks 0, rfl, rfl, rfl, ?_, ⟨?_, _, _, rfl, hw.ring hw.hbf hw.hbh⟩⟩
          · repeat' (first | exact True.intro | exact rfl | exact fun _ => Iff.rfl | exact fun _ _ => rfl | exact renM_ent rfl _ | refine And.intro ?_ ?_)
          · exact congrArg (fun o => getV o now) hpk.symm
        conv => whnf
        have hpk : getT' c.abs nm ty least now = some (c.th q) := by
          simp only [getT', hp1]
          simp only [pickT, hfa 0, hq, Option.map_some]
          rw [if_pos ⟨show now < c.til q by simpa using h4, show least ≤ c.rk q by have := of_decide_eq_false h5; omega⟩]
        repeat (refine And.intro (by first | exact hr0 | exact hw.hr | exact hqd | exact hq0 | (repeat' (first | assumption | exact hw.hr | apply hw.hbf | apply hw.hbh | (refine upd_dom ?_ (fun _ => ?_)) | exact dom_ne hw.h0 (by repeat' (first | assumption | exact hw.hr | apply hw.hbf | apply hw.hbh | (refine upd_dom ?_ (fun _ => ?_))))))) ?_; conv => whnf)
        refine .one (.data _ (copied_gen _ _ _ _ _ _ _ _ _ _ hqn (by omega)) rfl rfl ?_)
        conv => whnf
        refine ⟨hqd, ?_⟩
        conv => whnf
        have h4' : now < c.til q := of_decide_eq_true (by simpa using h4)
        have hsub : IntKind.i64.wrap (c.til q - now) = c.til q - now := w64_in _ (by have : c.til q ≤ 9223372036854775807 := hqt; omega)
        have hu : IntKind.u32.wrap (if (604800 : Int) < IntKind.i64.wrap (c.til q - now) then 604800 else IntKind.i64.wrap (c.til q - now)) = if 604800 < c.til q - now then 604800 else c.til q - now := by
          rw [hsub, IntKind.wrap_u32]
          split <;> omega
        refine ⟨[0, 1, 2], getV (some (c.th q)) now, (c.ring (c.useF q) (c.useG q)).ks 0, rfl, rfl, ?_, ?_, ⟨?_, _, _, rfl, hw.use hqd⟩⟩
        · show SV.tup _ = SV.tup _
          rw [hu]
          rfl
        · repeat' (first | exact True.intro | exact rfl | exact fun _ => Iff.rfl | exact fun _ _ => rfl | exact renM_ent rfl _ | refine And.intro ?_ ?_)
        · exact congrArg (fun o => getV o now) hpk.symm
  · rw [show (fnd c.m (fold nm) (pickI [ty, 0] 0)) = some q from hq]
    obtain ⟨hqd, hqn, hql, hqt⟩ := hw.of hq
    have hq0 := dom_ne hw.h0 hqd
    conv => whnf
    refine ⟨hqd, ?_⟩
    conv => whnf
    refine .one (.data _ (lives_gen _ _ _ _ _ _ _ _ _) rfl rfl ?_)
    conv => whnf
    refine ⟨fun h4 => ?_, fun h4 => ?_⟩
    · have hp1 : pickT c.abs (fold nm) ty least now = none := by
        simp only [pickT, hfa ty, hq, Option.map_some]
        rw [if_neg (fun e => by simp [show now < c.til q from e.1] at h4)]
      clear hq hqd hqn hql hqt hq0 h4
      conv => whnf
      refine .once ?_
      conv => whnf
      refine brT rfl ?_
      conv => whnf
      refine ⟨by decide, ?_⟩
      conv => whnf
      refine .data _ (placeOf_ok _ _ hnm) rfl rfl ?_
      conv => whnf
      refine ⟨_, (find_ent 1 c.m (fold nm) _), ?_⟩
      rcases hq : fnd c.m (fold nm) 0 with _ | q
      · rw [show (fnd c.m (fold nm) (pickI [ty, 0] (IntKind.i64.wrap (0 + 1)))) = none from hq]
        have hpk : getT' c.abs nm ty least now = none := by simp only [getT', hp1]; simp [pickT, hfa 0, hq]
        conv => whnf
        refine .once ?_
        conv => whnf
        refine brF rfl ?_
        conv => whnf
        refine ⟨[0, 1, 2], getV none now, (c.ring c.bf c.bh).ks 0, rfl, rfl, rfl, ?_, ⟨?_, _, _, rfl, hw.ring hw.hbf hw.hbh⟩⟩
        · repeat' (first | exact True.intro | exact rfl | exact fun _ => Iff.rfl | exact fun _ _ => rfl | exact renM_ent rfl _ | refine And.intro ?_ ?_)
        · exact congrArg (fun o => getV o now) hpk.symm
      · rw [show (fnd c.m (fold nm) (pickI [ty, 0] (IntKind.i64.wrap (0 + 1)))) = some q from hq]
        obtain ⟨hqd, hqn, hql, hqt⟩ := hw.of hq
        have hq0 := dom_ne hw.h0 hqd
        conv => whnf
        refine ⟨hqd, ?_⟩
        conv => whnf
        refine .one (.data _ (lives_gen _ _ _ _ _ _ _ _ _) rfl rfl ?_)
        conv => whnf
        refine ⟨fun h4 => ?_, fun h4 => ?_⟩
        · have hpk : getT' c.abs nm ty least now = none := by
            simp only [getT', hp1]
            simp only [pickT, hfa 0, hq, Option.map_some]
            rw [if_neg (fun e => by simp [show now < c.til q from e.1] at h4)]
          conv => whnf
          refine .once ?_
          conv => whnf
          refine brF rfl ?_
          conv => whnf
          refine ⟨[0, 1, 2], getV none now, (c.ring c.bf c.bh).ks 0, rfl, rfl, rfl, ?_, ⟨?_, _, _, rfl, hw.ring hw.hbf hw.hbh⟩⟩
          · repeat' (first | exact True.intro | exact rfl | exact fun _ => Iff.rfl | exact fun _ _ => rfl | exact renM_ent rfl _ | refine And.intro ?_ ?_)
          · exact congrArg (fun o => getV o now) hpk.symm
        · conv => whnf
          refine ⟨hqd, ?_⟩
          conv => whnf
          refine ⟨fun h5 => ?_, fun h5 => ?_⟩
          · have hpk : getT' c.abs nm ty least now = none := by
              simp only [getT', hp1]
              simp only [pickT, hfa 0, hq, Option.map_some]
              rw [if_neg (fun e => by have := of_decide_eq_true h5; have := show least ≤ c.rk q from e.2; omega)]
            conv => whnf
            refine .once ?_
            conv => whnf
            refine brF rfl ?_
            conv => whnf
            refine ⟨[0, 1, 2], getV none now, (c.ring c.bf c.bh).ks 0, rfl, rfl, rfl, ?_, ⟨?_, _, _, rfl, hw.ring hw.hbf hw.hbh⟩⟩
            · repeat' (first | exact True.intro | exact rfl | exact fun _ => Iff.rfl | exact fun _ _ => rfl | exact renM_ent rfl _ | refine And.intro ?_ ?_)
            · exact congrArg (fun o => getV o now) hpk.symm
          conv => whnf
          have hpk : getT' c.abs nm ty least now = some (c.th q) := by
            simp only [getT', hp1]
            simp only [pickT, hfa 0, hq, Option.map_some]
            rw [if_pos ⟨show now < c.til q by simpa using h4, show least ≤ c.rk q by have := of_decide_eq_false h5; omega⟩]
          repeat (refine And.intro (by first | exact hr0 | exact hw.hr | exact hqd | exact hq0 | (repeat' (first | assumption | exact hw.hr | apply hw.hbf | apply hw.hbh | (refine upd_dom ?_ (fun _ => ?_)) | exact dom_ne hw.h0 (by repeat' (first | assumption | exact hw.hr | apply hw.hbf | apply hw.hbh | (refine upd_dom ?_ (fun _ => ?_))))))) ?_; conv => whnf)
          refine .one (.data _ (copied_gen _ _ _ _ _ _ _ _ _ _ hqn (by omega)) rfl rfl ?_)
          conv => whnf
          refine ⟨hqd, ?_⟩
          conv => whnf
          have h4' : now < c.til q := of_decide_eq_true (by simpa using h4)
          have hsub : IntKind.i64.wrap (c.til q - now) = c.til q - now := w64_in _ (by have : c.til q ≤ 9223372036854775807 := hqt; omega)
          have hu : IntKind.u32.wrap (if (604800 : Int) < IntKind.i64.wrap (c.til q - now) then 604800 else IntKind.i64.wrap (c.til q - now)) = if 604800 < c.til q - now then 604800 else c.til q - now := by
            rw [hsub, IntKind.wrap_u32]
            split <;> omega
          refine ⟨[0, 1, 2], getV (some (c.th q)) now, (c.ring (c.useF q) (c.useG q)).ks 0, rfl, rfl, ?_, ?_, ⟨?_, _, _, rfl, hw.use hqd⟩⟩
          · show SV.tup _ = SV.tup _
            rw [hu]
            rfl
          · repeat' (first | exact True.intro | exact rfl | exact fun _ => Iff.rfl | exact fun _ _ => rfl | exact renM_ent rfl _ | refine And.intro ?_ ?_)
          · exact congrArg (fun o => getV o now) hpk.symm
    · conv => whnf
      refine ⟨hqd, ?_⟩
      conv => whnf
      refine ⟨fun h5 => ?_, fun h5 => ?_⟩
      · have hp1 : pickT c.abs (fold nm) ty least now = none := by
          simp only [pickT, hfa ty, hq, Option.map_some]
          rw [if_neg (fun e => by have := of_decide_eq_true h5; have := show least ≤ c.rk q from e.2; omega)]
        clear hq hqd hqn hql hqt hq0 h4 h5
        conv => whnf
        refine .once ?_
        conv => whnf
        refine brT rfl ?_
        conv => whnf
        refine ⟨by decide, ?_⟩
        conv => whnf
        refine .data _ (placeOf_ok _ _ hnm) rfl rfl ?_
        conv => whnf
        refine ⟨_, (find_ent 1 c.m (fold nm) _), ?_⟩
        rcases hq : fnd c.m (fold nm) 0 with _ | q
        · rw [show (fnd c.m (fold nm) (pickI [ty, 0] (IntKind.i64.wrap (0 + 1)))) = none from hq]
          have hpk : getT' c.abs nm ty least now = none := by simp only [getT', hp1]; simp [pickT, hfa 0, hq]
          conv => whnf
          refine .once ?_
          conv => whnf
          refine brF rfl ?_
          conv => whnf
          refine ⟨[0, 1, 2], getV none now, (c.ring c.bf c.bh).ks 0, rfl, rfl, rfl, ?_, ⟨?_, _, _, rfl, hw.ring hw.hbf hw.hbh⟩⟩
          · repeat' (first | exact True.intro | exact rfl | exact fun _ => Iff.rfl | exact fun _ _ => rfl | exact renM_ent rfl _ | refine And.intro ?_ ?_)
          · exact congrArg (fun o => getV o now) hpk.symm
        · rw [show (fnd c.m (fold nm) (pickI [ty, 0] (IntKind.i64.wrap (0 + 1)))) = some q from hq]
          obtain ⟨hqd, hqn, hql, hqt⟩ := hw.of hq
          have hq0 := dom_ne hw.h0 hqd
          conv => whnf
          refine ⟨hqd, ?_⟩
          conv => whnf
          refine .one (.data _ (lives_gen _ _ _ _ _ _ _ _ _) rfl rfl ?_)
          conv => whnf
          refine ⟨fun h4 => ?_, fun h4 => ?_⟩
          · have hpk : getT' c.abs nm ty least now = none := by
              simp only [getT', hp1]
              simp only [pickT, hfa 0, hq, Option.map_some]
              rw [if_neg (fun e => by simp [show now < c.til q from e.1] at h4)]
            conv => whnf
            refine .once ?_
            conv => whnf
            refine brF rfl ?_
            conv => whnf
            refine ⟨[0, 1, 2], getV none now, (c.ring c.bf c.bh).ks 0, rfl, rfl, rfl, ?_, ⟨?_, _, _, rfl, hw.ring hw.hbf hw.hbh⟩⟩
            · repeat' (first | exact True.intro | exact rfl | exact fun _ => Iff.rfl | exact fun _ _ => rfl | exact renM_ent rfl _ | refine And.intro ?_ ?_)
            · exact congrArg (fun o => getV o now) hpk.symm
          · conv => whnf
            refine ⟨hqd, ?_⟩
            conv => whnf
            refine ⟨fun h5 => ?_, fun h5 => ?_⟩
            · have hpk : getT' c.abs nm ty least now = none := by
                simp only [getT', hp1]
                simp only [pickT, hfa 0, hq, Option.map_some]
                rw [if_neg (fun e => by have := of_decide_eq_true h5; have := show least ≤ c.rk q from e.2; omega)]
              conv => whnf
              refine .once ?_
              conv => whnf
              refine brF rfl ?_
              conv => whnf
              refine ⟨[0, 1, 2], getV none now, (c.ring c.bf c.bh).ks 0, rfl, rfl, rfl, ?_, ⟨?_, _, _, rfl, hw.ring hw.hbf hw.hbh⟩⟩
              · repeat' (first | exact True.intro | exact rfl | exact fun _ => Iff.rfl | exact fun _ _ => rfl | exact renM_ent rfl _ | refine And.intro ?_ ?_)
              · exact congrArg (fun o => getV o now) hpk.symm
            conv => whnf
            have hpk : getT' c.abs nm ty least now = some (c.th q) := by
              simp only [getT', hp1]
              simp only [pickT, hfa 0, hq, Option.map_some]
              rw [if_pos ⟨show now < c.til q by simpa using h4, show least ≤ c.rk q by have := of_decide_eq_false h5; omega⟩]
            repeat (refine And.intro (by first | exact hr0 | exact hw.hr | exact hqd | exact hq0 | (repeat' (first | assumption | exact hw.hr | apply hw.hbf | apply hw.hbh | (refine upd_dom ?_ (fun _ => ?_)) | exact dom_ne hw.h0 (by repeat' (first | assumption | exact hw.hr | apply hw.hbf | apply hw.hbh | (refine upd_dom ?_ (fun _ => ?_))))))) ?_; conv => whnf)
            refine .one (.data _ (copied_gen _ _ _ _ _ _ _ _ _ _ hqn (by omega)) rfl rfl ?_)
            conv => whnf
            refine ⟨hqd, ?_⟩
            conv => whnf
            have h4' : now < c.til q := of_decide_eq_true (by simpa using h4)
            have hsub : IntKind.i64.wrap (c.til q - now) = c.til q - now := w64_in _ (by have : c.til q ≤ 9223372036854775807 := hqt; omega)
            have hu : IntKind.u32.wrap (if (604800 : Int) < IntKind.i64.wrap (c.til q - now) then 604800 else IntKind.i64.wrap (c.til q - now)) = if 604800 < c.til q - now then 604800 else c.til q - now := by
              rw [hsub, IntKind.wrap_u32]
              split <;> omega
            refine ⟨[0, 1, 2], getV (some (c.th q)) now, (c.ring (c.useF q) (c.useG q)).ks 0, rfl, rfl, ?_, ?_, ⟨?_, _, _, rfl, hw.use hqd⟩⟩
            · show SV.tup _ = SV.tup _
              rw [hu]
              rfl
            · repeat' (first | exact True.intro | exact rfl | exact fun _ => Iff.rfl | exact fun _ _ => rfl | exact renM_ent rfl _ | refine And.intro ?_ ?_)
            · exact congrArg (fun o => getV o now) hpk.symm
      conv => whnf
      have hpk : getT' c.abs nm ty least now = some (c.th q) := by
        have : pickT c.abs (fold nm) ty least now = some (c.th q) := by
          simp only [pickT, hfa ty, hq, Option.map_some]
          rw [if_pos ⟨show now < c.til q by simpa using h4, show least ≤ c.rk q by have := of_decide_eq_false h5; omega⟩]
        simp only [getT', this]
      repeat (refine And.intro (by first | exact hr0 | exact hw.hr | exact hqd | exact hq0 | (repeat' (first | assumption | exact hw.hr | apply hw.hbf | apply hw.hbh | (refine upd_dom ?_ (fun _ => ?_)) | exact dom_ne hw.h0 (by repeat' (first | assumption | exact hw.hr | apply hw.hbf | apply hw.hbh | (refine upd_dom ?_ (fun _ => ?_))))))) ?_; conv => whnf)
      refine .one (.data _ (copied_gen _ _ _ _ _ _ _ _ _ _ hqn (by omega)) rfl rfl ?_)
      conv => whnf
      refine ⟨hqd, ?_⟩
      conv => whnf
      have h4' : now < c.til q := of_decide_eq_true (by simpa using h4)
      have hsub : IntKind.i64.wrap (c.til q - now) = c.til q - now := w64_in _ (by have : c.til q ≤ 9223372036854775807 := hqt; omega)
      have hu : IntKind.u32.wrap (if (604800 : Int) < IntKind.i64.wrap (c.til q - now) then 604800 else IntKind.i64.wrap (c.til q - now)) = if 604800 < c.til q - now then 604800 else c.til q - now := by
        rw [hsub, IntKind.wrap_u32]
        split <;> omega
      refine ⟨[0, 1, 2], getV (some (c.th q)) now, (c.ring (c.useF q) (c.useG q)).ks 0, rfl, rfl, ?_, ?_, ⟨?_, _, _, rfl, hw.use hqd⟩⟩
      · show SV.tup _ = SV.tup _
        rw [hu]
        rfl
      · repeat' (first | exact True.intro | exact rfl | exact fun _ => Iff.rfl | exact fun _ _ => rfl | exact renM_ent rfl _ | refine And.intro ?_ ?_)
      · exact congrArg (fun o => getV o now) hpk.symm
end Go.Proofs.Ytdphkaiijlekhaa
