/-
  CacheLonger returns true. Conditions: lengths and ranges of numbers, as a reading gives them.
-/
import Derived.Test.YtdphkaiijlekhaaBetter
namespace Go.Proofs.Ytdphkaiijlekhaa
open Go Go.Eng
/-- A call. -/
structure Act where
  kind : Int
  nm : List UInt8
  ty : Int
  ttl : Int
  b : Bool
  l : List (List UInt8)
  aty : Int
  rank : Int
  all : Bool
  attl : Int
  now : Int
deriving Inhabited
def Act.enc (a : Act) : List DV := [.int .i64 a.kind, .str a.nm, .int .u16 a.ty, .int .u32 a.ttl, .sl a.b a.l.length 1 (strs a.l), .int .u16 a.aty, .int .u8 a.rank, .bool a.all, .int .u32 a.attl, .int .i64 a.now]
structure Act.Ok (a : Act) : Prop where
  hb : a.b = true → a.l.length = 0
  httl : 0 ≤ a.ttl ∧ a.ttl ≤ 4294967295
  hattl : 0 ≤ a.attl ∧ a.attl ≤ 4294967295
  hrank : 0 ≤ a.rank ∧ a.rank ≤ 255
/-- What holds of what is held, at a time; nothing lives longer than `most`. -/
structure Inv (abs : List (List UInt8 × Int × Th)) (now most : Int) : Prop where
  h : ∀ e ∈ abs, e.2.2.til ≤ most ∧ e.2.2.til ≤ now + 604800 ∧ e.2.2.ty = e.2.1 ∧ (e.2.2.nb = true ↔ e.2.1 = 0) ∧ 0 ≤ e.2.2.rk
theorem Inv.later {abs : List (List UInt8 × Int × Th)} {now now' most most' : Int} (h : Inv abs now most) (h1 : now ≤ now') (h2 : most ≤ most') : Inv abs now' most' :=
  ⟨fun e he => by obtain ⟨a, b, c⟩ := h.h e he; exact ⟨by omega, by omega, c⟩⟩
theorem Inv.hold {abs abs' : List (List UInt8 × Int × Th)} {now most most' : Int} {ok done : Bool} {x : Th} {ttl : Int} (h : Inv abs now most) (hm : most ≤ most') (hA : HoldA abs abs' ok x ttl now done)
    (hx : done = true → x.til ≤ most' ∧ x.til ≤ now + 604800 ∧ (x.nb = true ↔ x.ty = 0) ∧ 0 ≤ x.rk) : Inv abs' now most' := by
  rcases hA with ⟨_, rfl, _⟩ | ⟨hd, _, _, _, _, _, l', hl', rfl⟩
  · exact h.later (Int.le_refl _) hm
  · obtain ⟨h1, h2, h3, h4⟩ := hx hd
    refine ⟨fun e he => ?_⟩
    rcases put_mem he with rfl | he
    · exact ⟨h1, h2, rfl, h3, h4⟩
    · refine (h.later (Int.le_refl _) hm).h e ?_
      rcases hl' with rfl | ⟨a, t, rfl⟩
      · exact he
      · exact del_mem he
theorem Inv.get {abs : List (List UInt8 × Int × Th)} {now most : Int} (h : Inv abs now most) {nm : List UInt8} {t least now' : Int} {y : Th} (hg : getT' abs nm t least now' = some y) :
    ∃ k, (k = t ∨ k = 0) ∧ fnd abs (fold nm) k = some y ∧ y.til ≤ most ∧ y.til ≤ now + 604800 ∧ y.ty = k ∧ (y.nb = true ↔ k = 0) ∧ now' < y.til ∧ least ≤ y.rk ∧ 0 ≤ y.rk := by
  have key : ∀ k, pickT abs (fold nm) k least now' = some y → fnd abs (fold nm) k = some y ∧ y.til ≤ most ∧ y.til ≤ now + 604800 ∧ y.ty = k ∧ (y.nb = true ↔ k = 0) ∧ now' < y.til ∧ least ≤ y.rk ∧ 0 ≤ y.rk := fun k hk => by
    unfold pickT at hk
    split at hk
    · cases hk
    · rename_i z hz
      split at hk
      · rename_i hc
        cases hk
        obtain ⟨a, b, c, d, e⟩ := h.h _ (fnd_mem hz)
        exact ⟨hz, a, b, c, d, hc.1, hc.2, e⟩
      · cases hk
  unfold getT' at hg
  split at hg
  · rename_i z hz
    cases hg
    exact ⟨t, .inl rfl, key t hz⟩
  · exact ⟨0, .inr rfl, key 0 hg⟩
def ttlOf (y : Th) (now : Int) : Int := if 604800 < y.til - now then 604800 else y.til - now
/-- The law's end. -/
theorem law_end {abs : List (List UInt8 × Int × Th)} {now most : Int} (h : Inv abs now most) {nm : List UInt8} {t : Int} {y : Th} (hg : getT' abs nm t 0 now = some y) (after : Int) (ha : 0 ≤ after) :
    now + ttlOf y now = y.til ∧ getT' abs nm t y.rk (now + ttlOf y now - 1) = some y ∧ (y.ty = 0 → getT' abs nm y.ty y.rk (now + ttlOf y now + after) = none) ∧
    ∀ z, getT' abs nm t 0 (now + ttlOf y now + after) = some z → z.nb = true ∧ y.nb = false := by
  obtain ⟨k, hk, hf, h1, h2, h3, h4, h5, h6, h7⟩ := h.get hg
  have e : now + ttlOf y now = y.til := by unfold ttlOf; split <;> omega
  rw [e]
  have hp : ∀ k' l' n', pickT abs (fold nm) k' l' n' = match fnd abs (fold nm) k' with | none => none | some z => if n' < z.til ∧ l' ≤ z.rk then some z else none := fun _ _ _ => rfl
  refine ⟨rfl, ?_, fun hy => ?_, fun z hz => ?_⟩
  · unfold getT' at hg ⊢
    split at hg
    · rename_i z hz
      cases hg
      have : pickT abs (fold nm) t y.rk (y.til - 1) = some y := by
        rw [hp] at hz ⊢
        rcases hw : fnd abs (fold nm) t with _ | w <;> rw [hw] at hz
        · cases hz
        · simp only at hz ⊢
          split at hz
          · cases hz
            rw [if_pos ⟨by omega, Int.le_refl _⟩]
          · cases hz
      rw [this]
    · rename_i hz
      have : pickT abs (fold nm) t y.rk (y.til - 1) = none := by
        rw [hp] at hz ⊢
        rcases hw : fnd abs (fold nm) t with _ | w
        · simp only
        · rw [hw] at hz
          simp only at hz ⊢
          split at hz
          · cases hz
          · rename_i hc
            obtain ⟨_, _, _, _, b5⟩ := h.h _ (fnd_mem hw)
            have b5 : 0 ≤ w.rk := b5
            rw [if_neg (fun q => hc ⟨by omega, b5⟩)]
      rw [this]
      simp only
      rw [hp] at hg ⊢
      rcases hw : fnd abs (fold nm) 0 with _ | w <;> rw [hw] at hg
      · cases hg
      · simp only at hg ⊢
        split at hg
        · cases hg
          rw [if_pos ⟨by omega, Int.le_refl _⟩]
        · cases hg
  · have hk0 : k = 0 := by omega
    subst hk0
    rw [hy]
    have : pickT abs (fold nm) 0 y.rk (y.til + after) = none := by
      rw [hp, hf]
      simp only
      rw [if_neg (fun q => by omega)]
    unfold getT'
    rw [this]
  · obtain ⟨k2, hk2, hf2, _, _, c3, c4, c5, _, _⟩ := h.get hz
    by_cases hkk : k2 = k
    · subst hkk
      rw [hf] at hf2
      cases hf2
      omega
    · rcases hk with rfl | rfl
      · have : k2 = 0 := by omega
        subst this
        refine ⟨c4.2 rfl, ?_⟩
        cases hnb : y.nb
        · rfl
        · exact absurd (h4.1 hnb).symm hkk
      · have hk2 : k2 = t := by omega
        subst hk2
        -- what was found at its own type lives later, and so now
        exfalso
        unfold getT' at hg
        have : pickT abs (fold nm) k2 0 now = some z := by
          rw [hp, hf2]
          simp only
          rw [if_pos ⟨by omega, by omega⟩]
        rw [this] at hg
        cases hg
        exact hkk (by rw [← c3, h3])
def actsD (b : Bool) (l : List Act) : DV := .sl b l.length 10 (fun i => (l.getD i default).enc)
def CSt.kl (c : CSt) : List (Nat × KB) := [(0, .cells 100 [.d (.int .i64 c.room), .np 1 c.r, .map 2]), (1, .arena 108 c.dom (c.cols 1)), (2, .map [EK.str, EK.int .u16] true false (entL 1 c.m))]
structure RSt where
  i : Nat
  now : Int
  most : Int
  c : CSt
set_option maxRecDepth 100000
set_option maxHeartbeats 16000000 in
theorem longer_ok (room : Int) (lb : Bool) (l : List Act) (nm : List UInt8) (t after : Int) (hl : ∀ a ∈ l, a.Ok) (hnm : nm.length < 9223372036854775808) (ha : 0 ≤ after ∧ after ≤ 65535) :
    FnOk Try.prog 3 [.d (.int .i64 room), .d (actsD lb l), .d (.str nm), .d (.int .u16 t), .d (.int .u16 after)] (.d (.bool true)) := by
  refine fnOk_of_run (TT := TT) (IN := lookI [(13, Try.f13, 1)]) TT_ok (INok_cons INok_nil Try.func13 (by kernel_rfl) (by kernel_rfl)) mixed 1000 Try.func3 rfl (enters Try.func3 (by kernel_rfl) rfl) rfl 232 (by kernel_rfl) ?_
  conv => whnf
  refine .one (.data _ lives_ok rfl rfl ?_)
  conv => whnf
  refine .rel _ (new_ok room) (fun r ks' hR => ?_)
  rcases hR with ⟨h, rfl, rfl⟩ | ⟨_, rfl, c, rfl, hw, hroom, habs⟩
  · conv => whnf
    repeat (first | exact rfl | (refine brT rfl ?_; conv => whnf) | (refine brF rfl ?_; conv => whnf))
  conv => whnf
  refine brF rfl ?_
  conv => whnf
  refine ⟨fun g1 => ?_, fun g1 => ?_⟩
  · conv => whnf
    exact rfl
  have b1 : l.length ≤ 60 := by have : ¬ (l.length : Int) > 60 := by simpa using g1
                                omega
  conv => whnf
  refine .inv RSt (fun s => s.i ≤ l.length ∧ s.c.Wf ∧ 0 ≤ s.now ∧ s.now ≤ 1099511627776 ∧ Inv s.c.abs s.now s.most) (fun s => [(13, .d (.int .i64 s.now)), (14, .d (.int .i64 s.most)), (54, .d (.int .i64 s.i))]) (fun s => s.c.kl) (fun s => l.length - s.i) ⟨⟨0, 0, 0, c⟩, [0, 1, 2], ⟨Nat.zero_le _, hw, Int.le_refl _, by show (0:Int) ≤ _; omega, ⟨fun e he => ?_⟩⟩, ?_⟩ ?_
  · rw [habs] at he; cases he
  · conv => whnf
    repeat' (first | exact True.intro | exact rfl | exact fun _ => Iff.rfl | exact fun _ _ => rfl | exact renM_ent rfl _ | refine And.intro ?_ ?_)
  clear hw hroom habs
  intro s hs
  obtain ⟨hi, hw, hn0, hn1, hI⟩ := hs
  conv => whnf
  generalize s.i = i at hi ⊢
  generalize s.now = now at hn0 hn1 hI ⊢
  generalize s.most = most at hI ⊢
  generalize s.c = c at hw hI ⊢
  refine ⟨fun hlt => ?_, fun hge => ?_⟩
  · have hlt' : i < l.length := by simpa using hlt
    obtain ⟨a, hga⟩ : ∃ a, l.getD i default = a := ⟨_, rfl⟩
    have hmem : a ∈ l := by rw [← hga, List.getD, List.getElem?_eq_getElem hlt']; exact List.getElem_mem _
    have hok := hl a hmem
    have hrow : l.getD (Int.toNat (i : Int)) default = a := by rw [Int.toNat_natCast, hga]
    have hi1 : IntKind.i64.wrap ((i : Int) + 1) = ((i + 1 : Nat) : Int) := by rw [w64_in _ (by omega)]; omega
    conv => whnf
    refine ⟨⟨by omega, by simpa using hlt⟩, ?_⟩
    conv => whnf
    rw [hrow]
    refine ⟨fun c1 => ?_, fun c1 => ?_⟩
    rotate_left
    · conv => whnf
      refine ⟨⟨i + 1, now, most, c⟩, [0, 1, 2], ⟨by show i + 1 ≤ l.length; omega, hw, hn0, hn1, hI⟩, by show l.length - (i + 1) < l.length - i; omega, ?_⟩
      conv => whnf
      rw [hi1]
      repeat' (first | exact True.intro | exact rfl | exact fun _ => Iff.rfl | exact fun _ _ => rfl | exact renM_ent rfl _ | refine And.intro ?_ ?_)
    conv => whnf
    refine ⟨fun c2 => ?_, fun c2 => ?_⟩
    · conv => whnf
      refine ⟨⟨i + 1, now, most, c⟩, [0, 1, 2], ⟨by show i + 1 ≤ l.length; omega, hw, hn0, hn1, hI⟩, by show l.length - (i + 1) < l.length - i; omega, ?_⟩
      conv => whnf
      rw [hi1]
      repeat' (first | exact True.intro | exact rfl | exact fun _ => Iff.rfl | exact fun _ _ => rfl | exact renM_ent rfl _ | refine And.intro ?_ ?_)
    conv => whnf
    refine ⟨fun c3 => ?_, fun c3 => ?_⟩
    · conv => whnf
      refine ⟨⟨i + 1, now, most, c⟩, [0, 1, 2], ⟨by show i + 1 ≤ l.length; omega, hw, hn0, hn1, hI⟩, by show l.length - (i + 1) < l.length - i; omega, ?_⟩
      conv => whnf
      rw [hi1]
      repeat' (first | exact True.intro | exact rfl | exact fun _ => Iff.rfl | exact fun _ _ => rfl | exact renM_ent rfl _ | refine And.intro ?_ ?_)
    conv => whnf
    refine ⟨fun c4 => ?_, fun c4 => ?_⟩
    · conv => whnf
      refine ⟨⟨i + 1, now, most, c⟩, [0, 1, 2], ⟨by show i + 1 ≤ l.length; omega, hw, hn0, hn1, hI⟩, by show l.length - (i + 1) < l.length - i; omega, ?_⟩
      conv => whnf
      rw [hi1]
      repeat' (first | exact True.intro | exact rfl | exact fun _ => Iff.rfl | exact fun _ _ => rfl | exact renM_ent rfl _ | refine And.intro ?_ ?_)
    have d1 : (a.l.length : Int) ≤ 100 := by simpa using c1
    have d2 : (a.nm.length : Int) ≤ 1000 := by simpa using c2
    have d3 : ¬ a.now < now := of_decide_eq_false c3
    have d4 : ¬ a.now > 1099511627776 := of_decide_eq_false c4
    have hI1 : Inv c.abs a.now most := hI.later (by omega) (Int.le_refl _)
    have hwt : IntKind.i64.wrap (a.now + IntKind.i64.wrap a.ttl) = a.now + a.ttl := by rw [w64_in a.ttl (by have := hok.httl; omega), w64_in _ (by have := hok.httl; omega)]
    have hwt' : IntKind.i64.wrap (a.now + IntKind.i64.wrap a.attl) = a.now + a.attl := by rw [w64_in a.attl (by have := hok.hattl; omega), w64_in _ (by have := hok.hattl; omega)]
    conv => whnf
    refine ⟨fun k0 => ?_, fun k0 => ?_⟩
    · conv => whnf
      refine .rel _ (ckp (put_q c hw a.nm a.ty a.ttl a.b a.l a.rank a.now hok.hb hok.httl.1) [] [_, _] _ rfl rfl) (fun r ks' hR => ?_)
      obtain ⟨_, c1, ⟨done, rfl, hw1, hr1, hA⟩, rfl, rfl⟩ := hR
      cases done
      · have hI2 : Inv c1.abs a.now most := hI1.hold (Int.le_refl _) hA (fun e => by cases e)
        conv => whnf
        refine ⟨⟨i + 1, a.now, most, c1⟩, [0, 1, 2], ⟨by show i + 1 ≤ l.length; omega, hw1, by show 0 ≤ a.now; omega, by show a.now ≤ 1099511627776; omega, hI2⟩, by show l.length - (i + 1) < l.length - i; omega, ?_⟩
        conv => whnf
        rw [hi1]
        repeat' (first | exact True.intro | exact rfl | exact fun _ => Iff.rfl | exact fun _ _ => rfl | exact renM_ent rfl _ | refine And.intro ?_ ?_)
      · have hI2 : Inv c1.abs a.now (if a.now + a.ttl > most then a.now + a.ttl else most) := hI1.hold (by split <;> omega) hA (fun _ => by
          have h1 : mn a.ttl 604800 ≤ a.ttl := by unfold mn; split <;> omega
          have h2 : mn a.ttl 604800 ≤ 604800 := by unfold mn; split <;> omega
          have hty : a.ty ≠ 0 := by
            rcases hA with ⟨e, _⟩ | ⟨_, hok2, _⟩
            · cases e
            · simp only [okPut, Bool.and_eq_true, bne_iff_ne] at hok2
              exact hok2.2.1
          refine ⟨?_, ?_, ?_, hok.hrank.1⟩
          · show a.now + mn a.ttl 604800 ≤ _
            split <;> omega
          · show a.now + mn a.ttl 604800 ≤ _
            omega
          · show false = true ↔ a.ty = 0
            simp [hty])
        conv => whnf
        rw [hwt]
        refine ⟨⟨i + 1, a.now, (if a.now + a.ttl > most then a.now + a.ttl else most), c1⟩, [0, 1, 2], ⟨by show i + 1 ≤ l.length; omega, hw1, by show 0 ≤ a.now; omega, by show a.now ≤ 1099511627776; omega, hI2⟩, by show l.length - (i + 1) < l.length - i; omega, ?_⟩
        conv => whnf
        rw [hi1]
        repeat' (first | exact True.intro | exact rfl | exact fun _ => Iff.rfl | exact fun _ _ => rfl | exact renM_ent rfl _ | refine And.intro ?_ ?_)
    conv => whnf
    refine ⟨fun k1 => ?_, fun k1 => ?_⟩
    · conv => whnf
      refine .rel _ (ckp (none_q c hw a.nm a.aty a.all a.attl a.now hok.hattl.1) [] [_, _] _ rfl rfl) (fun r ks' hR => ?_)
      obtain ⟨_, c1, ⟨done, rfl, hw1, hr1, hA⟩, rfl, rfl⟩ := hR
      cases done
      · have hI2 : Inv c1.abs a.now most := hI1.hold (Int.le_refl _) hA (fun e => by cases e)
        conv => whnf
        refine ⟨⟨i + 1, a.now, most, c1⟩, [0, 1, 2], ⟨by show i + 1 ≤ l.length; omega, hw1, by show 0 ≤ a.now; omega, by show a.now ≤ 1099511627776; omega, hI2⟩, by show l.length - (i + 1) < l.length - i; omega, ?_⟩
        conv => whnf
        rw [hi1]
        repeat' (first | exact True.intro | exact rfl | exact fun _ => Iff.rfl | exact fun _ _ => rfl | exact renM_ent rfl _ | refine And.intro ?_ ?_)
      · have hI2 : Inv c1.abs a.now (if a.now + a.attl > most then a.now + a.attl else most) := hI1.hold (by split <;> omega) hA (fun _ => by
          have h1 : mn a.attl 10800 ≤ a.attl := by unfold mn; split <;> omega
          have h2 : mn a.attl 10800 ≤ 10800 := by unfold mn; split <;> omega
          refine ⟨?_, ?_, ?_, by show (0 : Int) ≤ 4; omega⟩
          · show a.now + mn a.attl 10800 ≤ _
            split <;> omega
          · show a.now + mn a.attl 10800 ≤ _
            omega
          · show a.all = true ↔ (if a.all then 0 else a.aty) = 0
            rcases hA with ⟨e, _⟩ | ⟨_, hok2, _⟩
            · cases e
            · simp only [okNone, Bool.and_eq_true, Bool.or_eq_true, bne_iff_ne] at hok2
              cases ha2 : a.all
              · rw [ha2] at hok2
                simpa using hok2.2
              · simp)
        conv => whnf
        rw [hwt']
        refine ⟨⟨i + 1, a.now, (if a.now + a.attl > most then a.now + a.attl else most), c1⟩, [0, 1, 2], ⟨by show i + 1 ≤ l.length; omega, hw1, by show 0 ≤ a.now; omega, by show a.now ≤ 1099511627776; omega, hI2⟩, by show l.length - (i + 1) < l.length - i; omega, ?_⟩
        conv => whnf
        rw [hi1]
        repeat' (first | exact True.intro | exact rfl | exact fun _ => Iff.rfl | exact fun _ _ => rfl | exact renM_ent rfl _ | refine And.intro ?_ ?_)
    conv => whnf
    refine ⟨fun k2 => ?_, fun k2 => ?_⟩
    · conv => whnf
      refine .rel _ (ckp (get_q c hw a.nm a.aty a.rank a.now (by omega) (by omega)) [] [_, _] _ rfl rfl) (fun r ks' hR => ?_)
      obtain ⟨_, c1, ⟨rfl, hw1, hr1, ha1⟩, rfl, rfl⟩ := hR
      have hI2 : Inv c1.abs a.now most := by rw [ha1]; exact hI1
      rw [mapV_get]
      rcases hG : getT' c.abs a.nm a.aty a.rank a.now with _ | y
      · conv => whnf
        refine ⟨⟨i + 1, a.now, most, c1⟩, [0, 1, 2], ⟨by show i + 1 ≤ l.length; omega, hw1, by show 0 ≤ a.now; omega, by show a.now ≤ 1099511627776; omega, hI2⟩, by show l.length - (i + 1) < l.length - i; omega, ?_⟩
        conv => whnf
        rw [hi1]
        repeat' (first | exact True.intro | exact rfl | exact fun _ => Iff.rfl | exact fun _ _ => rfl | exact renM_ent rfl _ | refine And.intro ?_ ?_)
      · obtain ⟨k, _, _, f1, f2, _, _, f5, f6, _⟩ := hI1.get hG
        have e1 : 1 ≤ ttlOf y a.now ∧ ttlOf y a.now ≤ 604800 ∧ a.now + ttlOf y a.now ≤ y.til := by unfold ttlOf; split <;> omega
        have e2 : IntKind.i64.wrap (a.now + IntKind.i64.wrap (if 604800 < y.til - a.now then 604800 else y.til - a.now)) = a.now + ttlOf y a.now := by
          show IntKind.i64.wrap (a.now + IntKind.i64.wrap (ttlOf y a.now)) = _
          rw [w64_in (ttlOf y a.now) (by omega), w64_in _ (by omega)]
        conv => whnf
        refine brF (decide_eq_false (by show ¬ ttlOf y a.now < 1; omega)) ?_
        conv => whnf
        rw [e2]
        refine brF (decide_eq_false (by show ¬ a.now + ttlOf y a.now > most; omega)) ?_
        conv => whnf
        refine brF (decide_eq_false (by show ¬ ttlOf y a.now > 604800; omega)) ?_
        conv => whnf
        refine brF (decide_eq_false (by show ¬ y.rk < a.rank; omega)) ?_
        conv => whnf
        refine ⟨⟨i + 1, a.now, most, c1⟩, [0, 1, 2], ⟨by show i + 1 ≤ l.length; omega, hw1, by show 0 ≤ a.now; omega, by show a.now ≤ 1099511627776; omega, hI2⟩, by show l.length - (i + 1) < l.length - i; omega, ?_⟩
        conv => whnf
        rw [hi1]
        repeat' (first | exact True.intro | exact rfl | exact fun _ => Iff.rfl | exact fun _ _ => rfl | exact renM_ent rfl _ | refine And.intro ?_ ?_)
    conv => whnf
    refine ⟨⟨i + 1, a.now, most, c⟩, [0, 1, 2], ⟨by show i + 1 ≤ l.length; omega, hw, by show 0 ≤ a.now; omega, by show a.now ≤ 1099511627776; omega, hI1⟩, by show l.length - (i + 1) < l.length - i; omega, ?_⟩
    conv => whnf
    rw [hi1]
    repeat' (first | exact True.intro | exact rfl | exact fun _ => Iff.rfl | exact fun _ _ => rfl | exact renM_ent rfl _ | refine And.intro ?_ ?_)
  · conv => whnf
    refine .rel _ (ckp (get_q c hw nm t 0 now hnm hn0) [] [] _ rfl rfl) (fun r ks' hR => ?_)
    obtain ⟨_, c1, ⟨rfl, hw1, hr1, ha1⟩, rfl, rfl⟩ := hR
    rw [mapV_get]
    rcases hG : getT' c.abs nm t 0 now with _ | y
    · conv => whnf
    · obtain ⟨k, _, _, f1, f2, _, _, f5, f6, f7⟩ := hI.get hG
      obtain ⟨g1, g2, g3, g4⟩ := law_end hI hG after ha.1
      rw [g1] at g2 g3 g4
      have q0 : IntKind.i64.wrap (now + IntKind.i64.wrap (if 604800 < y.til - now then 604800 else y.til - now)) = y.til := by
        show IntKind.i64.wrap (now + IntKind.i64.wrap (ttlOf y now)) = _
        have : 1 ≤ ttlOf y now ∧ ttlOf y now ≤ 604800 := by unfold ttlOf; split <;> omega
        rw [w64_in (ttlOf y now) (by omega), w64_in _ (by omega), g1]
      have q1 : IntKind.i64.wrap (y.til - 1) = y.til - 1 := w64_in _ (by omega)
      have q2 : IntKind.i64.wrap (y.til + IntKind.i64.wrap after) = y.til + after := by rw [w64_in after (by omega), w64_in _ (by omega)]
      conv => whnf
      rw [q0, q1]
      refine .rel _ (ckp (get_q c1 hw1 nm t y.rk (y.til - 1) hnm (by omega)) [] [_] _ rfl rfl) (fun r ks' hR => ?_)
      obtain ⟨_, c2, ⟨rfl, hw2, hr2, ha2⟩, rfl, rfl⟩ := hR
      rw [mapV_get, ha1, g2]
      conv => whnf
      rw [q2]
      refine .rel _ (ckp (get_q c2 hw2 nm y.ty y.rk (y.til + after) hnm (by omega)) [] [_, _] _ rfl rfl) (fun r ks' hR => ?_)
      obtain ⟨_, c3, ⟨rfl, hw3, hr3, ha3⟩, rfl, rfl⟩ := hR
      rw [mapV_get, ha2, ha1]
      rcases hL : getT' c.abs nm y.ty y.rk (y.til + after) with _ | z
      · conv => whnf
        rw [q2]
        refine .rel _ (ckp (get_q c3 hw3 nm t 0 (y.til + after) hnm (by omega)) [] [_, _, _] _ rfl rfl) (fun r ks' hR => ?_)
        obtain ⟨_, c4, ⟨rfl, _, _, _⟩, rfl, rfl⟩ := hR
        rw [mapV_get, ha3, ha2, ha1]
        rcases hO : getT' c.abs nm t 0 (y.til + after) with _ | z
        · conv => whnf
        · obtain ⟨z1, z2⟩ := g4 z hO
          conv => whnf
          refine brT z1 ?_
          conv => whnf
          exact congrArg DV.bool (by rw [z2]; rfl)
      · have hy : y.ty ≠ 0 := fun e => by rw [g3 e] at hL; cases hL
        conv => whnf
        rw [q2]
        refine .rel _ (ckp (get_q c3 hw3 nm t 0 (y.til + after) hnm (by omega)) [] [_, _, _] _ rfl rfl) (fun r ks' hR => ?_)
        obtain ⟨_, c4, ⟨rfl, _, _, _⟩, rfl, rfl⟩ := hR
        rw [mapV_get, ha3, ha2, ha1]
        rcases hO : getT' c.abs nm t 0 (y.til + after) with _ | z
        · conv => whnf
          refine brT (by simpa using hy) ?_
          conv => whnf
        · obtain ⟨z1, z2⟩ := g4 z hO
          conv => whnf
          refine brT (by simpa using hy) ?_
          conv => whnf
          refine brT z1 ?_
          conv => whnf
          exact congrArg DV.bool (by rw [z2]; rfl)
end Go.Proofs.Ytdphkaiijlekhaa
