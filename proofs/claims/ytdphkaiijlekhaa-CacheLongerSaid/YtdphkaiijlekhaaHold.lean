/-
  cache: hold, Get, Len over known blocks. Conditions: lengths, ranges of numbers.
-/
import Derived.Test.YtdphkaiijlekhaaCst
import Derived.Test.YtdphkaiijlekhaaEgE
namespace Go.Proofs.Ytdphkaiijlekhaa
open Go Go.Eng
theorem upd_dom {D : Nat → Prop} {f : Nat → Nat} {i v j : Nat} (hv : D v) (hf : j ≠ i → D (f j)) : D (upd f i v j) := by
  unfold upd
  split
  · exact hv
  · rename_i h; exact hf h
theorem dom_ne {D : Nat → Prop} {n : Nat} (h0 : ¬ D 0) (h : D n) : n ≠ 0 := fun e => h0 (e ▸ h)
/-- The same things, in another ring. -/
def CSt.ring (c : CSt) (f g : Nat → Nat) : CSt := { c with bf := f, bh := g }
theorem CSt.Wf.ring {c : CSt} (h : c.Wf) {f g : Nat → Nat} (hf : ∀ n, c.dom n → c.dom (f n)) (hg : ∀ n, c.dom n → c.dom (g n)) : (c.ring f g).Wf := ⟨h.h0, h.hr, hf, hg, h.hm⟩
theorem renM_ent {ρ : List Nat} {i p : Nat} (h : posN i ρ 0 = some p) (l : List (List UInt8 × Int × Nat)) : renM ρ (entL i l) = entL p l := by
  induction l with
  | nil => rfl
  | cons e l ih => simp [entL, renM, ent, renL, renV, h, ih]
/-- One thing more, known at its place; a link p of its own. -/
def CSt.add (c : CSt) (p : Nat) (x : Th) (f g : Nat → Nat) (m : List (List UInt8 × Int × Nat)) : CSt :=
  ⟨c.room, c.r, fun q => q = p ∨ c.dom q, upd c.nm p x.nm, upd c.ty p x.ty, upd c.ttl p x.ttl, upd c.ni p x.ni, upd c.ln p x.ln, upd c.dg p x.dg, upd c.rk p x.rk, upd c.no p x.no, upd c.nb p x.nb, upd c.til p x.til, upd c.an p (fold x.nm), upd c.ak p x.ty, f, g, put m (fold x.nm) x.ty p⟩
theorem ins_dom {D : Nat → Prop} {f g : Nat → Nat} {p r : Nat} (hrp : r ≠ p) (hr : D r) (hf : ∀ n, D n → D (f n)) (hg : ∀ n, D n → D (g n)) :
    (∀ m, (m = p ∨ D m) → (upd (upd (upd f p 0) p r) (upd (upd (upd g p 0) p (upd g p 0 r)) (upd (upd f p 0) p r p) p p) p m = p ∨ D (upd (upd (upd f p 0) p r) (upd (upd (upd g p 0) p (upd g p 0 r)) (upd (upd f p 0) p r p) p p) p m))) ∧
    (∀ m, (m = p ∨ D m) → (upd (upd (upd g p 0) p (upd g p 0 r)) (upd (upd f p 0) p r p) p m = p ∨ D (upd (upd (upd g p 0) p (upd g p 0 r)) (upd (upd f p 0) p r p) p m))) := by
  have e1 : upd (upd f p 0) p r p = r := upd_same _ _ _
  have e2 : upd g p 0 r = g r := upd_other _ _ hrp
  rw [e1, e2]
  have e3 : upd (upd (upd g p 0) p (g r)) r p p = g r := by rw [upd_other _ _ (Ne.symm hrp), upd_same]
  rw [e3]
  refine ⟨fun m hm => ?_, fun m hm => ?_⟩ <;> simp only [upd] <;> (repeat' split) <;> first
    | exact .inl rfl
    | exact .inr hr
    | exact .inr (hg _ hr)
    | exact .inr (hf _ (hm.resolve_left (by assumption)))
    | exact .inr (hg _ (hm.resolve_left (by assumption)))
theorem CSt.Wf.add {c : CSt} (h : c.Wf) {p : Nat} (hp0 : p ≠ 0) (hpd : ¬ c.dom p) (x : Th) {f g : Nat → Nat} {m : List (List UInt8 × Int × Nat)} (hx : (x.ni = true → x.ln = 0) ∧ x.ln ≤ 100000 ∧ x.til ≤ 9223372036854775807)
    (hf : ∀ m, (m = p ∨ c.dom m) → (f m = p ∨ c.dom (f m))) (hg : ∀ m, (m = p ∨ c.dom m) → (g m = p ∨ c.dom (g m))) (hm : ∀ e ∈ m, e ∈ c.m) : (c.add p x f g m).Wf := by
  refine ⟨?_, .inr h.hr, hf, hg, fun e he => ?_⟩
  · rintro (e | e)
    · exact hp0 e.symm
    · exact h.h0 e
  · show (e.2.2 = p ∨ c.dom e.2.2) ∧ upd c.an p (fold x.nm) e.2.2 = e.1 ∧ upd c.ak p x.ty e.2.2 = e.2.1 ∧ (upd c.ni p x.ni e.2.2 = true → upd c.ln p x.ln e.2.2 = 0) ∧ upd c.ln p x.ln e.2.2 ≤ 100000 ∧ upd c.til p x.til e.2.2 ≤ 9223372036854775807
    rcases put_mem he with rfl | he
    · simpa [upd_same] using hx
    · obtain ⟨h1, h2⟩ := h.hm e (hm e he)
      have hne : e.2.2 ≠ p := fun q => hpd (q ▸ h1)
      simp only [upd_other _ _ hne]
      exact ⟨.inr h1, h2⟩
theorem CSt.add_abs {c : CSt} (h : c.Wf) {p : Nat} (hpd : ¬ c.dom p) (x : Th) (f g : Nat → Nat) {m : List (List UInt8 × Int × Nat)} (hm : ∀ e ∈ m, e ∈ c.m) : (c.add p x f g m).abs = Go.Proofs.Ytdphkaiijlekhaa.put (absL c.th m) (fold x.nm) x.ty x := by
  show absL (c.add p x f g m).th (Go.Proofs.Ytdphkaiijlekhaa.put m (fold x.nm) x.ty p) = _
  rw [put_abs]
  have e1 : (c.add p x f g m).th p = x := by simp [CSt.th, CSt.add, upd_same]
  rw [e1]
  congr 1
  refine absL_congr fun e he => ?_
  have hne : e.2.2 ≠ p := fun q => hpd (q ▸ (h.hm e (hm e he)).1)
  simp [CSt.th, CSt.add, upd_other _ _ hne]
def HoldR (c : CSt) (x : Th) (ttl now : Int) (s : SV) (k : List KB) : Prop :=
  (s = .d .ff ∧ k = c.ks 0 ∧ (ttl = 0 ∨ now < 0 ∨ 4611686018427387904 < now ∨ ∃ y, fnd c.abs (fold x.nm) x.ty = some y ∧ now < y.til ∧ x.rk < y.rk)) ∨
  (s = .d .tt ∧ 0 ≤ now ∧ now ≤ 4611686018427387904 ∧ ttl ≠ 0 ∧ (∀ y, fnd c.abs (fold x.nm) x.ty = some y → ¬ (now < y.til ∧ x.rk < y.rk)) ∧
    ∃ (c' : CSt) (l' : List (List UInt8 × Int × Th)), k = c'.ks 0 ∧ c'.Wf ∧ c'.room = c.room ∧ (l' = c.abs ∨ ∃ a t, l' = del c.abs a t) ∧ c'.abs = put l' (fold x.nm) x.ty x)
set_option maxRecDepth 100000
set_option maxHeartbeats 8000000 in
theorem hold_ok (c : CSt) (hw : c.Wf) (nm : List UInt8) (ty ttl0 : Int) (b : Bool) (n : Nat) (f : Nat → List DV) (rk : Int) (no nb : Bool) (ttl now : Int) (hb : b = true → n = 0) (hl : n ≤ 100000) (hnm : nm.length < 9223372036854775808) (htt : 0 ≤ ttl ∧ ttl ≤ 4294967295) :
    COk Try.prog 53 [.ptr 0 0, .agg [.d (.str nm), .d (.int .u16 ty), .d (.int .u32 ttl0), .d (.sl b n 1 f), .d (.int .u8 rk), .d (.bool no), .d (.bool nb)], .d (.int .u32 ttl), .d (.int .i64 now)] (c.ks 0)
      (HoldR c ⟨nm, ty, ttl0, b, n, f, rk, no, nb, now + ttl⟩ ttl now) := by
  refine cOk_of_run (TT := TT) (IN := lookI [(54, Try.f54, 1), (106, Try.f106, 2), (107, Try.f107, 2), (108, Try.f108, 1)]) TT_ok (INok_cons (INok_cons (INok_cons (INok_cons INok_nil Try.func108 (by kernel_rfl) (by kernel_rfl)) Try.func107 (by kernel_rfl) (by kernel_rfl)) Try.func106 (by kernel_rfl) (by kernel_rfl)) Try.func54 (by kernel_rfl) (by kernel_rfl)) mixed 1000 Try.func53 rfl (enters Try.func53 (by kernel_rfl) rfl) 104 (by kernel_rfl) ?_
  have hr0 : c.r ≠ 0 := dom_ne hw.h0 hw.hr
  conv => whnf
  refine brF (by simp [hr0]) ?_
  conv => whnf
  refine ⟨fun h1 => ?_, fun h1 => ?_⟩
  · conv => whnf
    refine ⟨[0, 1, 2], .d .ff, c.ks 0, rfl, rfl, rfl, ?_, .inl ⟨rfl, rfl, ?_⟩⟩
    · repeat' (first | exact True.intro | exact rfl | exact fun _ => Iff.rfl | exact fun _ _ => rfl | exact renM_ent rfl _ | refine And.intro ?_ ?_)
    · exact .inl (by simpa using h1)
  conv => whnf
  refine ⟨fun h2 => ?_, fun h2 => ?_⟩
  · conv => whnf
    refine ⟨[0, 1, 2], .d .ff, c.ks 0, rfl, rfl, rfl, ?_, .inl ⟨rfl, rfl, ?_⟩⟩
    · repeat' (first | exact True.intro | exact rfl | exact fun _ => Iff.rfl | exact fun _ _ => rfl | exact renM_ent rfl _ | refine And.intro ?_ ?_)
    · exact .inr (.inl (by simpa using h2))
  conv => whnf
  refine ⟨fun h3 => ?_, fun h3 => ?_⟩
  · conv => whnf
    refine ⟨[0, 1, 2], .d .ff, c.ks 0, rfl, rfl, rfl, ?_, .inl ⟨rfl, rfl, ?_⟩⟩
    · repeat' (first | exact True.intro | exact rfl | exact fun _ => Iff.rfl | exact fun _ _ => rfl | exact renM_ent rfl _ | refine And.intro ?_ ?_)
    · exact .inr (.inr (.inl (by simpa using h3)))
  conv => whnf
  have hwr : IntKind.i64.wrap (now + IntKind.i64.wrap ttl) = now + ttl := by
    have a2 : ¬ now < 0 := by simpa using h2
    have a3 : ¬ now > 4611686018427387904 := by simpa using h3
    rw [w64_in ttl (by omega), w64_in _ (by omega)]
  have htil : now + ttl ≤ 9223372036854775807 := by
    have a3 : ¬ now > 4611686018427387904 := by simpa using h3
    omega
  refine .one (.data _ (placeOf_ok _ _ hnm) rfl rfl ?_)
  conv => whnf
  refine ⟨_, (find_ent 1 c.m (fold nm) ty), ?_⟩
  have hfa : fnd c.abs (fold nm) ty = (fnd c.m (fold nm) ty).map c.th := fnd_abs _ _ _ _
  rcases hq : fnd c.m (fold nm) ty with _ | q
  · have hno : ∀ y, fnd c.abs (fold nm) ty = some y → ¬ (now < y.til ∧ rk < y.rk) := fun y hy => by rw [hfa, hq] at hy; cases hy
    conv => whnf
    refine ⟨fun h4 => ?_, fun h4 => ?_⟩
    · conv => whnf
      have hx := hw.hbf _ hw.hr
      have hxd := dom_ne hw.h0 hx
      repeat (refine And.intro (by first | exact hr0 | exact hw.hr | exact hqd | exact hq0 | (repeat' (first | assumption | exact hw.hr | apply hw.hbf | apply hw.hbh | (refine upd_dom ?_ (fun _ => ?_)) | exact dom_ne hw.h0 (by repeat' (first | assumption | exact hw.hr | apply hw.hbf | apply hw.hbh | (refine upd_dom ?_ (fun _ => ?_))))))) ?_; conv => whnf)
      refine ⟨_, del_ent 1 c.m _ _, ?_⟩
      conv => whnf
      rw [hwr]
      refine .data _ (copied_gen _ _ _ _ _ _ _ _ _ _ hb (by omega)) rfl rfl ?_
      conv => whnf
      have hm1 : ∀ e ∈ del c.m (c.an (c.bf c.r)) (c.ak (c.bf c.r)), e ∈ c.m := fun e he => del_mem he
      have hl1 : absL c.th (del c.m (c.an (c.bf c.r)) (c.ak (c.bf c.r))) = c.abs ∨ ∃ a t, absL c.th (del c.m (c.an (c.bf c.r)) (c.ak (c.bf c.r))) = del c.abs a t := .inr ⟨_, _, del_abs _ _ _ _⟩
      have hf1 : ∀ n, c.dom n → c.dom (upd c.bf (upd c.bh (c.bf (c.bf c.r)) (c.bh (c.bf c.r)) (c.bf c.r)) (c.bf (c.bf c.r)) n) := fun n hn => upd_dom (hw.hbf _ hx) (fun _ => hw.hbf _ hn)
      have hg1 : ∀ n, c.dom n → c.dom (upd c.bh (c.bf (c.bf c.r)) (c.bh (c.bf c.r)) n) := fun n hn => upd_dom (hw.hbh _ hx) (fun _ => hw.hbh _ hn)
      generalize upd c.bf (upd c.bh (c.bf (c.bf c.r)) (c.bh (c.bf c.r)) (c.bf c.r)) (c.bf (c.bf c.r)) = f1 at hf1 ⊢
      generalize upd c.bh (c.bf (c.bf c.r)) (c.bh (c.bf c.r)) = g1 at hg1 ⊢
      intro p hp0 hpd
      have hrp : c.r ≠ p := fun e => hpd (e ▸ hw.hr)
      conv => whnf
      repeat (refine And.intro (by first | exact hr0 | exact Or.inl rfl | exact Or.inr hw.hr | (refine dom_ne hw.h0 ?_; first | (simpa [upd, hrp, Ne.symm hrp] using hw.hr) | (simpa [upd, hrp, Ne.symm hrp] using hg1 _ hw.hr)) | (refine Or.inr ?_; first | (simpa [upd, hrp, Ne.symm hrp] using hw.hr) | (simpa [upd, hrp, Ne.symm hrp] using hg1 _ hw.hr))) ?_; conv => whnf)
      refine ⟨_, put_ent 1 _ _ _ _, ?_⟩
      conv => whnf
      obtain ⟨hF, hG⟩ := ins_dom hrp hw.hr hf1 hg1
      refine ⟨[0, 1, 2], .d .tt, (c.add p ⟨nm, ty, ttl0, b, n, f, rk, no, nb, now + ttl⟩ _ _ (del c.m (c.an (c.bf c.r)) (c.ak (c.bf c.r)))).ks 0, rfl, rfl, rfl, ?_, .inr ⟨rfl, by simpa using h2, by simpa using h3, by simpa using h1, hno, _, _, rfl, hw.add hp0 hpd _ ⟨hb, hl, htil⟩ hF hG hm1, rfl, hl1, CSt.add_abs hw hpd _ _ _ hm1⟩⟩
      repeat' (first | exact True.intro | exact rfl | exact fun _ => Iff.rfl | exact fun _ _ => rfl | exact renM_ent rfl _ | refine And.intro ?_ ?_)
    · conv => whnf
      have hm1 : ∀ e ∈ c.m, e ∈ c.m := fun e he => he
      have hl1 : absL c.th c.m = c.abs ∨ ∃ a t, absL c.th c.m = del c.abs a t := .inl rfl
      have hf1 := hw.hbf
      have hg1 := hw.hbh
      rw [hwr]
      refine .data _ (copied_gen _ _ _ _ _ _ _ _ _ _ hb (by omega)) rfl rfl ?_
      conv => whnf
      intro p hp0 hpd
      have hrp : c.r ≠ p := fun e => hpd (e ▸ hw.hr)
      conv => whnf
      repeat (refine And.intro (by first | exact hr0 | exact Or.inl rfl | exact Or.inr hw.hr | (refine dom_ne hw.h0 ?_; first | (simpa [upd, hrp, Ne.symm hrp] using hw.hr) | (simpa [upd, hrp, Ne.symm hrp] using hg1 _ hw.hr)) | (refine Or.inr ?_; first | (simpa [upd, hrp, Ne.symm hrp] using hw.hr) | (simpa [upd, hrp, Ne.symm hrp] using hg1 _ hw.hr))) ?_; conv => whnf)
      refine ⟨_, put_ent 1 _ _ _ _, ?_⟩
      conv => whnf
      obtain ⟨hF, hG⟩ := ins_dom hrp hw.hr hf1 hg1
      refine ⟨[0, 1, 2], .d .tt, (c.add p ⟨nm, ty, ttl0, b, n, f, rk, no, nb, now + ttl⟩ _ _ c.m).ks 0, rfl, rfl, rfl, ?_, .inr ⟨rfl, by simpa using h2, by simpa using h3, by simpa using h1, hno, _, _, rfl, hw.add hp0 hpd _ ⟨hb, hl, htil⟩ hF hG hm1, rfl, hl1, CSt.add_abs hw hpd _ _ _ hm1⟩⟩
      repeat' (first | exact True.intro | exact rfl | exact fun _ => Iff.rfl | exact fun _ _ => rfl | exact renM_ent rfl _ | refine And.intro ?_ ?_)
  · have hqd : c.dom q := (hw.hm _ (fnd_mem hq)).1
    have hq0 := dom_ne hw.h0 hqd
    conv => whnf
    refine ⟨hqd, ?_⟩
    conv => whnf
    refine .data _ (lives_gen _ _ _ _ _ _ _ _ _) rfl rfl ?_
    conv => whnf
    refine ⟨fun h4 => ?_, fun h4 => ?_⟩
    · conv => whnf
      refine ⟨hqd, ?_⟩
      conv => whnf
      refine ⟨fun h5 => ?_, fun h5 => ?_⟩
      · conv => whnf
        refine ⟨[0, 1, 2], .d .ff, c.ks 0, rfl, rfl, rfl, ?_, .inl ⟨rfl, rfl, ?_⟩⟩
        · repeat' (first | exact True.intro | exact rfl | exact fun _ => Iff.rfl | exact fun _ _ => rfl | exact renM_ent rfl _ | refine And.intro ?_ ?_)
        · refine .inr (.inr (.inr ⟨c.th q, ?_, of_decide_eq_true h4, of_decide_eq_true h5⟩))
          show fnd (absL c.th c.m) _ _ = _
          rw [fnd_abs, hq]
          rfl
      · have hno : ∀ y, fnd c.abs (fold nm) ty = some y → ¬ (now < y.til ∧ rk < y.rk) := fun y hy => by
          rw [hfa, hq] at hy
          cases hy
          exact fun e => absurd (show c.rk q > rk from e.2) (of_decide_eq_false h5)
        conv => whnf
        have hm1 : ∀ e ∈ del c.m (c.an q) (c.ak q), e ∈ c.m := fun e he => del_mem he
        have hl1 : absL c.th (del c.m (c.an q) (c.ak q)) = c.abs ∨ ∃ a t, absL c.th (del c.m (c.an q) (c.ak q)) = del c.abs a t := .inr ⟨_, _, del_abs _ _ _ _⟩
        repeat (refine And.intro (by first | exact hr0 | exact hw.hr | exact hqd | exact hq0 | (repeat' (first | assumption | exact hw.hr | apply hw.hbf | apply hw.hbh | (refine upd_dom ?_ (fun _ => ?_)) | exact dom_ne hw.h0 (by repeat' (first | assumption | exact hw.hr | apply hw.hbf | apply hw.hbh | (refine upd_dom ?_ (fun _ => ?_))))))) ?_; conv => whnf)
        refine ⟨_, del_ent 1 c.m _ _, ?_⟩
        conv => whnf
        rw [hwr]
        refine .data _ (copied_gen _ _ _ _ _ _ _ _ _ _ hb (by omega)) rfl rfl ?_
        conv => whnf
        have hf1 : ∀ n, c.dom n → c.dom (upd c.bf (upd c.bh (c.bf q) (c.bh q) q) (c.bf q) n) := fun n hn => upd_dom (hw.hbf _ hqd) (fun _ => hw.hbf _ hn)
        have hg1 : ∀ n, c.dom n → c.dom (upd c.bh (c.bf q) (c.bh q) n) := fun n hn => upd_dom (hw.hbh _ hqd) (fun _ => hw.hbh _ hn)
        generalize upd c.bf (upd c.bh (c.bf q) (c.bh q) q) (c.bf q) = f1 at hf1 ⊢
        generalize upd c.bh (c.bf q) (c.bh q) = g1 at hg1 ⊢
        intro p hp0 hpd
        have hrp : c.r ≠ p := fun e => hpd (e ▸ hw.hr)
        conv => whnf
        repeat (refine And.intro (by first | exact hr0 | exact Or.inl rfl | exact Or.inr hw.hr | (refine dom_ne hw.h0 ?_; first | (simpa [upd, hrp, Ne.symm hrp] using hw.hr) | (simpa [upd, hrp, Ne.symm hrp] using hg1 _ hw.hr)) | (refine Or.inr ?_; first | (simpa [upd, hrp, Ne.symm hrp] using hw.hr) | (simpa [upd, hrp, Ne.symm hrp] using hg1 _ hw.hr))) ?_; conv => whnf)
        refine ⟨_, put_ent 1 _ _ _ _, ?_⟩
        conv => whnf
        obtain ⟨hF, hG⟩ := ins_dom hrp hw.hr hf1 hg1
        refine ⟨[0, 1, 2], .d .tt, (c.add p ⟨nm, ty, ttl0, b, n, f, rk, no, nb, now + ttl⟩ _ _ (del c.m (c.an q) (c.ak q))).ks 0, rfl, rfl, rfl, ?_, .inr ⟨rfl, by simpa using h2, by simpa using h3, by simpa using h1, hno, _, _, rfl, hw.add hp0 hpd _ ⟨hb, hl, htil⟩ hF hG hm1, rfl, hl1, CSt.add_abs hw hpd _ _ _ hm1⟩⟩
        repeat' (first | exact True.intro | exact rfl | exact fun _ => Iff.rfl | exact fun _ _ => rfl | exact renM_ent rfl _ | refine And.intro ?_ ?_)
    · have hno : ∀ y, fnd c.abs (fold nm) ty = some y → ¬ (now < y.til ∧ rk < y.rk) := fun y hy => by
        rw [hfa, hq] at hy
        cases hy
        exact fun e => absurd (show now < c.til q from e.1) (of_decide_eq_false h4)
      conv => whnf
      have hm1 : ∀ e ∈ del c.m (c.an q) (c.ak q), e ∈ c.m := fun e he => del_mem he
      have hl1 : absL c.th (del c.m (c.an q) (c.ak q)) = c.abs ∨ ∃ a t, absL c.th (del c.m (c.an q) (c.ak q)) = del c.abs a t := .inr ⟨_, _, del_abs _ _ _ _⟩
      repeat (refine And.intro (by first | exact hr0 | exact hw.hr | exact hqd | exact hq0 | (repeat' (first | assumption | exact hw.hr | apply hw.hbf | apply hw.hbh | (refine upd_dom ?_ (fun _ => ?_)) | exact dom_ne hw.h0 (by repeat' (first | assumption | exact hw.hr | apply hw.hbf | apply hw.hbh | (refine upd_dom ?_ (fun _ => ?_))))))) ?_; conv => whnf)
      refine ⟨_, del_ent 1 c.m _ _, ?_⟩
      conv => whnf
      rw [hwr]
      refine .data _ (copied_gen _ _ _ _ _ _ _ _ _ _ hb (by omega)) rfl rfl ?_
      conv => whnf
      have hf1 : ∀ n, c.dom n → c.dom (upd c.bf (upd c.bh (c.bf q) (c.bh q) q) (c.bf q) n) := fun n hn => upd_dom (hw.hbf _ hqd) (fun _ => hw.hbf _ hn)
      have hg1 : ∀ n, c.dom n → c.dom (upd c.bh (c.bf q) (c.bh q) n) := fun n hn => upd_dom (hw.hbh _ hqd) (fun _ => hw.hbh _ hn)
      generalize upd c.bf (upd c.bh (c.bf q) (c.bh q) q) (c.bf q) = f1 at hf1 ⊢
      generalize upd c.bh (c.bf q) (c.bh q) = g1 at hg1 ⊢
      intro p hp0 hpd
      have hrp : c.r ≠ p := fun e => hpd (e ▸ hw.hr)
      conv => whnf
      repeat (refine And.intro (by first | exact hr0 | exact Or.inl rfl | exact Or.inr hw.hr | (refine dom_ne hw.h0 ?_; first | (simpa [upd, hrp, Ne.symm hrp] using hw.hr) | (simpa [upd, hrp, Ne.symm hrp] using hg1 _ hw.hr)) | (refine Or.inr ?_; first | (simpa [upd, hrp, Ne.symm hrp] using hw.hr) | (simpa [upd, hrp, Ne.symm hrp] using hg1 _ hw.hr))) ?_; conv => whnf)
      refine ⟨_, put_ent 1 _ _ _ _, ?_⟩
      conv => whnf
      obtain ⟨hF, hG⟩ := ins_dom hrp hw.hr hf1 hg1
      refine ⟨[0, 1, 2], .d .tt, (c.add p ⟨nm, ty, ttl0, b, n, f, rk, no, nb, now + ttl⟩ _ _ (del c.m (c.an q) (c.ak q))).ks 0, rfl, rfl, rfl, ?_, .inr ⟨rfl, by simpa using h2, by simpa using h3, by simpa using h1, hno, _, _, rfl, hw.add hp0 hpd _ ⟨hb, hl, htil⟩ hF hG hm1, rfl, hl1, CSt.add_abs hw hpd _ _ _ hm1⟩⟩
      repeat' (first | exact True.intro | exact rfl | exact fun _ => Iff.rfl | exact fun _ _ => rfl | exact renM_ent rfl _ | refine And.intro ?_ ?_)
end Go.Proofs.Ytdphkaiijlekhaa
