/-
  SetsAlone returns true at every input and leaves its arguments as they read.
  Conditions: none.
-/
import Derived.ChangeSame
import Derived.ChangeVars
import Derived.JoinedOf
import Derived.RowKit
import Derived.RowKitTokens
import Derived.LaidLaws
import Derived.LaidHandle
import Derived.Stop.Joined
import Derived.SevenTiedAt
import Derived.Test.YtdphkaiijlekhaaS3
import Derived.Test.YtdphkaiijlekhaaM4
import Derived.Test.YtdphkaiijlekhaaB1
set_option linter.unusedVariables false
set_option linter.unusedSimpArgs false
namespace Go.Proofs.Ytdphkaiijlekhaa
open Go Go.Eng
theorem smallL_ok {l : List RR} (h : smallL l = true) : l.length ≤ 100 ∧ ∀ r ∈ l, r.nm.length ≤ 1000 ∧ r.d.length ≤ 5000 := by
  unfold smallL at h
  simp only [Bool.and_eq_true, decide_eq_true_eq, List.all_eq_true] at h
  refine ⟨h.1, fun r hr => ?_⟩
  have := h.2 r hr
  unfold smallR at this
  simp only [Bool.and_eq_true, decide_eq_true_eq] at this
  exact ⟨this.2, this.1⟩
set_option maxRecDepth 100000
set_option maxHeartbeats 8000000 in
theorem setsof_ok (nm : List UInt8) (t : Int) (z : Bool) (l : List RR) : FnOk Try.prog 5 [.d (.str nm), .d (.int .u16 t), .d (rrsD z l)] (.d (.bool true)) := by
  refine fnOk_of_run (TT := TT) (IN := lookI []) TT_ok INok_nil mixed 1000 Try.func5 rfl (enters Try.func5 (by kernel_rfl) rfl) rfl 49 (by kernel_rfl) ?_
  conv => whnf
  refine .one (.data _ (small13_ok z l) rfl rfl ?_)
  cases hs : smallL l with
  | false =>
    conv => whnf
    refine brT rfl ?_
    conv => whnf
    refine .one (.data _ lives13_ok rfl rfl ?_)
    conv => whnf
    try exact rfl
  | true =>
    obtain ⟨hn, hl⟩ := smallL_ok hs
    conv => whnf
    refine brF rfl ?_
    conv => whnf
    refine ⟨fun h1 => ?_, fun h1 => ?_⟩
    · conv => whnf
      refine .one (.data _ lives13_ok rfl rfl ?_)
      conv => whnf
      try exact rfl
    have h1 : ¬ (nm.length : Int) > 1000 := of_decide_eq_false h1
    have c1 := find_ok nm t z l (by omega) (by omega) (fun r hr => Nat.le_trans (hl r hr).1 (by omega))
    have c2 := r13find_ok nm t z l (by omega) (fun r hr => Nat.le_trans (hl r hr).2 (by omega))
    rw [← find_law] at c2
    have hsl := findS_len nm t l
    generalize findS nm t l = S at c1 c2 hsl
    have c3 := rsame_ok S.1 S.1 (by omega) (by omega)
    rw [sameS_refl] at c3
    have c4 := of_ok z l (by omega) (fun r hr => Nat.le_trans (hl r hr).1 (by omega))
    have c5 := r13of_ok z l (by omega) (fun r hr => Nat.le_trans (hl r hr).2 (by omega))
    rw [← of_law] at c5
    have hoc := ofS_count l
    have hod : ∀ s ∈ ofS l, s.data.length < 4611686018427387904 := fun s h => by have := ofS_len h; omega
    have c6 := rsamel_ok (ofS l).isEmpty (ofS l).isEmpty (ofS l) (ofS l) (by omega) (by omega) hod hod
    rw [sameL_refl] at c6
    conv => whnf
    refine .one (.data _ c1 rfl rfl ?_)
    conv => whnf
    refine .one (.data _ c2 rfl rfl ?_)
    conv => whnf
    refine .one (.data _ lives13_ok rfl rfl ?_)
    conv => whnf
    refine brT rfl ?_
    conv => whnf
    refine .one (.data _ c3 rfl rfl ?_)
    conv => whnf
    refine brT rfl ?_
    conv => whnf
    refine brT (by simp) ?_
    conv => whnf
    refine .one (.data _ c4 rfl rfl ?_)
    conv => whnf
    refine .one (.data _ c5 rfl rfl ?_)
    conv => whnf
    refine .one (.data _ c6 rfl rfl ?_)
    conv => whnf
    try exact rfl
end Go.Proofs.Ytdphkaiijlekhaa
namespace Go.Proofs.Ytdphkaiijlekhaa
open Go Go.Eng
def bad1 (t : Int) (b : Bool) (last d : List UInt8) : Bool := b && (Op.bytesLess (rfold t d) last || rfold t d == last)
theorem rising_of {t : Int} : ∀ (D : List (List UInt8)) (b : Bool) (last : List UInt8), (∀ d ∈ D, rcheck t d = true) → D.Pairwise (fun x y => Op.bytesLess (rfold t x) (rfold t y) = true) → (b = true → ∀ d ∈ D, Op.bytesLess last (rfold t d) = true) → rising t b last D = true
  | [], _, _ => fun _ _ _ => rfl
  | d :: D, b, last => fun h1 h2 h3 => by
    obtain ⟨h4, h5⟩ := List.pairwise_cons.1 h2
    have ih := rising_of D true (rfold t d) (fun x hx => h1 x (by simp [hx])) h5 (fun _ x hx => h4 x hx)
    unfold rising
    rw [h1 d (by simp), ih]
    cases b with
    | false => rfl
    | true =>
      have h6 := h3 rfl d (by simp)
      rw [bl_asym _ _ h6, show (rfold t d == last) = false from Bool.eq_false_iff.2 (fun e => by rw [eq_of_beq e, bl_irr] at h6; cases h6)]
      rfl
theorem rising_to {t : Int} : ∀ (D : List (List UInt8)) (b : Bool) (last : List UInt8), rising t b last D = true → (∀ d ∈ D, rcheck t d = true) ∧ D.Pairwise (fun x y => Op.bytesLess (rfold t x) (rfold t y) = true) ∧ (b = true → ∀ d ∈ D, Op.bytesLess last (rfold t d) = true)
  | [], _, _ => fun _ => ⟨fun _ h => (by cases h), .nil, fun _ _ h => (by cases h)⟩
  | d :: D, b, last => fun h => by
    unfold rising at h
    simp only [Bool.and_eq_true] at h
    obtain ⟨⟨h1, h2⟩, h3⟩ := h
    obtain ⟨a1, a2, a3⟩ := rising_to D true (rfold t d) h3
    have hd : b = true → Op.bytesLess last (rfold t d) = true := fun hb => by
      rw [hb] at h2
      simp only [Bool.true_and, Bool.not_eq_true', Bool.or_eq_false_iff] at h2
      cases e : Op.bytesLess last (rfold t d)
      · have := bl_tri _ _ h2.1 e
        rw [this] at h2; simp at h2
      · rfl
    refine ⟨fun x hx => ?_, List.pairwise_cons.2 ⟨fun x hx => a3 rfl x hx, a2⟩, fun hb x hx => ?_⟩
    · rcases List.mem_cons.1 hx with rfl | hx
      · exact h1
      · exact a1 x hx
    · rcases List.mem_cons.1 hx with rfl | hx
      · exact hd hb
      · exact bl_trans _ _ _ (hd hb) (a3 rfl x hx)
theorem St.ok_iff (s : St) : s.ok = true ↔ isName s.nm ∧ s.ttl ≤ 2147483647 ∧ (0 < s.data.length ∧ s.data.length ≤ 64) ∧ (∀ d ∈ s.data, rcheck s.ty d = true) ∧ s.data.Pairwise (fun x y => Op.bytesLess (rfold s.ty x) (rfold s.ty y) = true) := by
  unfold St.ok scheck
  simp only [Bool.and_eq_true, decide_eq_true_eq]
  constructor
  · rintro ⟨⟨⟨h1, h2⟩, h3⟩, h4⟩
    obtain ⟨a1, a2, _⟩ := rising_to _ _ _ h4
    exact ⟨h1, h2, h3, a1, a2⟩
  · rintro ⟨h1, h2, h3, h4, h5⟩
    exact ⟨⟨⟨h1, h2⟩, h3⟩, rising_of _ _ _ h4 h5 (fun h => by cases h)⟩
theorem minOf_le : ∀ (l : List RR) (a : Int), minOf a l ≤ a ∧ ∀ r ∈ l, minOf a l ≤ r.ttl
  | [], a => ⟨Int.le_refl _, fun _ h => (by cases h)⟩
  | r :: l, a => by
    have ih := minOf_le l (if r.ttl < a then r.ttl else a)
    have e : minOf a (r :: l) = minOf (if r.ttl < a then r.ttl else a) l := rfl
    rw [e]
    refine ⟨?_, fun x hx => ?_⟩
    · have := ih.1
      split at this <;> omega
    · rcases List.mem_cons.1 hx with rfl | hx
      · have := ih.1
        split at this <;> omega
      · exact ih.2 x hx
theorem minOf_same {a : Int} : ∀ (l : List RR), (∀ r ∈ l, r.ttl = a) → minOf a l = a
  | [], _ => rfl
  | r :: l, h => by
    have e : minOf a (r :: l) = minOf (if r.ttl < a then r.ttl else a) l := rfl
    rw [e, if_neg (by rw [h r (by simp)]; omega)]
    exact minOf_same l (fun x hx => h x (by simp [hx]))
theorem good_parts {r : RR} (h : goodR r = true) : r.cl = 1 ∧ r.check = true ∧ r.ty ≠ 41 ∧ isName r.nm ∧ rcheck r.ty r.d = true ∧ r.ttl ≤ 2147483647 := by
  unfold goodR rightR at h
  simp only [Bool.and_eq_true, bne_iff_ne, ne_eq, beq_iff_eq] at h
  obtain ⟨⟨h1, h2⟩, h3⟩ := h
  have hc := h2
  unfold RR.check at hc
  simp only [Bool.and_eq_true, decide_eq_true_eq, Bool.or_eq_true, beq_iff_eq] at hc
  exact ⟨h1, h2, h3, hc.1.1, hc.1.2, hc.2.resolve_right h3⟩
/-- A group: its records are good, and of its place. -/
theorem grp_ok {l : List RR} {g : Gp} (hg : g ∈ groups l) : g.2 ≠ [] ∧ ∀ r ∈ g.2, r ∈ l ∧ goodR r = true ∧ plc r = g.1 := by
  refine ⟨groups_ne l [] (fun _ h => by cases h) g hg, fun r hr => ?_⟩
  rw [(groups_at l).1 g hg] at hr
  obtain ⟨h1, h2⟩ := List.mem_filter.1 hr
  unfold atK at h2
  simp only [Bool.and_eq_true, decide_eq_true_eq] at h2
  exact ⟨h1, h2.1, h2.2⟩
theorem hdG_mem {g : Gp} (h : g.2 ≠ []) : hdG g ∈ g.2 := by
  unfold hdG
  cases e : g.2 with
  | nil => exact absurd e h
  | cons a P => simp
theorem buildD_firsts (t : Int) (rs : List RR) : Firsts (rfold t) (rs.map (·.d)) (firstsOf (rfold t) (rs.map (·.d))) := firsts_of _ _
theorem take_pairwise {α : Type} {R : α → α → Prop} {l : List α} (n : Nat) (h : l.Pairwise R) : (l.take n).Pairwise R := h.sublist (List.take_sublist n l)
theorem ofG_ok {l : List RR} {g : Gp} (hg : g ∈ groups l) : (ofG g).ok = true := by
  obtain ⟨hne, hall⟩ := grp_ok hg
  have hm := hdG_mem hne
  obtain ⟨_, h2, h3⟩ := hall _ hm
  obtain ⟨p1, p2, p3, p4, p5, p6⟩ := good_parts h2
  have hF := buildD_firsts g.1.2 g.2
  refine (St.ok_iff _).2 ⟨p4, ?_, ⟨?_, buildD_len _ _⟩, fun d hd => ?_, ?_⟩
  · have := (minOf_le g.2 (g.2.getD 0 default).ttl).1
    show minOf (g.2.getD 0 default).ttl g.2 ≤ 2147483647
    have e : (g.2.getD 0 default).ttl ≤ 2147483647 := p6
    omega
  · show 0 < (buildD g.1.2 g.2).length
    have := hF.len (by simpa using hne)
    unfold buildD
    rw [List.length_take]
    omega
  · have hd : d ∈ firstsOf (rfold g.1.2) (g.2.map (·.d)) := List.mem_of_mem_take hd
    obtain ⟨i, hi⟩ := hF.from hd
    obtain ⟨r, hr, rfl⟩ := List.mem_map.1 (List.mem_of_getElem? hi)
    obtain ⟨_, q2, q3⟩ := hall r hr
    have := (good_parts q2).2.2.2.2.1
    show rcheck g.1.2 r.d = true
    rw [← q3]; exact this
  · exact take_pairwise 64 hF.rise
theorem ofS_ok {l : List RR} {a : St} (h : a ∈ ofS l) : a.ok = true := by
  obtain ⟨g, hg, rfl⟩ := List.mem_map.1 h
  exact ofG_ok hg
/-- No two of one name and type. -/
def twoB (a b : St) : Bool := a.ty == b.ty && saysS ⟨a.nm, a.ty, 0, a.z, a.data⟩ ⟨b.nm, b.ty, 0, a.z, a.data⟩
theorem ofS_two (l : List RR) : (ofS l).Pairwise (fun b a => twoB a b = false) := by
  unfold ofS
  rw [List.pairwise_map]
  have hnd := groups_nd l [] .nil
  change (groups l).Pairwise _ at hnd
  refine (List.Pairwise.and_mem.1 hnd).imp fun {g h} ⟨hg, hh, hne⟩ => ?_
  obtain ⟨g1, g2⟩ := grp_ok hg
  obtain ⟨h1, h2⟩ := grp_ok hh
  obtain ⟨_, ga, gb⟩ := g2 _ (hdG_mem g1)
  obtain ⟨_, ha, hb⟩ := h2 _ (hdG_mem h1)
  unfold twoB
  cases e : (ofG h).ty == (ofG g).ty with
  | false => rfl
  | true =>
    have e : h.1.2 = g.1.2 := eq_of_beq e
    have hs : sameN (ofG h).nm (ofG g).nm = false := by
      show sameN (hdG h).nm (hdG g).nm = false
      rw [sameN_of (good_name ha) (good_name ga)]
      apply Bool.eq_false_iff.2
      intro he
      have he := eq_of_beq he
      apply hne
      rw [← gb, ← hb]
      unfold plc at gb hb ⊢
      rw [Prod.mk.injEq]
      refine ⟨he.symm, ?_⟩
      have a1 : (hdG g).ty = g.1.2 := congrArg Prod.snd gb
      have a2 : (hdG h).ty = h.1.2 := congrArg Prod.snd hb
      rw [a1, a2, e]
    unfold saysS
    rw [hs]
    simp
/-- Two records say the same. -/
def sameRec (x r : RR) : Bool := x.check && (r.check && (fold x.nm == fold r.nm && (x.ty == r.ty && (x.cl == r.cl && rfold x.ty x.d == rfold r.ty r.d))))
def inX (r x : RR) : Bool := sameRec x r && decide (x.ttl ≤ r.ttl)
def recsOf (a : St) : List RR := if a.ok then recsS a else []
def inA (r : RR) (a : St) : Bool := (recsOf a).any (inX r) || a.data.length == 64
theorem ofS_in {l : List RR} {r : RR} (hr : r ∈ l) (hg : goodR r = true) : (ofS l).any (inA r) = true := by
  have hex : ∃ g ∈ groups l, g.1 = plc r := by
    rcases grp_cases (plc r) (groups l) with ⟨A, rs, B, hG, _⟩ | hG
    · exact ⟨(plc r, rs), by rw [hG]; simp, rfl⟩
    · have := (groups_at l).2 (plc r) hG
      have hm : r ∈ l.filter (atK (plc r)) := List.mem_filter.2 ⟨hr, by unfold atK; rw [hg]; simp⟩
      rw [this] at hm; cases hm
  obtain ⟨g, hgm, hgk⟩ := hex
  have hrg : r ∈ g.2 := by
    rw [(groups_at l).1 g hgm, hgk]
    exact List.mem_filter.2 ⟨hr, by unfold atK; rw [hg]; simp⟩
  have hok := ofG_ok hgm
  rw [List.any_eq_true]
  refine ⟨ofG g, List.mem_map.2 ⟨g, hgm, rfl⟩, ?_⟩
  unfold inA recsOf
  rw [if_pos hok, Bool.or_eq_true]
  have hF := buildD_firsts g.1.2 g.2
  by_cases h64 : 64 ≤ (firstsOf (rfold g.1.2) (g.2.map (·.d))).length
  · right
    have : (ofG g).data.length = 64 := by
      show (buildD g.1.2 g.2).length = 64
      unfold buildD; rw [List.length_take]; omega
    rw [this]; rfl
  · left
    have hdat : (ofG g).data = firstsOf (rfold g.1.2) (g.2.map (·.d)) := by
      show buildD g.1.2 g.2 = _
      unfold buildD; exact List.take_of_length_le (by omega)
    obtain ⟨i, hi⟩ := List.getElem?_of_mem (List.mem_map.2 ⟨r, hrg, rfl⟩ : r.d ∈ g.2.map (·.d))
    obtain ⟨d, hd, he⟩ := hF.cover i r.d hi
    rw [← hdat] at hd
    obtain ⟨q1, q2, q3⟩ := (grp_ok hgm).2 _ (hdG_mem (grp_ok hgm).1)
    obtain ⟨k1, k2, _, k4, _⟩ := (St.ok_iff _).1 hok
    obtain ⟨p1, p2, p3, p4, p5, p6⟩ := good_parts hg
    rw [List.any_eq_true]
    refine ⟨⟨(ofG g).nm, (ofG g).ty, 1, (ofG g).ttl, d⟩, List.mem_map.2 ⟨d, hd, rfl⟩, ?_⟩
    have hty : (ofG g).ty = r.ty := congrArg Prod.snd hgk
    have hnm : fold (ofG g).nm = fold r.nm := by
      have a1 : fold (hdG g).nm = g.1.1 := congrArg Prod.fst q3
      have a2 : g.1.1 = fold r.nm := congrArg Prod.fst hgk
      exact a1.trans a2
    have hck : RR.check ⟨(ofG g).nm, (ofG g).ty, 1, (ofG g).ttl, d⟩ = true := by
      unfold RR.check
      rw [decide_eq_true k1, k4 d hd, decide_eq_true k2]; rfl
    have httl : (ofG g).ttl ≤ r.ttl := (minOf_le g.2 _).2 r hrg
    unfold inX sameRec
    rw [hck, p2]
    dsimp only
    rw [hnm, hty, p1, show rfold r.ty d = rfold r.ty r.d by rw [← hty]; exact he, decide_eq_true httl]
    simp
/-- The records of a right set have that set. -/
theorem ofS_recs {s : St} (hok : s.ok = true) (hty : s.ty ≠ 41) : ofS (recsS s) = [⟨s.nm, s.ty, s.ttl, false, s.data⟩] := by
  obtain ⟨k1, k2, k3, k4, k5⟩ := (St.ok_iff s).1 hok
  have hgood : ∀ r ∈ recsS s, goodR r = true ∧ plc r = (fold s.nm, s.ty) ∧ r.nm = s.nm ∧ r.ttl = s.ttl := fun r hr => by
    obtain ⟨d, hd, rfl⟩ := List.mem_map.1 hr
    refine ⟨?_, rfl, rfl, rfl⟩
    unfold goodR rightR RR.check
    rw [decide_eq_true k1, k4 d hd, decide_eq_true k2, show (s.ty != 41) = true from bne_iff_ne.2 hty]; rfl
  have hstep : ∀ (m pre : List RR), (∀ r ∈ m, goodR r = true ∧ plc r = (fold s.nm, s.ty)) → m.foldl stepG [((fold s.nm, s.ty), pre)] = [((fold s.nm, s.ty), pre ++ m)] := by
    intro m
    induction m with
    | nil => intro pre _; rw [List.append_nil]; rfl
    | cons r m ih =>
      intro pre h
      obtain ⟨h1, h2⟩ := h r (by simp)
      have e : stepG [((fold s.nm, s.ty), pre)] r = [((fold s.nm, s.ty), pre ++ [r])] := by
        unfold stepG
        rw [h1, if_pos rfl, h2]
        show (if (fold s.nm, s.ty) = (fold s.nm, s.ty) then _ else _) = _
        rw [if_pos rfl]
      rw [List.foldl_cons, e, ih (pre ++ [r]) (fun x hx => h x (by simp [hx])), List.append_assoc]; rfl
  have hgr : groups (recsS s) = [((fold s.nm, s.ty), recsS s)] := by
    cases hm : recsS s with
    | nil =>
      have : s.data.length = (recsS s).length := by unfold recsS; simp
      rw [hm] at this; simp at this; rw [this] at k3; simp at k3
    | cons r m =>
      rw [hm] at hgood
      obtain ⟨h1, h2, _⟩ := hgood r (by simp)
      show m.foldl stepG (stepG [] r) = _
      have e : stepG [] r = [((fold s.nm, s.ty), [r])] := by
        unfold stepG; rw [h1, if_pos rfl, h2]; rfl
      rw [e, hstep m [r] (fun x hx => ⟨(hgood x (by simp [hx])).1, (hgood x (by simp [hx])).2.1⟩)]; rfl
  unfold ofS
  rw [hgr]
  show [buildS ((recsS s).getD 0 default).nm s.ty (recsS s)] = _
  have hd0 : ((recsS s).getD 0 default).nm = s.nm ∧ ((recsS s).getD 0 default).ttl = s.ttl := by
    cases hm : recsS s with
    | nil =>
      have : s.data.length = (recsS s).length := by unfold recsS; simp
      rw [hm] at this; simp at this; rw [this] at k3; simp at k3
    | cons r m =>
      rw [hm] at hgood
      exact (hgood r (by simp)).2.2
  have hdat : buildD s.ty (recsS s) = s.data := by
    have e : (recsS s).map (·.d) = s.data := by unfold recsS; rw [List.map_map]; exact List.map_id'' (fun _ => rfl) _
    unfold buildD
    rw [e, (firsts_of (rfold s.ty) s.data).uniq (Firsts.self k5)]
    exact List.take_of_length_le k3.2
  unfold buildS
  rw [hd0.1, hd0.2, hdat, minOf_same _ (fun r hr => (hgood r hr).2.2.2)]
end Go.Proofs.Ytdphkaiijlekhaa
namespace Go.Proofs.Ytdphkaiijlekhaa
open Go Go.Eng
def lightB (s : St) : Bool := decide (s.data.length ≤ 100) && s.data.all (fun d => decide (d.length ≤ 5000)) && decide (s.nm.length ≤ 1000)
set_option maxRecDepth 100000
set_option maxHeartbeats 8000000 in
theorem light_ok (s : St) : FnOk Try.prog 26 [s.V] (.d (.bool (lightB s))) := by
  refine fnOk_of_run (TT := TT) (IN := lookI []) TT_ok INok_nil mixed 1000 Try.func26 rfl (enters Try.func26 (by kernel_rfl) rfl) rfl 24 (by kernel_rfl) ?_
  conv => whnf
  refine .inv Nat (fun i => i ≤ s.data.length ∧ i ≤ 100 ∧ (s.data.take i).all (fun d => decide (d.length ≤ 5000)) = true) (fun i => [(8, iV i)]) (fun _ => []) (fun i => s.data.length - i) ⟨0, [0], ⟨Nat.zero_le _, Nat.zero_le _, rfl⟩, ?_⟩ ?_
  · conv => whnf
    repeat' (first | exact True.intro | exact rfl | exact fun _ => Iff.rfl | exact fun _ _ => rfl | exact renM_ent rfl _ | refine And.intro ?_ ?_)
  rintro i ⟨hi, hih, hall⟩
  conv => whnf
  refine ⟨fun h1 => ?_, fun h1 => ?_⟩
  · have h1 : i < s.data.length := by have h : (i : Int) < s.data.length := of_decide_eq_true h1
                                      omega
    obtain ⟨d, hd⟩ : ∃ d, s.data[i]?.getD [] = d := ⟨_, rfl⟩
    have hdl : s.data[i]? = some d := by rw [← hd, List.getElem?_eq_getElem h1]; rfl
    have hw1 : IntKind.i64.wrap ((i : Int) + 1) = ((i + 1 : Nat) : Int) := by rw [w64_in _ (by omega)]; omega
    conv => whnf
    refine ⟨by omega, ?_⟩
    conv => whnf
    rw [Int.toNat_natCast, hd]
    refine ⟨fun h2 => ?_, fun h2 => ?_⟩
    · have h2 : i = 100 := by simp at h2; omega
      rw [show lightB s = false by unfold lightB; rw [decide_eq_false (p := s.data.length ≤ 100) (by omega)]; rfl]
      conv => whnf
      repeat (first | (refine brT rfl ?_; conv => whnf))
      try exact rfl
    have h2 : i ≠ 100 := by simp at h2; omega
    conv => whnf
    refine ⟨fun h3 => ?_, fun h3 => ?_⟩
    · have h3 : (d.length : Int) > 5000 := of_decide_eq_true h3
      rw [show lightB s = false by
        unfold lightB
        rw [show s.data.all (fun d => decide (d.length ≤ 5000)) = false from List.all_eq_false.2 ⟨d, List.mem_of_getElem? hdl, by simp; omega⟩, Bool.and_false]; rfl]
      conv => whnf
      try exact rfl
    have h3 : ¬ (d.length : Int) > 5000 := of_decide_eq_false h3
    conv => whnf
    rw [hw1]
    refine ⟨i + 1, [0], ⟨h1, by omega, ?_⟩, by omega, ?_⟩
    · rw [List.take_add_one, hdl, List.all_append, hall]
      show (true && (decide (d.length ≤ 5000) && true)) = true
      rw [decide_eq_true (by omega)]; rfl
    conv => whnf
    repeat' (first | exact True.intro | exact rfl | exact fun _ => Iff.rfl | exact fun _ _ => rfl | exact renM_ent rfl _ | refine And.intro ?_ ?_)
  · have h1 : i = s.data.length := by have h : ¬ (i : Int) < s.data.length := of_decide_eq_false h1
                                      omega
    rw [h1, List.take_length] at hall
    rw [show lightB s = decide ((s.nm.length : Int) ≤ 1000) by
      unfold lightB
      rw [hall, decide_eq_true (p := s.data.length ≤ 100) (by omega), Bool.true_and, Bool.true_and]
      simp only [decide_eq_decide]; omega]
    conv => whnf
    try exact rfl
def sayV (r : RR) : SV := .agg [.d (.str (fold r.nm)), .d (.int .u16 r.ty), .d (.int .u16 r.cl), .d (.str (rfold r.ty r.d))]
set_option maxHeartbeats 4000000 in
theorem say_ok (r : RR) (hn : r.nm.length < 9223372036854775808) : FnOk Try.prog 75 [r.V] (sayV r) := by
  refine fnOk_of_run (TT := TT) (IN := lookI []) TT_ok INok_nil mixed 1000 Try.func75 rfl (enters Try.func75 (by kernel_rfl) rfl) rfl 15 (by kernel_rfl) ?_
  conv => whnf
  refine .data _ (fold_ok r.nm hn) rfl rfl ?_
  conv => whnf
  refine .data _ (rfold_ok r.ty r.d) rfl rfl ?_
  conv => whnf
  try repeat' (first | exact True.intro | exact rfl | exact ⟨rfl, rfl, .inr rfl, fun _ _ => rfl⟩ | exact ⟨rfl, rfl, .inl rfl, fun i hi => absurd hi (Nat.not_lt_zero _)⟩ | refine And.intro ?_ ?_)
set_option maxHeartbeats 4000000 in
theorem recsame_ok (x r : RR) : FnOk Try.prog 32 [x.V, r.V] (.d (.bool (sameRec x r))) := by
  refine fnOk_of_run (TT := TT) (IN := lookI []) TT_ok INok_nil mixed 1000 Try.func32 rfl (enters Try.func32 (by kernel_rfl) rfl) rfl 18 (by kernel_rfl) ?_
  conv => whnf
  refine .data _ (reccheck_ok x) rfl rfl ?_
  conv => whnf
  cases hx : x.check with
  | false =>
    rw [show sameRec x r = false by unfold sameRec; rw [hx]; rfl]
    refine brF rfl ?_
    conv => whnf
    repeat (first | (refine brF rfl ?_; conv => whnf))
    try exact rfl
  | true =>
    refine brT rfl ?_
    conv => whnf
    refine .data _ (reccheck_ok r) rfl rfl ?_
    conv => whnf
    cases hr : r.check with
    | false =>
      rw [show sameRec x r = false by unfold sameRec; rw [hx, hr]; rfl]
      refine brF rfl ?_
      conv => whnf
      repeat (first | (refine brF rfl ?_; conv => whnf))
      try exact rfl
    | true =>
      refine brT rfl ?_
      conv => whnf
      refine .data _ (say_ok x (isName_short (check_name hx))) rfl rfl ?_
      conv => whnf
      refine .data _ (say_ok r (isName_short (check_name hr))) rfl rfl ?_
      rw [show sameRec x r = (fold x.nm == fold r.nm && (x.ty == r.ty && (x.cl == r.cl && (rfold x.ty x.d == rfold r.ty r.d && true)))) by unfold sameRec; rw [hx, hr, Bool.and_true]; rfl]
      conv => whnf
      try exact rfl
end Go.Proofs.Ytdphkaiijlekhaa
namespace Go.Proofs.Ytdphkaiijlekhaa
open Go Go.Eng
set_option maxRecDepth 100000
set_option maxHeartbeats 8000000 in
theorem setsalone_ok (s : St) (z : Bool) (l : List RR) : FnOk Try.prog 6 [s.V, .d (rrsD z l)] (.d (.bool true)) := by
  refine fnOk_of_run (TT := TT) (IN := lookI []) TT_ok INok_nil mixed 1000 Try.func6 rfl (enters Try.func6 (by kernel_rfl) rfl) rfl 151 (by kernel_rfl) ?_
  conv => whnf
  refine .one (.data _ lives13_ok rfl rfl ?_)
  conv => whnf
  refine brF rfl ?_
  conv => whnf
  refine .one (.data _ (light_ok s) rfl rfl ?_)
  conv => whnf
  refine ⟨fun h1 => ?_, fun h1 => ?_⟩
  · conv => whnf
    repeat (first | (refine brT rfl ?_; conv => whnf))
    try exact rfl
  conv => whnf
  refine .one (.data _ (small13_ok z l) rfl rfl ?_)
  cases hs : smallL l with
  | false =>
    conv => whnf
    refine brT rfl ?_
    conv => whnf
    try exact rfl
  | true =>
  obtain ⟨hn, hl⟩ := smallL_ok hs
  have c4 := of_ok z l (by omega) (fun r hr => Nat.le_trans (hl r hr).1 (by omega))
  have hA : ∀ a ∈ ofS l, a.ok = true := fun a h => ofS_ok h
  have hA2 := ofS_two l
  have hA3 : ∀ r ∈ l, goodR r = true → (ofS l).any (inA r) = true := fun r hr hg => ofS_in hr hg
  have hoc := ofS_count l
  generalize ofS l = A at c4 hA hA2 hA3 hoc
  conv => whnf
  refine brF rfl ?_
  conv => whnf
  have c3 := records_ok s
  have c2 := scheck_ok s.nm s.ty s.ttl s.z s.data
  rw [show scheck s.nm s.ty s.ttl s.data = s.ok from rfl] at c2
  cases hok : s.ok
  rw [hok, if_neg (by simp)] at c3
  rw [hok] at c2
  refine .one (.data _ c3 rfl rfl ?_)
  conv => whnf
  refine .one (.data _ c2 rfl rfl ?_)
  conv => whnf
  refine brF rfl ?_
  conv => whnf
  rotate_left
  rw [hok, if_pos rfl] at c3
  rw [hok] at c2
  refine .one (.data _ c3 rfl rfl ?_)
  conv => whnf
  refine .one (.data _ c2 rfl rfl ?_)
  conv => whnf
  refine brT rfl ?_
  conv => whnf
  refine ⟨fun h2 => ?_, fun h2 => ?_⟩
  have hty : s.ty ≠ 41 := bne_iff_ne.1 h2
  obtain ⟨k1, k2, k3, k4, k5⟩ := (St.ok_iff s).1 hok
  have c5 := of_ok false (recsS s) (by unfold recsS; rw [List.length_map]; omega) (fun r hr => by
    obtain ⟨d, _, rfl⟩ := List.mem_map.1 hr
    exact Nat.le_trans k1.2.1 (by omega))
  rw [ofS_recs hok hty] at c5
  have c6 := ssame_ok ⟨s.nm, s.ty, s.ttl, false, s.data⟩ s (by show s.data.length < _; omega) (by omega)
  rw [show sameS ⟨s.nm, s.ty, s.ttl, false, s.data⟩ s = true by unfold sameS; simp] at c6
  conv => whnf
  refine .one (.data _ c5 rfl rfl ?_)
  conv => whnf
  refine brF rfl ?_
  conv => whnf
  refine ⟨⟨by decide, by show (0 : Int) < 1; decide⟩, ?_⟩
  conv => whnf
  refine .data _ c6 rfl rfl ?_
  conv => whnf
  refine brF rfl ?_
  conv => whnf
  clear c5 c6 k1 k2 k3 k4 k5 hty
  rotate_left
  conv => whnf
  all_goals
    refine .one (.data _ c4 rfl rfl ?_)
    conv => whnf
    refine .inv Nat (fun i => i ≤ A.length) (fun i => [(56, iV i)]) (fun _ => []) (fun i => A.length - i) ⟨0, [0], Nat.zero_le _, ?_⟩ ?_
    · conv => whnf
      repeat' (first | exact True.intro | exact rfl | exact fun _ => Iff.rfl | exact fun _ _ => rfl | exact renM_ent rfl _ | refine And.intro ?_ ?_)
    intro i hi
    conv => whnf
    refine ⟨fun h5 => ?_, fun h5 => ?_⟩
    · have h5 : i < A.length := by have h : (i : Int) < A.length := of_decide_eq_true h5
                                   omega
      have hiw : IntKind.i64.wrap ((i : Int) + 1) = ((i + 1 : Nat) : Int) := by rw [w64_in _ (by omega)]; omega
      obtain ⟨a, ha⟩ : ∃ a, A.getD i default = a := ⟨_, rfl⟩
      have hai : A[i]? = some a := by rw [← ha, List.getD, List.getElem?_eq_getElem h5]; rfl
      have haok := hA a (List.mem_of_getElem? hai)
      conv => whnf
      refine ⟨by omega, ?_⟩
      conv => whnf
      rw [Int.toNat_natCast, ha]
      refine .one (.data _ (scheck_ok a.nm a.ty a.ttl a.z a.data) rfl rfl ?_)
      rw [show scheck a.nm a.ty a.ttl a.data = true from haok]
      conv => whnf
      refine brF rfl ?_
      conv => whnf
      refine ⟨by omega, ?_⟩
      conv => whnf
      refine .inv Nat (fun j => j ≤ i) (fun j => [(68, iV j)]) (fun _ => []) (fun j => i - j) ⟨0, [0, 1], Nat.zero_le _, ?_⟩ ?_
      · conv => whnf
        repeat' (first | exact True.intro | exact rfl | exact fun _ => Iff.rfl | exact fun _ _ => rfl | exact renM_ent rfl _ | refine And.intro ?_ ?_)
      intro j hj
      conv => whnf
      refine ⟨fun h6 => ?_, fun h6 => ?_⟩
      · have h6 : j < i := by have h := of_decide_eq_true h6
                              omega
        have hjw : IntKind.i64.wrap ((j : Int) + 1) = ((j + 1 : Nat) : Int) := by rw [w64_in _ (by omega)]; omega
        obtain ⟨b, hb⟩ : ∃ b, A.getD j default = b := ⟨_, rfl⟩
        have hbj : A[j]? = some b := by rw [← hb, List.getD, List.getElem?_eq_getElem (by omega)]; rfl
        have htwo : twoB a b = false := by
          have h7 := List.pairwise_iff_getElem.1 hA2 j i (by omega) h5 h6
          rw [List.getElem?_eq_getElem (by omega)] at hbj hai
          rw [← Option.some.inj hbj, ← Option.some.inj hai]
          exact h7
        conv => whnf
        refine ⟨by omega, ?_⟩
        conv => whnf
        rw [show Int.toNat 0 + (j : Int).toNat = j by simp, hb]
        cases hty : a.ty == b.ty with
        | false =>
          refine brF rfl ?_
          conv => whnf
          rw [hjw]
          refine ⟨j + 1, [0, 1], h6, by omega, ?_⟩
          conv => whnf
          repeat' (first | exact True.intro | exact rfl | exact fun _ => Iff.rfl | exact fun _ _ => rfl | exact renM_ent rfl _ | refine And.intro ?_ ?_)
        | true =>
          have hsy : saysS ⟨a.nm, a.ty, 0, a.z, a.data⟩ ⟨b.nm, b.ty, 0, a.z, a.data⟩ = false := by
            unfold twoB at htwo
            rw [hty, Bool.true_and] at htwo
            exact htwo
          have c7 := says_ok ⟨a.nm, a.ty, 0, a.z, a.data⟩ ⟨b.nm, b.ty, 0, a.z, a.data⟩
          rw [hsy] at c7
          refine brT rfl ?_
          conv => whnf
          refine .one (.data _ c7 rfl rfl ?_)
          conv => whnf
          refine brF rfl ?_
          conv => whnf
          rw [hjw]
          refine ⟨j + 1, [0, 1], h6, by omega, ?_⟩
          conv => whnf
          repeat' (first | exact True.intro | exact rfl | exact fun _ => Iff.rfl | exact fun _ _ => rfl | exact renM_ent rfl _ | refine And.intro ?_ ?_)
      · conv => whnf
        rw [hiw]
        refine ⟨i + 1, [0], h5, by omega, ?_⟩
        conv => whnf
        repeat' (first | exact True.intro | exact rfl | exact fun _ => Iff.rfl | exact fun _ _ => rfl | exact renM_ent rfl _ | refine And.intro ?_ ?_)
    conv => whnf
    refine .inv Nat (fun i => i ≤ l.length) (fun i => [(98, iV i)]) (fun _ => []) (fun i => l.length - i) ⟨0, [0], Nat.zero_le _, ?_⟩ ?_
    · conv => whnf
      repeat' (first | exact True.intro | exact rfl | exact fun _ => Iff.rfl | exact fun _ _ => rfl | exact renM_ent rfl _ | refine And.intro ?_ ?_)
    intro i hi
    conv => whnf
    refine ⟨fun h5 => ?_, fun h5 => ?_⟩
    · have h5 : i < l.length := by have h : (i : Int) < l.length := of_decide_eq_true h5
                                   omega
      have hiw : IntKind.i64.wrap ((i : Int) + 1) = ((i + 1 : Nat) : Int) := by rw [w64_in _ (by omega)]; omega
      obtain ⟨r, hr⟩ : ∃ r, l.getD i default = r := ⟨_, rfl⟩
      have hrl : l[i]? = some r := by rw [← hr, List.getD, List.getElem?_eq_getElem h5]; rfl
      have hin := hA3 r (List.mem_of_getElem? hrl)
      conv => whnf
      refine ⟨by omega, ?_⟩
      conv => whnf
      rw [Int.toNat_natCast, hr]
      refine .one (.data _ (reccheck_ok r) rfl rfl ?_)
      cases hck : r.check with
      | false =>
        conv => whnf
        refine brT rfl ?_
        conv => whnf
        repeat (first | (refine brT rfl ?_; conv => whnf))
        rw [hiw]
        refine ⟨i + 1, [0], h5, by omega, ?_⟩
        conv => whnf
        repeat' (first | exact True.intro | exact rfl | exact fun _ => Iff.rfl | exact fun _ _ => rfl | exact renM_ent rfl _ | refine And.intro ?_ ?_)
      | true =>
      conv => whnf
      refine brF rfl ?_
      conv => whnf
      cases hcl : r.cl == 1 with
      | false =>
        refine brT (by show (!(r.cl == 1)) = true; rw [hcl]; rfl) ?_
        conv => whnf
        repeat (first | (refine brT rfl ?_; conv => whnf))
        rw [hiw]
        refine ⟨i + 1, [0], h5, by omega, ?_⟩
        conv => whnf
        repeat' (first | exact True.intro | exact rfl | exact fun _ => Iff.rfl | exact fun _ _ => rfl | exact renM_ent rfl _ | refine And.intro ?_ ?_)
      | true =>
      refine brF (by show (!(r.cl == 1)) = false; rw [hcl]; rfl) ?_
      conv => whnf
      cases hty : r.ty == 41 with
      | true =>
        refine brT rfl ?_
        conv => whnf
        repeat (first | (refine brT rfl ?_; conv => whnf))
        rw [hiw]
        refine ⟨i + 1, [0], h5, by omega, ?_⟩
        conv => whnf
        repeat' (first | exact True.intro | exact rfl | exact fun _ => Iff.rfl | exact fun _ _ => rfl | exact renM_ent rfl _ | refine And.intro ?_ ?_)
      | false =>
      have hb : goodR r = true := by unfold goodR rightR; rw [hck, hcl, show (r.ty != 41) = true by show (!(r.ty == 41)) = true; rw [hty]; rfl]; rfl
      have hin := hin hb
      refine brF rfl ?_
      conv => whnf
      refine .inv Nat (fun j => j ≤ A.length) (fun j => [(117, iV j), (14, .d (.bool ((A.take j).any (inA r))))]) (fun _ => []) (fun j => A.length - j) ⟨0, [0, 1], Nat.zero_le _, ?_⟩ ?_
      · conv => whnf
        repeat' (first | exact True.intro | exact rfl | exact subZ_self _ | exact Or.inr rfl | exact fun _ _ => rfl | exact fun _ h => absurd h (Nat.not_lt_zero _) | refine And.intro ?_ ?_)
      intro j hj
      conv => whnf
      refine ⟨fun h6 => ?_, fun h6 => ?_⟩
      · have h6 : j < A.length := by have h : (j : Int) < A.length := of_decide_eq_true h6
                                     omega
        have hjw : IntKind.i64.wrap ((j : Int) + 1) = ((j + 1 : Nat) : Int) := by rw [w64_in _ (by omega)]; omega
        obtain ⟨a, ha⟩ : ∃ a, A.getD j default = a := ⟨_, rfl⟩
        have haj : A[j]? = some a := by rw [← ha, List.getD, List.getElem?_eq_getElem h6]; rfl
        have haok := hA a (List.mem_of_getElem? haj)
        have hal : a.data.length ≤ 64 := ((St.ok_iff a).1 haok).2.2.1.2
        have hany : (A.take (j + 1)).any (inA r) = ((A.take j).any (inA r) || inA r a) := by
          rw [List.take_add_one, haj, List.any_append]; simp
        have hia : inA r a = ((recsS a).any (inX r) || a.data.length == 64) := by unfold inA recsOf; rw [if_pos haok]
        have hrl2 : (recsS a).length ≤ 64 := by unfold recsS; rw [List.length_map]; exact hal
        have c8 := records_ok a
        rw [haok, if_pos rfl] at c8
        rw [hia] at hany
        conv => whnf
        refine ⟨by omega, ?_⟩
        conv => whnf
        rw [Int.toNat_natCast, ha]
        refine .one (.data _ c8 rfl rfl ?_)
        generalize (A.take j).any (inA r) = base at hany ⊢
        generalize recsS a = X at hany hrl2 ⊢
        conv => whnf
        refine .inv Nat (fun k => k ≤ X.length) (fun k => [(124, iV k), (14, .d (.bool (base || (X.take k).any (inX r))))]) (fun _ => []) (fun k => X.length - k) ⟨0, [0, 1, 2], Nat.zero_le _, ?_⟩ ?_
        · rw [show (base || (X.take 0).any (inX r)) = base by simp]
          conv => whnf
          repeat' (first | exact True.intro | exact rfl | exact subZ_self _ | exact Or.inr rfl | exact fun _ _ => rfl | exact fun _ h => absurd h (Nat.not_lt_zero _) | refine And.intro ?_ ?_)
        intro k hk
        conv => whnf
        refine ⟨fun h7 => ?_, fun h7 => ?_⟩
        · have h7 : k < X.length := by have h : (k : Int) < X.length := of_decide_eq_true h7
                                       omega
          have hkw : IntKind.i64.wrap ((k : Int) + 1) = ((k + 1 : Nat) : Int) := by rw [w64_in _ (by omega)]; omega
          obtain ⟨x, hx⟩ : ∃ x, X.getD k default = x := ⟨_, rfl⟩
          have hxk : X[k]? = some x := by rw [← hx, List.getD, List.getElem?_eq_getElem h7]; rfl
          have hnx : (base || (X.take (k + 1)).any (inX r)) = ((base || (X.take k).any (inX r)) || inX r x) := by
            rw [List.take_add_one, hxk, List.any_append, Bool.or_assoc]; simp
          conv => whnf
          refine ⟨by omega, ?_⟩
          conv => whnf
          rw [Int.toNat_natCast, hx]
          cases hv : (base || (X.take k).any (inX r)) with
          | true =>
            rw [hv, Bool.true_or] at hnx
            refine brT rfl ?_
            conv => whnf
            rw [hkw]
            refine ⟨k + 1, [0, 1, 2], h7, by omega, ?_⟩
            rw [hnx]
            conv => whnf
            repeat' (first | exact True.intro | exact rfl | exact subZ_self _ | exact Or.inr rfl | exact fun _ _ => rfl | exact fun _ h => absurd h (Nat.not_lt_zero _) | refine And.intro ?_ ?_)
          | false =>
            rw [hv, Bool.false_or] at hnx
            refine brF rfl ?_
            conv => whnf
            refine .one (.data _ (recsame_ok x r) rfl rfl ?_)
            conv => whnf
            cases hsr : sameRec x r with
            | false =>
              rw [show inX r x = false by unfold inX; rw [hsr]; rfl] at hnx
              refine brF rfl ?_
              conv => whnf
              rw [hkw]
              refine ⟨k + 1, [0, 1, 2], h7, by omega, ?_⟩
              rw [hnx]
              conv => whnf
              repeat' (first | exact True.intro | exact rfl | exact subZ_self _ | exact Or.inr rfl | exact fun _ _ => rfl | exact fun _ h => absurd h (Nat.not_lt_zero _) | refine And.intro ?_ ?_)
            | true =>
              rw [show inX r x = decide (x.ttl ≤ r.ttl) by unfold inX; rw [hsr]; rfl] at hnx
              refine brT rfl ?_
              conv => whnf
              rw [hkw]
              refine ⟨k + 1, [0, 1, 2], h7, by omega, ?_⟩
              rw [hnx]
              conv => whnf
              repeat' (first | exact True.intro | exact rfl | exact subZ_self _ | exact Or.inr rfl | exact fun _ _ => rfl | exact fun _ h => absurd h (Nat.not_lt_zero _) | refine And.intro ?_ ?_)
        · have h7 : k = X.length := by have h : ¬ (k : Int) < X.length := of_decide_eq_false h7
                                       omega
          rw [h7, List.take_length]
          conv => whnf
          rw [← Bool.or_assoc] at hany
          cases hv : (base || X.any (inX r)) with
          | true =>
            rw [hv, Bool.true_or] at hany
            refine brT rfl ?_
            conv => whnf
            rw [hjw]
            refine ⟨j + 1, [0, 1], h6, by omega, ?_⟩
            rw [hany]
            conv => whnf
            repeat' (first | exact True.intro | exact rfl | exact subZ_self _ | exact Or.inr rfl | exact fun _ _ => rfl | exact fun _ h => absurd h (Nat.not_lt_zero _) | refine And.intro ?_ ?_)
          | false =>
            rw [hv, Bool.false_or] at hany
            refine brF rfl ?_
            conv => whnf
            rw [hjw]
            refine ⟨j + 1, [0, 1], h6, by omega, ?_⟩
            rw [hany, show (a.data.length == 64) = ((a.data.length : Int) == 64) by rw [Bool.eq_iff_iff]; simp; omega]
            conv => whnf
            repeat' (first | exact True.intro | exact rfl | exact subZ_self _ | exact Or.inr rfl | exact fun _ _ => rfl | exact fun _ h => absurd h (Nat.not_lt_zero _) | refine And.intro ?_ ?_)
      · have h6 : j = A.length := by have h : ¬ (j : Int) < A.length := of_decide_eq_false h6
                                     omega
        rw [h6, List.take_length, hin]
        conv => whnf
        refine brF rfl ?_
        conv => whnf
        rw [hiw]
        refine ⟨i + 1, [0], h5, by omega, ?_⟩
        conv => whnf
        repeat' (first | exact True.intro | exact rfl | exact fun _ => Iff.rfl | exact fun _ _ => rfl | exact renM_ent rfl _ | refine And.intro ?_ ?_)
    · conv => whnf
      try exact rfl
end Go.Proofs.Ytdphkaiijlekhaa
namespace Go.Proofs.Ytdphkaiijlekhaa
open Go Go.Eng Go.ChangeShapes Go.WideShapes Go.RowKit

theorem own : ownKnob Try.prog.godebug = none := by kernel_rfl
theorem kids : Kids Try.prog (· < Try.prog.types.size) := kids_rows (by kernel_rfl) (by kernel_rfl)
theorem full : ∀ t e, t < Try.prog.types.size → Try.prog.underlying t = some (.slice e) → 0 < Try.prog.cellsOf e := slices_full_of Try.prog (by kernel_rfl)

theorem u_int {k : IntKind} {n : Int} (h : (Lit.int k n).wf = true) : k.min ≤ n ∧ n ≤ k.max := by
  simpa [Lit.wf] using h
theorem texts_of {ds : List DV} (h : DT Try.prog 31 ds) : ∃ (b : Bool) (l : List (List UInt8)) (d : DV), ds = [d] ∧ DS d (.sl b l.length 1 (strs l)) ∧ (b = true → l.length = 0) := by
  have c9 : Try.prog.cellsOf 9 = 1 := by kernel_rfl
  cases h with
  | nil _ e h1 => exact ⟨true, [], _, rfl, .none _ _ _ _ _, fun _ => rfl⟩
  | sl _ e n f h1 h2 h3 =>
    have he : e = 9 := by
      rw [Try.underlying31] at h1
      cases h1; rfl
    subst he
    let g : Nat → List UInt8 := fun i => if hi : i < n then ((h3 i hi).str_inv Try.underlying9).choose else []
    refine ⟨false, (List.range n).map g, _, rfl, ?_, fun e => by cases e⟩
    rw [c9, List.length_map, List.length_range]
    refine .rows fun i hi => ?_
    have h4 := ((h3 i hi).str_inv Try.underlying9).choose_spec.1
    have : strs ((List.range n).map g) i = [.str (g i)] := by simp [strs, hi]
    rw [this, h4]
    simp only [g, hi, dif_pos]
    exact DSL.refl _
  | _ => simp_all [Try.underlying31]
set_option maxRecDepth 100000 in
/-- A set, out of its cells. -/
theorem set_of {ds : List DV} (h : DT Try.prog 33 ds) : ∃ (nm : List UInt8) (ty ttl : Int) (b : Bool) (l : List (List UInt8)) (d : DV), ds = [.str nm, .int .u16 ty, .int .u32 ttl, d] ∧ DS d (.sl b l.length 1 (strs l)) ∧ (b = true → l.length = 0) ∧ nm.length ≤ maxLen ∧ 0 ≤ ttl ∧ ttl ≤ 4294967295 := by
  obtain ⟨hl, hf⟩ := h.struct_inv Try.underlying33
  have cs : Try.prog.cellsOf 33 = 4 := by kernel_rfl
  rw [cs] at hl
  match ds, hl with
  | [a0, a1, a2, a3], _ =>
    have c1 : Try.prog.cellsOf 9 = 1 := by kernel_rfl
    have c2 : Try.prog.cellsOf 24 = 1 := by kernel_rfl
    have c3 : Try.prog.cellsOf 30 = 1 := by kernel_rfl
    have c4 : Try.prog.cellsOf 31 = 1 := by kernel_rfl
    simp [c1, c2, c3, c4] at hf
    obtain ⟨k0, k1, k2, k3⟩ := hf
    obtain ⟨n0, e0, q0⟩ := k0.str_inv Try.underlying9
    obtain ⟨n1, e1, _⟩ := k1.int_inv Try.underlying24
    obtain ⟨n2, e2, w2⟩ := k2.int_inv Try.underlying30
    obtain ⟨b, l, d, e3, h3, h4⟩ := texts_of k3
    simp only [List.cons.injEq, and_true] at e0 e1 e2 e3
    subst e0 e1 e2 e3
    have := u_int w2
    exact ⟨n0, n1, n2, b, l, _, rfl, h3, h4, q0, this⟩

end Go.Proofs.Ytdphkaiijlekhaa
namespace Go.Proofs.Ytdphkaiijlekhaa
open Go Go.Eng Go.ChangeShapes Go.WideShapes Go.RowKit
theorem DT.sl_inv2 {P : Program} {t : TypeId} {ds : List DV} {e : TypeId} (h : DT P t ds) (hu : P.underlying t = some (.slice e)) : ∃ nil n f, ds = [.sl nil n (P.cellsOf e) f] ∧ (nil = true → n = 0) ∧ ∀ i, i < n → DT P e (f i) := by
  cases h with
  | nil _ e' h1 => rw [hu] at h1; cases h1; exact ⟨true, 0, _, rfl, fun _ => rfl, fun i hi => absurd hi (by omega)⟩
  | sl _ e' n f h1 h2 h3 => rw [hu] at h1; cases h1; exact ⟨false, n, f, rfl, (fun h => by cases h), h3⟩
  | _ => simp_all
set_option maxRecDepth 100000 in
theorem rr_of {ds : List DV} (h : DT Try.prog 60 ds) : ∃ q : RR, ds = q.enc ∧ q.Ok := by
  obtain ⟨hl, hf⟩ := h.struct_inv Try.underlying60
  have cs : Try.prog.cellsOf 60 = 5 := by kernel_rfl
  rw [cs] at hl
  match ds, hl with
  | [a0, a1, a2, a3, a4], _ =>
    have c1 : Try.prog.cellsOf 9 = 1 := by kernel_rfl
    have c2 : Try.prog.cellsOf 24 = 1 := by kernel_rfl
    have c3 : Try.prog.cellsOf 23 = 1 := by kernel_rfl
    have c4 : Try.prog.cellsOf 30 = 1 := by kernel_rfl
    simp [c1, c2, c3, c4] at hf
    obtain ⟨k0, k1, k2, k3, k4⟩ := hf
    obtain ⟨n0, e0, q0⟩ := k0.str_inv Try.underlying9
    obtain ⟨n1, e1, w1⟩ := k1.int_inv Try.underlying24
    obtain ⟨n2, e2, w2⟩ := k2.int_inv Try.underlying23
    obtain ⟨n3, e3, w3⟩ := k3.int_inv Try.underlying30
    obtain ⟨n4, e4, q4⟩ := k4.str_inv Try.underlying9
    simp only [List.cons.injEq, and_true] at e0 e1 e2 e3 e4
    subst e0 e1 e2 e3 e4
    exact ⟨⟨n0, n1, n2, n3, n4⟩, rfl, ⟨u_int w1, u_int w2, u_int w3⟩⟩
theorem rrs_of {ds : List DV} (h : DT Try.prog 47 ds) : ∃ (b : Bool) (l : List RR) (d : DV), ds = [d] ∧ DS d (rrsD b l) ∧ (∀ a ∈ l, a.Ok) := by
  obtain ⟨z, n, f, rfl, hz, hf⟩ := DT.sl_inv2 h Try.underlying47
  have cs : Try.prog.cellsOf 60 = 5 := by kernel_rfl
  let g : Nat → RR := fun i => if hi : i < n then (rr_of (hf i hi)).choose else default
  have hg : ∀ i (hi : i < n), f i = (g i).enc ∧ (g i).Ok := fun i hi => by
    have := (rr_of (hf i hi)).choose_spec
    simpa only [g, hi, dif_pos] using this
  refine ⟨z, (List.range n).map g, _, rfl, ?_, fun a ha => ?_⟩
  · rw [cs]
    unfold rrsD
    rw [List.length_map, List.length_range]
    refine .rows fun i hi => ?_
    have : ((List.range n).map g).getD i default = g i := by simp [List.getD, hi]
    rw [this, (hg i hi).1]
    exact DSL.refl _
  · obtain ⟨i, hi, rfl⟩ := List.mem_map.1 ha
    exact (hg i (List.mem_range.1 hi)).2
end Go.Proofs.Ytdphkaiijlekhaa
namespace Go.Proofs.Ytdphkaiijlekhaa
open Go Go.Eng Go.ChangeShapes Go.WideShapes Go.RowKit

theorem setsalone_contract (dss : List (List DV)) (h : DTs Try.prog Try.f6.params.toList dss) : FnOk Try.prog 6 (argsSV Try.prog Try.f6.params.toList dss) (.d (.bool true)) := by
  rw [Try.params6] at h ⊢
  match dss, h with
  | [a0, a1], ⟨h0, h1, _⟩ =>
    obtain ⟨nm, ty, ttl, b, ds, d0, rfl, hd0, _⟩ := set_of h0
    obtain ⟨z, l, d, rfl, hd, _⟩ := rrs_of h1
    have ha2 : argsSV Try.prog #[33, 47].toList [[.str nm, .int .u16 ty, .int .u32 ttl, d0], [d]] = [.agg [.d (.str nm), .d (.int .u16 ty), .d (.int .u32 ttl), .d d0], .d d] := by
      simp [argsSV, argSV, oneSV, Try.underlying33, Try.underlying47]
    rw [ha2]
    exact (setsalone_ok ⟨nm, ty, ttl, b, ds⟩ z l).convA ⟨AEq.aggL ⟨.refl _, .refl _, .refl _, .d hd0, True.intro⟩, .d hd, True.intro⟩
set_option maxRecDepth 100000 in
theorem setsalone_lifted (os : Os) (started : os.Started) (H : Type) (enc : TypeId × Value → H) :
    ReturnsInHanded {} Try.checked os 6 .any (Rows.setsAloneSpec.pre6 enc Try.prog Try.f6 [] false)
      (Rows.setsAloneSpec.post enc Try.prog Try.f6 false true false false) := by
  refine returnsInHanded_of_change (C := Try.checked) own started (by kernel_rfl) Try.func6
    (ChangeSpec.witness6 (enc := enc) (C := Try.checked) (os := os) false ⟨#[], #[.agg #[.string ⟨#[]⟩, .int .u16 0, .int .u32 0, .slice none 0 0], .slice none 0 0], []⟩ 8 (by kernel_rfl) (by kernel_rfl) (by kernel_rfl) (by kernel_rfl) (by kernel_rfl)) ?_
  intro W base args ds gs before hval0 hW _ _
  have hlen : ∃ d1 d2, ds = [d1, d2] := by
    obtain ⟨p, q, hA, _⟩ := hW
    have hA : DataW.TrodAll enc Try.prog W 0 (fun _ => true) true Try.f6.params.toList args.toList ds p := hA
    have := trodAll_len hA
    rw [Try.params6] at this
    match ds, this with
    | [d1, d2], _ => exact ⟨d1, d2, rfl⟩
  obtain ⟨d1, d2, rfl⟩ := hlen
  exact law_calls kids full (m := 8) (fun t ht => by
    rw [Try.params6] at ht
    simp at ht
    rcases ht with rfl | rfl <;> exact ⟨by kernel_rfl, of_decide_eq_true (by kernel_rfl)⟩) setsalone_contract hval0 rfl hW (by kernel_rfl) Try.underlying4 ⟨rfl, rfl, rfl⟩

theorem setsalone_holds : Rows.SetsAloneSaid :=
  OpenClaim.holds_of_wide 6 Try.f6 rfl rfl rfl rfl rfl rfl rfl ⟨rfl, rfl, rfl, rfl, rfl⟩ rfl rfl rfl rfl rfl (by kernel_rfl) Try.func6 (by kernel_rfl)
    (of_decide_eq_true (by kernel_rfl)) (by unfold Func.isWrapper; rw [if_neg (of_decide_eq_false (by kernel_rfl))]; exact ⟨rfl, rfl⟩)
    (fun os started H enc _ => setsalone_lifted os started H enc)
end Go.Proofs.Ytdphkaiijlekhaa
