/-
  StatsParts returns true for every data of its types.
-/
import Derived.Test.YtjeofhjlmhljhaaDoorEg28
import Derived.Test.YtjeofhjlmhljhaaDoorLives
import Derived.Test.YtjeofhjlmhljhaaDoorLaw
namespace Go.Proofs.YtjeofhjlmhljhaaDoor
open Go Go.Eng
set_option maxRecDepth 100000
set_option maxHeartbeats 2000000 in
theorem parts_ok (now : Int) (nb no : Bool) (b o : List Held) (k : Int) (hk : 0 ≤ k ∧ k < 65536) (hn : -9223372036854775808 ≤ now ∧ now ≤ 9223372036854775807) (hb : ∀ h ∈ b, 0 ≤ h.rank ∧ h.rank < 256) (ho : ∀ h ∈ o, 0 ≤ h.rank ∧ h.rank < 256) : FnOk Tryd.prog 3 [.d (.int .i64 now), .d (heldsD nb b), .d (heldsD no o), .d (.int .u16 k)] (.d (.bool true)) := by
  refine fnOk_of_run (TT := TT) (IN := lookI []) TT_ok INok_nil mixed 1000 Tryd.func3 rfl (enters Tryd.func3 (by kernel_rfl) rfl) rfl 89 (by kernel_rfl) ?_
  conv => whnf
  refine .one (.data (.d (.bool true)) lives_ok rfl rfl ?_)
  conv => whnf
  refine ⟨fun h => absurd h (by decide), fun _ => ?_⟩
  conv => whnf
  refine ⟨fun h1 => rfl, fun h1 => ?_⟩
  conv => whnf
  refine ⟨fun h1 => rfl, fun h2 => ?_⟩
  conv => whnf
  refine ⟨fun h1 => rfl, fun h3 => ?_⟩
  have h1' : b.length ≤ 500 := by simp at h1; omega
  have h2' : o.length ≤ 500 := by simp at h2; omega
  have h3' : now ≤ 4611686018427387904 := by simpa using h3
  conv => whnf
  refine .one (.data (.agg (statsOf now b).enc) (of_ok now nb b (by omega) hb) rfl rfl ?_)
  conv => whnf
  refine .one (.data (.agg (statsOf now o).enc) (of_ok now no o (by omega) ho) rfl rfl ?_)
  conv => whnf
  refine ⟨by omega, ?_⟩
  conv => whnf
  refine ⟨by omega, ?_⟩
  conv => whnf
  refine .one (.look (.agg (statsOf now (b ++ o)).enc) ?_ rfl ?_)
  · conv => whnf
    refine ⟨(of_ok now false (b ++ o) (by simp; omega) (fun h hh => (List.mem_append.1 hh).elim (hb h) (ho h))).conv ⟨.refl _, ?_, True.intro⟩, rfl⟩
    unfold heldsD
    rw [List.length_append, Nat.zero_add]
    refine .rows fun i hi => ?_
    have : catF b.length (catF 0 (chunk [] 8) fun i => (b.getD i default).enc) (fun i => (o.getD i default).enc) i = ((b ++ o).getD i default).enc := by
      unfold catF
      simp only [Nat.not_lt_zero, if_false, Nat.sub_zero]
      split
      · rename_i hl; simp [List.getD, List.getElem?_append, hl]
      · rename_i hl; simp [List.getD, List.getElem?_append, hl]
    rw [this]
    exact DSL.refl _
  conv => whnf
  refine .one (.data (.agg (statsOf (IntKind.i64.wrap (now + IntKind.i64.wrap k)) b).enc) (of_ok _ nb b (by omega) hb) rfl rfl ?_)
  conv => whnf
  refine .data (.agg ((statsOf now b).add (statsOf now o)).enc) (add_ok _ _) rfl rfl ?_
  conv => whnf
  have happ := statsOf_append now b o h1' h2'
  have hcom := (statsOf now b).add_comm (statsOf now o)
  obtain ⟨l1, l2, l3, l4⟩ := parts_rest now k b ⟨hk.1, by omega⟩ ⟨hn.1, h3'⟩ h1'
  have htr : ∀ {c : Bool} {A B : Prop}, c = true → A → (c = true → A) ∧ (c = false → B) := fun h a => ⟨fun _ => a, fun e => by rw [h] at e; cases e⟩
  refine htr (by rw [happ]; simp) ?_
  conv => whnf
  refine .data (.agg ((statsOf now o).add (statsOf now b)).enc) (add_ok _ _) rfl rfl ?_
  conv => whnf
  refine htr (by rw [happ, hcom]; simp) ?_
  conv => whnf
  refine htr (beq_iff_eq.2 l1) ?_
  conv => whnf
  refine htr (decide_eq_true l2) ?_
  conv => whnf
  refine htr (decide_eq_true l3) ?_
  conv => whnf
  refine ⟨fun _ => rfl, fun hz => ?_⟩
  have hz' : ¬ (statsOf now b).live = 0 := by simpa using hz
  conv => whnf
  exact congrArg DV.bool (decide_eq_true (l4.resolve_left hz'))
end Go.Proofs.YtjeofhjlmhljhaaDoor
