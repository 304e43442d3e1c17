/-
  The engine, part 24: `run` is sound; contracts out of it.
-/
import Derived.Test.YtjeofhjlmhljhaaDoorEg23
namespace Go.Eng
open Go Go.RowKit

section
variable {P : Program} {TT : Nat → Option TI} {IN : Nat → Option Inl}

/-- What `run` comes to, at so much fuel. -/
def Sound (P : Program) (TT : Nat → Option TI) (IN : Nat → Option Inl) (m : Nat) : Prop :=
  ∀ (B : Bs) (nb : Nat) (rd : Option Nat) (n : Nat) (Q : Exit → Act → World → Prop) (K : Exit → List SV → List KB → Prop), (∀ i, nb ≤ i → B.β0 i = none) →
    (∀ e ts ks a w β fp, K e ts ks → Sat B w β fp ts ks a → Q e a w) →
    ∀ (stk : List It) (ts : List SV) (ks : List KB) (a : Act) (w : World) (β : Env) (fp : Nat → Nat → Prop), run P TT IN m nb stk ts ks K → okStk stk → Sat B w β fp ts ks a →
      E P rd n (fun J a w => ∃ ts ks β fp, J ts ks ∧ Sat B w β fp ts ks a) Q stk .normal a w

theorem execS_sound (hTT : TTok P TT) (hIN : INok P IN) {m : Nat} (IH : Sound P TT IN m) {B : Bs} {w : World} {β : Env} {fp : Nat → Nat → Prop} {ts : List SV} {ks : List KB} {a : Act} {rd : Option Nat} {n : Nat} {Q : Exit → Act → World → Prop} {o : Oper} {K : List SV → List KB → Prop} {next : Act → World → Prop}
    (h : execS P TT IN (run P TT IN m) o ts ks K) (hS : Sat B w β fp ts ks a) (hn : ∀ ts' ks' a' w' β' fp', K ts' ks' → Sat B w' β' fp' ts' ks' a' → next a' w') : o.wpIn (wideF rd) n P a w next Q := by
  have hM := hS.went.mem
  have hT := hS.val
  have done : ∀ (s : SV) (k1 : List KB) (v : Value) (w' : World) (β' : Env) (fp' : Nat → Nat → Prop), K (putT o.dst s ts) k1 → Went B.X w β fp w' β' fp' k1 → Den w' (Mx B.X fp') β' s v → next (a.put o.dst v) w' := fun s k1 v w' β' fp' hk hW hd =>
    hn _ _ _ _ _ _ hk ((hS.on hW).put _ hd)
  unfold execS at h
  split at h
  · rename_i g args tys ho
    rw [valK_eq] at h
    have hv := hT g
    split at h
    · rename_i f caps hg
      rw [hg] at hv
      rw [valsK_eq, appK_eq] at h
      obtain ⟨vs, ev, hl, hd⟩ := fn_value hv
      split at h
      · rename_i nargs extra results body hin
        split at h
        · rename_i hbeq
          rw [lenL_eq] at hbeq
          have hbeq := beq_of hbeq
          rw [appK_eq, lenBK_eq, Nat.zero_add] at h
          obtain ⟨fn, hfn, hbody, hres, hnt, hent⟩ := hIN f _ hin
          simp only at hbody hres hnt
          obtain ⟨al, ad⟩ := args_den (a := a) hT args.toList caps vs hl hd
          refine call_wp ho ev hent (R := fun e w' => ∃ v, e = .returned v ∧ next (a.put o.dst v) w') ?_ (fun e w' he => he)
          refine (callsIn_wide (n := 0)).1 (callsIn_of_wp_marks hfn hbody trivial ?_ rfl)
          have hS0 := enter_sat hM al ad (k := extra) (m := fn.ntmps) (by omega)
          have := IH ⟨B.X, w, β, fp⟩ ks.length none 0 (bodyPostM (wideF none) 0 P fn (fun e w' => ∃ v, e = .returned v ∧ next (a.put o.dst v) w')) _ hM.kl (fun e ts2 ks2 a2 w2 β2 fp2 hK hS2 => by
            have fin : resK TT ts2 ks2 results (fun vs => putDst o.dst (retV vs) ts (fun ts' => K ts' ks2)) → LeavesInM (wideF none) 0 P fn a2.tmps (fun e w' => ∃ v, e = .returned v ∧ next (a.put o.dst v) w') a2.defers .returning w2 := fun hK => by
              refine leave_marks (a := a2) (fun w3 hS3 => ?_) a2.defers w2 hS2
              rw [← hres] at hK
              obtain ⟨ss, us, v, hc, e1, e3, hrun, _, hden⟩ := results_spec (P := P) hTT hS3 hK
              rw [putDst_eq] at hc
              exact ⟨v, hrun, v, rfl, done _ _ _ _ _ _ hc hS3.went hden⟩
            cases e with
            | normal => exact fin hK
            | ret => exact fin hK
            | _ => exact hK.elim) [.code body] _ _ _ _ _ _ h trivial hS0
          exact wpIn_mono this (fun e a' w' he => he)
        · exact h.elim
      · refine seqStop_sound hTT ho ev hl hd h hM hT (fun s k1 v w' β' fp' hk hW hden => ?_)
        rw [putDst_eq] at hk
        exact done _ _ _ _ _ _ hk hW hden
    · exact h.elim
  · split at h
    · refine mev_sound hTT h hM hT (fun s k1 v w' β' fp' hk hW hden => ?_)
      rw [putDst_eq] at hk
      exact done _ _ _ _ _ _ hk hW hden
    · obtain ⟨s, v, hk, hrun, hd⟩ := pev_sound hTT h hT hM.kb' hM.apart
      rw [putDst_eq] at hk
      exact wpIn_of_run (nodefer_pev h) hrun (done _ _ _ _ _ _ hk (Went.refl hM) hd)

theorem ops_head {all os : List Oper} {o : Oper} (h : ∃ i, all.drop i = o :: os) : all.toArray[all.length - (o :: os).length]? = some o ∧ all.length - (o :: os).length + 1 = all.length - os.length ∧ ∃ i, all.drop i = os := by
  obtain ⟨i, hd⟩ := h
  have hlt : i < all.length := by
    rcases Nat.lt_or_ge i all.length with h | h
    · exact h
    · rw [List.drop_eq_nil_of_le h] at hd; cases hd
  have hl : (o :: os).length = all.length - i := by rw [← hd]; simp
  rw [List.drop_eq_getElem_cons hlt] at hd
  obtain ⟨h1, h2⟩ := List.cons.inj hd
  have hi : all.length - (o :: os).length = i := by omega
  rw [hi]
  refine ⟨by simp [hlt, h1], by simp at hl; omega, i + 1, h2⟩

theorem run_sound (hTT : TTok P TT) (hIN : INok P IN) (hmix : P.follows .mixedOrders = true) : ∀ m, Sound P TT IN m := by
  intro m
  induction m using Nat.strongRecOn with
  | _ m ih =>
  intro B nb rd n Q K hnb hQ stk ts ks a w β fp h hok hS
  cases m with
  | zero => exact h.elim
  | succ m =>
    rw [run_succ] at h
    have IH := fun stk ts ks a w β fp h hok hS => ih m (by omega) B nb rd n Q K hnb hQ stk ts ks a w β fp h hok hS
    unfold stepF at h
    split at h
    · exact hQ _ _ _ _ _ _ _ h hS
    · rename_i id r
      exact IH r _ _ _ _ _ _ h hok hS
    · exact ⟨_, _, _, _, h, hS⟩
    · cases hok.1
    · rename_i hs all os r
      obtain ⟨_, hdrop, hok'⟩ := hok
      cases os with
      | nil =>
        simp only at h
        show wpOpsIn _ _ _ _ _ (List.range' _ 0) _ _
        simpa [wpOpsIn] using IH _ _ _ _ _ _ _ h hok' hS
      | cons o os =>
        simp only at h
        obtain ⟨hi, hi1, hdrop'⟩ := ops_head hdrop
        show wpOpsIn _ _ _ _ _ (List.range' (all.length - (o :: os).length) (o :: os).length) _ _
        rw [List.length_cons, List.range'_succ, wpOpsIn_cons]
        rw [List.length_cons] at hi hi1
        have okr : okStk (.ops false hs all os :: r) := ⟨rfl, hdrop', hok'⟩
        have rest : ∀ ts' ks' a' w' β' fp', run P TT IN m nb (.ops false hs all os :: r) ts' ks' K → Sat B w' β' fp' ts' ks' a' → wpOpsIn (wideF rd) n P all.toArray (E P rd n (fun J a w => ∃ ts ks β fp, J ts ks ∧ Sat B w β fp ts ks a) Q r) (List.range' (all.length - (os.length + 1) + 1) os.length) a' w' := fun ts' ks' a' w' β' fp' hr hS' => by
          rw [hi1]
          exact IH _ _ _ _ _ _ _ hr okr hS'
        have doit : ∀ (g : guardOk all ts o = some true), execS P TT IN (run P TT IN m) o ts ks (fun ts' ks' => run P TT IN m nb (.ops false hs all os :: r) ts' ks' K) → wpOpIn (wideF rd) n P all.toArray (E P rd n (fun J a w => ∃ ts ks β fp, J ts ks ∧ Sat B w β fp ts ks a) Q r) (all.length - (os.length + 1)) (wpOpsIn (wideF rd) n P all.toArray (E P rd n (fun J a w => ∃ ts ks β fp, J ts ks ∧ Sat B w β fp ts ks a) Q r) (List.range' (all.length - (os.length + 1) + 1) os.length)) a w := fun hg h => by
          unfold wpOpIn
          have hw := wanted_of (all := all) hS.slot hg
          simp only [hi, hw, if_true]
          exact execS_sound hTT hIN (ih m (by omega)) h hS (fun ts' ks' a' w' β' fp' hr hS' => rest ts' ks' a' w' β' fp' hr hS')
        have skip : ∀ (g : guardOk all ts o = some false), putDst o.dst .any ts (fun ts' => run P TT IN m nb (.ops false hs all os :: r) ts' ks K) → wpOpIn (wideF rd) n P all.toArray (E P rd n (fun J a w => ∃ ts ks β fp, J ts ks ∧ Sat B w β fp ts ks a) Q r) (all.length - (os.length + 1)) (wpOpsIn (wideF rd) n P all.toArray (E P rd n (fun J a w => ∃ ts ks β fp, J ts ks ∧ Sat B w β fp ts ks a) Q r) (List.range' (all.length - (os.length + 1) + 1) os.length)) a w := fun hg h => by
          unfold wpOpIn
          have hw := wanted_of (all := all) hS.slot hg
          simp only [hi, hw, Bool.false_eq_true, if_false]
          rw [putDst_eq] at h
          exact ⟨fun _ _ => trivial, rest _ _ _ _ _ _ h (hS.put _ (.any _))⟩
        split at h
        · rename_i hg
          exact doit (by simp [guardOk, hg]) h
        · rename_i j want hg
          split at h
          · exact h.elim
          · rename_i t hd
            rw [getTK_eq] at h
            split at h
            · rename_i hv
              split at h
              · exact doit (by simp [guardOk, hg, hd, hv]) h
              · exact skip (by simp [guardOk, hg, hd, hv]) h
            · rename_i hv
              split at h
              · exact doit (by simp [guardOk, hg, hd, hv]) h
              · exact skip (by simp [guardOk, hg, hd, hv]) h
            · rename_i b hv
              have okc : okStk (.ops false hs all (o :: os) :: r) := ⟨rfl, hdrop, hok'⟩
              have fin : run P TT IN m nb (.ops false hs all (o :: os) :: r) (setT ts t (.d (if b then .tt else .ff))) ks K → wpOpIn (wideF rd) n P all.toArray (E P rd n (fun J a w => ∃ ts ks β fp, J ts ks ∧ Sat B w β fp ts ks a) Q r) (all.length - (os.length + 1)) (wpOpsIn (wideF rd) n P all.toArray (E P rd n (fun J a w => ∃ ts ks β fp, J ts ks ∧ Sat B w β fp ts ks a) Q r) (List.range' (all.length - (os.length + 1) + 1) os.length)) a w := fun h => by
                have := IH _ _ _ _ _ _ _ h okc (hS.refine_ t hv)
                have this : wpOpsIn (wideF rd) n P all.toArray (E P rd n (fun J a w => ∃ ts ks β fp, J ts ks ∧ Sat B w β fp ts ks a) Q r) (List.range' (all.length - (o :: os).length) (o :: os).length) a w := this
                rw [List.length_cons, List.range'_succ, wpOpsIn_cons] at this
                exact this
              cases b with
              | true => have := h.1 rfl; rw [setK_eq] at this; exact fin this
              | false => have := h.2 rfl; rw [setK_eq] at this; exact fin this
            · exact h.elim
    · rename_i c r
      have hok' : okStk r := hok
      show c.wpIn (wideF rd) n P (E P rd n _ Q r) a w
      split at h
      · exact wpIn_skip (IH _ _ _ _ _ _ _ h hok' hS)
      · exact wpIn_label (IH _ _ _ _ _ _ _ h hok' hS)
      · rename_i c1 c2
        refine wpIn_seq ?_
        have := IH _ _ _ _ _ _ _ h hok' hS
        refine wpIn_mono this (fun e a' w' he => ?_)
        cases e <;> exact he
      · rename_i id c1
        refine wpIn_block ?_
        have := IH _ _ _ _ _ _ _ h hok' hS
        refine wpIn_mono this (fun e a' w' he => ?_)
        cases e <;> exact he
      · rename_i id
        refine wpIn_exit (E_exit id r a w (fun r' hr' => ?_) (fun hr' => ?_))
        · rw [hr'] at h
          exact IH _ _ _ _ _ _ _ h (popTo_ok hr' hok') hS
        · rw [hr'] at h
          exact hQ _ _ _ _ _ _ _ h hS
      · exact wpIn_ret (E_ret r a w (hQ _ _ _ _ _ _ _ h hS))
      · rename_i id ops draw
        cases draw with
        | false =>
          refine wpIn_region ?_
          have := IH _ _ _ _ _ _ _ h ⟨rfl, ⟨0, rfl⟩, hok'⟩ hS
          have this : wpOpsIn (wideF rd) n P ops.toList.toArray (E P rd n (fun J a w => ∃ ts ks β fp, J ts ks ∧ Sat B w β fp ts ks a) Q r) (List.range' (ops.toList.length - ops.toList.length) ops.toList.length) a w := this
          rw [Nat.sub_self] at this
          simpa [List.range_eq_range'] using this
        | true =>
          obtain ⟨n', ts', ks', hs, hn, htr, hdr, hrun⟩ := run_ops _ _ _ _ _ h
          rw [revB_eq, revB_eq, List.append_nil, List.append_nil, List.reverse_reverse] at hdr
          exact region_draw hTT hmix hdr htr hS (fun a' w' β' fp' hS' => ih n' (by omega) B nb rd n Q K hnb hQ _ _ _ _ _ _ _ hrun hok' hS')
      · rename_i cnd x y
        rw [valK_eq] at h
        have hv := hS.val cnd
        split at h
        · rename_i hx; rw [hx] at hv
          exact wpIn_cond_true (rd_tf hv) (IH _ _ _ _ _ _ _ h hok' hS)
        · rename_i hx; rw [hx] at hv
          exact wpIn_cond_false (rd_tf hv) (IH _ _ _ _ _ _ _ h hok' hS)
        · rename_i b hx; rw [hx] at hv
          cases b with
          | true => exact wpIn_cond_true (rd_tf hv) (IH _ _ _ _ _ _ _ (h.1 rfl) hok' hS)
          | false => exact wpIn_cond_false (rd_tf hv) (IH _ _ _ _ _ _ _ (h.2 rfl) hok' hS)
        · exact h.elim
      · exact wpIn_of_again (IH _ _ _ _ _ _ _ h hok' hS)
      · exact h.elim
    · rename_i body r
      have hok' : okStk r := hok
      show Again (wideF rd) n P body (E P rd n _ Q r) a w
      cases h with
      | once h =>
        refine again_round ?_
        have := IH _ _ _ _ _ _ _ h hok' hS
        refine wpIn_mono this (fun e a' w' he => ?_)
        cases e <;> exact he
      | nilT t e sz f sz' f' ht h =>
        rw [lenB_eq, addB_eq] at h
        have hW := hS.went.mem.nilRow e sz .iff (by simp) f
        have hS' := hS.on hW
        refine IH _ _ _ _ _ _ _ h hok' ⟨hS'.went, hS'.df, by rw [setT_eq]; simpa using hS'.len, fun u s v hs hv => ?_⟩
        rw [setT_eq, List.getElem?_set] at hs
        split at hs
        · rename_i eu
          subst eu
          split at hs
          · rename_i hlt
            cases hs
            rw [getT_eq, List.getElem?_eq_getElem hlt] at ht
            have hd := hS.tm t _ v (List.getElem?_eq_getElem hlt) hv
            simp only [Option.getD_some] at ht
            rw [ht] at hd
            cases den_data hd
            exact .allNil _ _ (upd_same _ _ _) rfl
          · cases hs
        · exact hS'.tm u s v hs hv
      | nilC i j e sz f sz' f' t l hg hj h =>
        rw [lenB_eq, addB_eq, setB_eq, setT_eq] at h
        have hki := getB_some hg (by simp)
        have hW := hS.went.mem.nilRow e sz .iff (by simp) f
        have hS' := hS.on hW
        have hil : i < ks.length := (List.getElem?_eq_some_iff.1 hki).1
        have hm := hS'.went.mem
        refine IH _ _ _ _ _ _ _ h hok' ⟨⟨⟨⟨hm.xa, hm.xb, hm.dis, hm.kw, hm.kn, fun q L k hk hne hL => ?_⟩, fun q hq => hm.kl q (by simpa using hq)⟩, hS'.went.st, hS'.went.ext, hS'.went.own⟩, hS'.df, hS'.len, hS'.tm⟩
        by_cases hq : q < ks.length
        · rw [List.getElem?_append_left (by simpa using hq), List.getElem?_set] at hk
          split at hk
          · rename_i eq
            subst eq
            cases hk
            have hkb := hm.kb i L (.cells t l) (by rw [List.getElem?_append_left hil]; exact hki) (by simp) hL
            cases hkb with
            | cells _ _ vs h0 h1 h3 h4 h5 =>
              refine .cells t _ vs h0 h1 (by simpa using h3) (fun p s u hs hu => ?_) h5
              rw [List.getElem?_set] at hs
              split at hs
              · rename_i ep
                subst ep
                split at hs
                · rename_i hlt
                  cases hs
                  rw [getT_eq, List.getElem?_eq_getElem hlt] at hj
                  have hd := h4 j _ u (List.getElem?_eq_getElem hlt) hu
                  simp only [Option.getD_some] at hj
                  rw [hj] at hd
                  cases den_data hd
                  exact .allNil _ _ (upd_same _ _ _) rfl
                · cases hs
              · exact h4 p s u hs hu
          · exact hm.kb q L k (by rw [List.getElem?_append_left hq]; exact hk) hne hL
        · rw [List.getElem?_append_right (by simp; omega)] at hk
          exact hm.kb q L k (by rw [List.getElem?_append_right (by omega)]; simpa using hk) hne hL
      | inv ι ok u k μ hstart hround =>
        obtain ⟨i0, ρ0, hok0, hsub⟩ := hstart
        obtain ⟨t0, k0, e0⟩ := headK_eq body ts ks (u i0) (k i0)
        rw [e0] at hsub
        refine again_ix (fun i a w => ok i ∧ ∃ ts1 ks1 β fp, (∀ c, headK body ts ks (u i) (k i) c = c ts1 ks1) ∧ Sat B w β fp ts1 ks1 a) μ i0 ?_ ?_
        · obtain ⟨β', fp', hS'⟩ := hS.weaken hnb hsub
          exact ⟨hok0, t0, k0, β', fp', e0, hS'⟩
        · rintro i a' w' ⟨hoki, ts1, ks1, β1, fp1, e1, hS1⟩
          have hr := hround i hoki
          rw [e1] at hr
          have := IH _ _ _ _ _ _ _ hr hok' hS1
          refine wpIn_mono this (fun e a2 w2 he => ?_)
          cases e with
          | normal =>
            obtain ⟨ts2, ks2, β2, fp2, ⟨j, ρ, hokj, hlt, hsubj⟩, hS2⟩ := he
            obtain ⟨t3, k3, e3⟩ := headK_eq body ts ks (u j) (k j)
            rw [e3] at hsubj
            obtain ⟨β', fp', hS'⟩ := hS2.weaken hnb hsubj
            exact ⟨j, ⟨hokj, t3, k3, β', fp', e3, hS'⟩, hlt⟩
          | _ => exact he

end
end Go.Eng
