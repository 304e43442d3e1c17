/-
  The engine, part 18: calls by contract.
-/
import Derived.Test.YtdphkaiijlekhaaEg17
namespace Go.Eng
open Go Go.RowKit

section
variable {P : Program} {TT : Nat → Option TI} {X : Nat → Prop} {w : World} {β : Env} {fp : Nat → Nat → Prop} {ts : List SV} {ks : List KB} {a : Act} {o : Oper} {r : Option Nat} {n : Nat} {next : Act → World → Prop} {Q : Exit → Act → World → Prop}

theorem den_less {M M' : Nat → Prop} {s : SV} {v : Value} (h : Den w M β s v) (hM : ∀ b, M' b → M b) : Den w M' β s v := h.mono (Step.refl _ _) (fun b _ e => hM b e) (Ext.refl _)

theorem viewCK_spec (h : Mem0 X w β fp ks) {s : SV} {K : SV → List Nat → Prop} (hk : viewCK ks s K) {v : Value} (hv : Den w (Mx X fp) β s v) :
    ∃ s' fr, K s' fr ∧ (∀ i ∈ fr, i < ks.length) ∧ ∀ fr', (∀ i ∈ fr, i ∈ fr') → Den w (Mx X (fpGone fr' fp)) β s' v := by
  unfold viewCK at hk
  split at hk
  · obtain ⟨d, fr, hk, h1, h2⟩ := dvK_spec h hk hv
    exact ⟨_, fr, hk, h1, fun fr' hf => .d (h2 fr' hf)⟩
  · obtain ⟨d, fr, hk, h1, h2⟩ := dvK_spec h hk hv
    exact ⟨_, fr, hk, h1, fun fr' hf => .d (h2 fr' hf)⟩
  · obtain ⟨d, fr, hk, h1, h2⟩ := dvK_spec h hk hv
    exact ⟨_, fr, hk, h1, fun fr' hf => .d (h2 fr' hf)⟩
  · exact ⟨s, [], hk, by simp, fun fr' _ => den_less hv (h.goneM fr')⟩

theorem viewCsK_spec (h : Mem0 X w β fp ks) : ∀ (l : List SV) (K : List SV → List Nat → Prop) (vs : List Value), viewCsK ks l K → l.length = vs.length → (∀ (j : Nat) (s : SV) (u : Value), l[j]? = some s → vs[j]? = some u → Den w (Mx X fp) β s u) →
    ∃ l' fr, K l' fr ∧ l'.length = l.length ∧ (∀ i ∈ fr, i < ks.length) ∧ ∀ fr', (∀ i ∈ fr, i ∈ fr') → ∀ (j : Nat) (s : SV) (u : Value), l'[j]? = some s → vs[j]? = some u → Den w (Mx X (fpGone fr' fp)) β s u := by
  intro l
  induction l with
  | nil => intro K vs hk hl _; exact ⟨[], [], hk, rfl, by simp, fun _ _ j d u hd => by simp at hd⟩
  | cons a l ih =>
    intro K vs hk hl hd
    match vs, hl with
    | v :: vs, hl =>
      simp only [viewCsK] at hk
      obtain ⟨d, fr, hk, h1, h2⟩ := viewCK_spec h hk (hd 0 a v rfl rfl)
      obtain ⟨ds, fr2, hk, h3, h4, h5⟩ := ih _ vs hk (by simpa using hl) (fun j s u hs hu => hd (j + 1) s u (by simpa using hs) (by simpa using hu))
      rw [appN_eq] at hk
      refine ⟨d :: ds, fr ++ fr2, hk, by simp [h3], fun i hi => (List.mem_append.1 hi).elim (h1 i) (h4 i), fun fr' hf j x u hx hu => ?_⟩
      cases j with
      | zero => simp at hx hu; subst hx hu; exact h2 fr' (fun i hi => hf i (by simp [hi]))
      | succ j => exact h5 fr' (fun i hi => hf i (by simp [hi])) j x u (by simpa using hx) (by simpa using hu)

/-- A slice of cells as data. -/
theorem cs_rd (h : Mem0 X w β fp ks) {i off n c size : Nat} {K : Nat → (Nat → List DV) → List Nat → Prop} (hk : srcK ks size (.cs i off n c) K) {v : Value} (hv : Den w (Mx X fp) β (.cs i off n c) v) :
    ∃ k g fr, K k g fr ∧ (∀ q ∈ i :: fr, q < ks.length) ∧ ∀ fr', (∀ q ∈ i :: fr, q ∈ fr') → Rd w (Mx X (fpGone fr' fp)) (.sl false k size g) v := by
  cases hv with
  | cs _ _ _ _ L hL hnc =>
    unfold srcK at hk
    simp only at hk
    rw [getBK_eq] at hk
    split at hk
    · rename_i t l hg
      split at hk
      · rename_i hble
        rw [lenL_eq] at hble
        have hble := ble_of hble
        rw [dropK_eq, takeK_eq] at hk
        have hki := getB_some hg (by simp)
        have hil : i < ks.length := (List.getElem?_eq_some_iff.1 hki).1
        have hb := h.at hki (by simp) hL
        cases hb with
        | cells _ _ vs hfp hb hl hd h1 =>
          obtain ⟨ds, fr, hk, h2, h3, h4⟩ := dvsK_spec h _ _ ((vs.toList.drop off).take (n * size)) hk (by simp [hl]) (fun j s u hs hu => by
            rw [List.getElem?_take] at hs hu
            split at hs
            · rename_i hj
              rw [if_pos hj] at hu
              rw [List.getElem?_drop] at hs hu
              exact hd _ _ _ hs (by simpa using hu)
            · cases hs)
          have hdl : ds.length = n * size := by rw [h2]; simp; omega
          have hch : ∀ j, j < n → (chunk ds size j).length = size := fun j hj => by
            unfold chunk
            have : (j + 1) * size ≤ n * size := Nat.mul_le_mul_right _ hj
            rw [Nat.add_mul, Nat.one_mul] at this
            simp [hdl]
            omega
          have hin : ∀ j q, j < n → q < size → off + (j * size + q) < vs.size := fun j q hj hq => by
            have : (j + 1) * size ≤ n * size := Nat.mul_le_mul_right _ hj
            rw [Nat.add_mul, Nat.one_mul] at this
            omega
          refine ⟨n, _, fr, hk, fun q hq => ?_, fun fr' hf => .sl n size _ ⟨L.b, off, none⟩ c (fun j q => vs[off + (j * size + q)]?.getD undef) hnc (fun _ => ⟨lt_of_block hb, h.goneOut (hf i (by simp)) ((hfp _).2 rfl)⟩) hch (fun j q d hj hdd => ?_) (fun j q d hj hdd => ?_)⟩
          · rcases List.mem_cons.1 hq with e | e
            · subst e; exact hil
            · exact h3 q e
          · have hq : q < size := by have := (List.getElem?_eq_some_iff.1 hdd).1; rw [hch _ hj] at this; exact this
            rw [add_lit0]
            simp [World.cell?, hb, hin j q hj hq]
          · have hq : q < size := by have := (List.getElem?_eq_some_iff.1 hdd).1; rw [hch _ hj] at this; exact this
            unfold chunk at hdd
            rw [List.getElem?_take, if_pos hq, List.getElem?_drop] at hdd
            have hlt := hin j q hj hq
            refine h4 fr' (fun i hi => hf i (by simp [hi])) (j * size + q) d _ hdd ?_
            rw [List.getElem?_take, if_pos (by
              have : (j + 1) * size ≤ n * size := Nat.mul_le_mul_right _ hj
              rw [Nat.add_mul, Nat.one_mul] at this
              omega), List.getElem?_drop]
            simp [hlt]
      · exact hk.elim
    · exact hk.elim

theorem viewK_spec (hTT : TTok P TT) (h : Mem0 X w β fp ks) {s : SV} {ty : Option TypeId} {K : SV → List Nat → Prop} (hk : viewK TT ks s ty K) {v : Value} (hv : Den w (Mx X fp) β s v) :
    ∃ s' fr, K s' fr ∧ (∀ i ∈ fr, i < ks.length) ∧ ∀ fr', (∀ i ∈ fr, i ∈ fr') → Den w (Mx X (fpGone fr' fp)) β s' v := by
  unfold viewK at hk
  split at hk
  · rename_i l
    cases hv with
    | agg _ vs hl hd h1 =>
      obtain ⟨l', fr, hk, e1, e2, e3⟩ := viewCsK_spec h l _ vs hk hl hd
      exact ⟨_, fr, hk, e2, fun fr' hf => .agg l' vs (by omega) (e3 fr' hf) h1⟩
  · rename_i i off n c
    split at hk
    · split at hk
      · rename_i _ _ _ _ e _ ht
        split at hk
        · rename_i size _ _ _ _ _ hte
          obtain ⟨k, g, fr, hk, h1, h2⟩ := cs_rd h hk hv
          exact ⟨_, _, hk, h1, fun fr' hf => .d (h2 fr' hf)⟩
        · exact hk.elim
      · exact hk.elim
    · exact hk.elim
  · exact viewCK_spec h hk hv

theorem viewsK_spec (hTT : TTok P TT) (h : Mem0 X w β fp ks) : ∀ (l : List SV) (tys : List TypeId) (K : List SV → List Nat → Prop) (vs : List Value), viewsK TT ks l tys K → l.length = vs.length → (∀ (j : Nat) (s : SV) (u : Value), l[j]? = some s → vs[j]? = some u → Den w (Mx X fp) β s u) →
    ∃ l' fr, K l' fr ∧ l'.length = l.length ∧ (∀ i ∈ fr, i < ks.length) ∧ ∀ fr', (∀ i ∈ fr, i ∈ fr') → ∀ (j : Nat) (s : SV) (u : Value), l'[j]? = some s → vs[j]? = some u → Den w (Mx X (fpGone fr' fp)) β s u := by
  intro l
  induction l with
  | nil => intro tys K vs hk hl _; exact ⟨[], [], hk, rfl, by simp, fun _ _ j d u hd => by simp at hd⟩
  | cons a l ih =>
    intro tys K vs hk hl hd
    match vs, hl with
    | v :: vs, hl =>
      simp only [viewsK] at hk
      obtain ⟨d, fr, hk, h1, h2⟩ := viewK_spec hTT h hk (hd 0 a v rfl rfl)
      obtain ⟨ds, fr2, hk, h3, h4, h5⟩ := ih _ _ vs hk (by simpa using hl) (fun j s u hs hu => hd (j + 1) s u (by simpa using hs) (by simpa using hu))
      rw [appN_eq] at hk
      refine ⟨d :: ds, fr ++ fr2, hk, by simp [h3], fun i hi => (List.mem_append.1 hi).elim (h1 i) (h4 i), fun fr' hf j x u hx hu => ?_⟩
      cases j with
      | zero => simp at hx hu; subst hx hu; exact h2 fr' (fun i hi => hf i (by simp [hi]))
      | succ j => exact h5 fr' (fun i hi => hf i (by simp [hi])) j x u (by simpa using hx) (by simpa using hu)

theorem Mem.quiet (h : Mem X w β fp ks) {w' : World} (hs : Step (fun _ => False) w w') : Went X w β fp w' β fp ks :=
  h.go (hs.mono (fun _ _ e => e.elim)) (Ext.refl _) (fun i b hb => .inl ⟨i, hb⟩) h.dis (fun i b hb => Nat.lt_of_lt_of_le (h.kw i b hb) hs.size) h.kl h.ka h.kn (fun i L k hk _ hL => .inl ⟨hk, hL, rfl, fun b hb => hs.block b (h.kw i b hb) (fun e => e)⟩)

/-- The values of the arguments of a call. -/
theorem args_den {M : Nat → Prop} (hT : ∀ x, Den w M β (val ts x) (a.eval x)) (args : List Operand) (caps : List SV) (vs : List Value) (hl : caps.length = vs.length) (hd : ∀ (j : Nat) (s : SV) (u : Value), caps[j]? = some s → vs[j]? = some u → Den w M β s u) :
    (vals ts args ++ caps).length = (args.map a.eval ++ vs).length ∧ ∀ (j : Nat) (s : SV) (u : Value), (vals ts args ++ caps)[j]? = some s → (args.map a.eval ++ vs)[j]? = some u → Den w M β s u := by
  refine ⟨by simp [vals_length, hl], fun j s u hs hu => ?_⟩
  by_cases hj : j < args.length
  · rw [List.getElem?_append_left (by rw [vals_length]; exact hj), vals_get] at hs
    rw [List.getElem?_append_left (by simpa using hj), List.getElem?_map] at hu
    cases hx : args[j]? with
    | none => rw [hx] at hs; cases hs
    | some x =>
      rw [hx] at hs hu
      cases hs
      cases hu
      exact hT x
  · rw [List.getElem?_append_right (by rw [vals_length]; omega), vals_length] at hs
    rw [List.getElem?_append_right (by simp; omega), List.length_map] at hu
    exact hd _ _ _ hs hu

/-- The call of a function's value, in the machine. -/
theorem call_wp {g : Operand} {args : Array Operand} {tys : Array TypeId} (ho : o.op = .call ⟨.value g, args, tys⟩) {f : FuncId} {vs : List Value} (ev : a.eval g = .func (.func f) #[] vs.toArray) (hent : ∀ (args : Array Value) (w : World), (callFunc f args).run P w = .ok (.enter f args) w)
    {R : Ending → World → Prop} (hc : Calls P f (args.toList.map a.eval ++ vs).toArray w R) (hR : ∀ e w', R e w' → ∃ v, e = .returned v ∧ next (a.put o.dst v) w') : o.wpIn (wideF r) n P a w next Q := by
  refine ⟨fun _ _ => trivial, ?_⟩
  rw [Oper.semAt_eq _ _ _ (by rw [ho]; simp)]
  have hrun : (execOp a.eval o).run P w = .ok (.enter f (args.toList.map a.eval ++ vs).toArray) w := by
    have hargs : args.map a.eval ++ vs.toArray = (args.toList.map a.eval ++ vs).toArray := by apply Array.ext'; simp
    simp only [execOp, ho, resolve, ev, Deferred.ofValue, Sem.run_bind, Sem.run_pure, Result.andThen_ok, invoke, Array.empty_append, hargs, hent]
  rw [hrun]
  refine ⟨fun hsm => by simp [wideF, Fence.wide] at hsm, callsIn_wideF ?_⟩
  refine hc.mono ?_
  intro e w' he
  obtain ⟨v, rfl, hv⟩ := hR e w' he
  exact hv

/-- What a call owes. -/
def CallNext (X : Nat → Prop) (w : World) (β : Env) (fp : Nat → Nat → Prop) (a : Act) (o : Oper) (K : Bool → SV → List KB → Prop) (next : Act → World → Prop) : Prop :=
  ∀ h r ks' v w' β' fp', K h r ks' → Went X w β fp w' β' fp' ks' → Den w' (Mx X fp') β' r v → next (a.put o.dst v) w'

theorem fnOk_calls {f : FuncId} {as : List SV} {res : SV} {M : Nat → Prop} {vs : List Value} (hok : FnOk P f as res) (hM : ∀ b, M b → b < w.heap.size) (hl : as.length = vs.length) (hd : ∀ (j : Nat) (s : SV) (u : Value), as[j]? = some s → vs[j]? = some u → Den w M β s u) (hcl : closedL as = true) :
    Calls P f vs.toArray w fun e w' => ∃ v, e = .returned v ∧ Step (fun _ => False) w w' ∧ Den w' M noE res v :=
  hok.2 M w vs hM hl (fun j s u hs hu => (hd j s u hs hu).closed (closedL_get hcl j s hs) _)

theorem callStop_sound (hTT : TTok P TT) {K : Bool → SV → List KB → Prop} {g : Operand} {args : Array Operand} {tys : Array TypeId} {tl : List TypeId} (ho : o.op = .call ⟨.value g, args, tys⟩) {f : FuncId} {caps : List SV} {vs : List Value} (ev : a.eval g = .func (.func f) #[] vs.toArray)
    (hl : caps.length = vs.length) (hd : ∀ (j : Nat) (s : SV) (u : Value), caps[j]? = some s → vs[j]? = some u → Den w (Mx X fp) β s u) (h : CallStop P TT f (vals ts args.toList ++ caps) tl ks K) (hM : Mem X w β fp ks) (hT : ∀ x, Den w (Mx X fp) β (val ts x) (a.eval x)) (hn : CallNext X w β fp a o K next) :
    o.wpIn (wideF r) n P a w next Q := by
  obtain ⟨al, ad⟩ := args_den (a := a) hT args.toList caps vs hl hd
  cases h with
  | data res hok hcl hcr hK =>
    refine call_wp ho ev hok.1 (fnOk_calls hok hM.mlt al ad hcl) ?_
    rintro e w' ⟨v, rfl, hst, hden⟩
    exact ⟨v, rfl, hn _ _ _ _ _ _ _ hK (hM.quiet hst) (hden.closed hcr β)⟩
  | view res as' fr hok hview hcl hsc hK =>
    obtain ⟨l', fr', ⟨rfl, rfl⟩, e1, e2, e3⟩ := viewsK_spec hTT hM.toMem0 _ _ _ _ hview al ad
    refine call_wp ho ev hok.1 (fnOk_calls hok (fun b hb => hM.mlt b (hM.goneM fr' b hb)) (by omega) (e3 fr' (fun _ h => h)) hcl) ?_
    rintro e w' ⟨v, rfl, hst, hden⟩
    exact ⟨v, rfl, hn _ _ _ _ _ _ _ hK (hM.quiet hst) (hden.scalar hsc _ _ _)⟩
  | frz res as' fr hok hview hcl hcr hK =>
    obtain ⟨l', fr', ⟨rfl, rfl⟩, e1, e2, e3⟩ := viewsK_spec hTT hM.toMem0 _ _ _ _ hview al ad
    refine call_wp ho ev hok.1 (fnOk_calls hok (fun b hb => hM.mlt b (hM.goneM fr' b hb)) (by omega) (e3 fr' (fun _ h => h)) hcl) ?_
    rintro e w' ⟨v, rfl, hst, hden⟩
    have hW := hM.gone fr'
    exact ⟨v, rfl, hn _ _ _ _ _ _ _ hK (hW.trans (hW.mem.quiet hst)) (hden.closed hcr β)⟩
  | mem res ks' hok hK =>
    refine call_wp ho ev hok.1 (hok.2 X w β fp _ hM al ad) ?_
    rintro e w' ⟨v, s, k2, β', fp', rfl, ⟨rfl, rfl⟩, hW, hden⟩
    exact ⟨v, rfl, hn _ _ _ _ _ _ _ hK hW hden⟩

/-- A call that changes nothing that is known. -/
theorem callFree_sound (hTT : TTok P TT) {K : Bool → SV → List KB → Prop} {g : Operand} {args : Array Operand} {tys : Array TypeId} {tl : List TypeId} (ho : o.op = .call ⟨.value g, args, tys⟩) {f : FuncId} {caps : List SV} {vs : List Value} (ev : a.eval g = .func (.func f) #[] vs.toArray)
    (hl : caps.length = vs.length) (hd : ∀ (j : Nat) (s : SV) (u : Value), caps[j]? = some s → vs[j]? = some u → Den w (Mx X fp) β s u) (h : CallStop P TT f (vals ts args.toList ++ caps) tl ks K) (hf : ∀ s k, ¬ K true s k) (hM : Mem0 X w β fp ks) (hT : ∀ x, Den w (Mx X fp) β (val ts x) (a.eval x))
    (hn : ∀ s k v w', K false s k → Step (fun _ => False) w w' → Den w' (Mx X fp) β s v → next (a.put o.dst v) w') :
    o.wpIn (wideF r) n P a w next Q := by
  obtain ⟨al, ad⟩ := args_den (a := a) hT args.toList caps vs hl hd
  cases h with
  | data res hok hcl hcr hK =>
    refine call_wp ho ev hok.1 (fnOk_calls hok hM.mlt al ad hcl) ?_
    rintro e w' ⟨v, rfl, hst, hden⟩
    exact ⟨v, rfl, hn _ _ _ _ hK hst (hden.closed hcr β)⟩
  | view res as' fr hok hview hcl hsc hK =>
    obtain ⟨l', fr', ⟨rfl, rfl⟩, e1, e2, e3⟩ := viewsK_spec hTT hM _ _ _ _ hview al ad
    refine call_wp ho ev hok.1 (fnOk_calls hok (fun b hb => hM.mlt b (hM.goneM fr' b hb)) (by omega) (e3 fr' (fun _ h => h)) hcl) ?_
    rintro e w' ⟨v, rfl, hst, hden⟩
    exact ⟨v, rfl, hn _ _ _ _ hK hst (hden.scalar hsc _ _ _)⟩
  | frz res as' fr hok hview hcl hcr hK => exact absurd hK (hf _ _)
  | mem res ks' hok hK => exact absurd hK (hf _ _)

theorem fn_value {M : Nat → Prop} {g : Operand} {f : FuncId} {caps : List SV} (hv : Den w M β (.fn f caps) (a.eval g)) : ∃ vs : List Value, a.eval g = .func (.func f) #[] vs.toArray ∧ caps.length = vs.length ∧ ∀ (j : Nat) (s : SV) (u : Value), caps[j]? = some s → vs[j]? = some u → Den w M β s u := by
  generalize a.eval g = av at hv
  cases hv with
  | fn _ _ vs hl hd => exact ⟨vs, rfl, hl, hd⟩

theorem cev_sound (hTT : TTok P TT) {K : Bool → SV → List KB → Prop} {g : Operand} {args : Array Operand} {tys : Array TypeId} (ho : o.op = .call ⟨.value g, args, tys⟩) (h : cev P TT ts ks g args.toList tys.toList K) (hM : Mem X w β fp ks) (hT : ∀ x, Den w (Mx X fp) β (val ts x) (a.eval x)) (hn : CallNext X w β fp a o K next) :
    o.wpIn (wideF r) n P a w next Q := by
  unfold cev at h
  rw [valK_eq] at h
  have hv := hT g
  split at h
  · rename_i f caps hg
    rw [hg] at hv
    rw [valsK_eq, appK_eq] at h
    obtain ⟨vs, ev, hl, hd⟩ := fn_value hv
    exact callStop_sound hTT ho ev hl hd h hM hT hn
  · exact h.elim

theorem cevFree_sound (hTT : TTok P TT) {K : Bool → SV → List KB → Prop} {g : Operand} {args : Array Operand} {tys : Array TypeId} (ho : o.op = .call ⟨.value g, args, tys⟩) (h : cev P TT ts ks g args.toList tys.toList K) (hf : ∀ s k, ¬ K true s k) (hM : Mem0 X w β fp ks) (hT : ∀ x, Den w (Mx X fp) β (val ts x) (a.eval x))
    (hn : ∀ s k v w', K false s k → Step (fun _ => False) w w' → Den w' (Mx X fp) β s v → next (a.put o.dst v) w') : o.wpIn (wideF r) n P a w next Q := by
  unfold cev at h
  rw [valK_eq] at h
  have hv := hT g
  split at h
  · rename_i f caps hg
    rw [hg] at hv
    rw [valsK_eq, appK_eq] at h
    obtain ⟨vs, ev, hl, hd⟩ := fn_value hv
    exact callFree_sound hTT ho ev hl hd h hf hM hT hn
  · exact h.elim

theorem memN_in {t : Nat} {l : List Nat} (h : memN t l = true) : t ∈ l := by
  induction l with
  | nil => cases h
  | cons a l ih =>
    simp only [memN] at h
    split at h
    · rename_i e
      rw [Nat.eq_of_beq_eq_true e]
      exact List.mem_cons_self ..
    · exact List.mem_cons_of_mem _ (ih h)
theorem memN_out {t : Nat} {l : List Nat} (h : memN t l = false) : t ∉ l := by
  induction l with
  | nil => simp
  | cons a l ih =>
    simp only [memN] at h
    split at h
    · cases h
    · rename_i e
      intro hm
      rcases List.mem_cons.1 hm with rfl | hm
      · rw [Nat.beq_refl] at e
        cases e
      · exact ih h hm
theorem subN_mem {l m : List Nat} (h : subN l m = true) : ∀ i ∈ l, i ∈ m := by
  induction l with
  | nil => intro i hi; cases hi
  | cons a l ih =>
    simp only [subN] at h
    split at h
    · rename_i e
      intro i hi
      rcases List.mem_cons.1 hi with rfl | hi
      · exact memN_in e
      · exact ih h i hi
    · cases h
theorem stillOk_at {fr : List Nat} : ∀ {js : List (Nat × TypeId × List SV)}, stillOk ks fr js → ∀ p ∈ js, ∃ l, getB ks p.1 = .cells p.2.1 l ∧ viewCsK ks l (fun m f => m = p.2.2 ∧ subN f fr = true) ∧ memN p.1 fr = false
  | [], _, p, hp => by cases hp
  | (j, t, l') :: r, h, p, hp => by
    rcases List.mem_cons.1 hp with rfl | hp
    · exact h.1
    · exact stillOk_at h.2 p hp
theorem stillPut_length : ∀ (js : List (Nat × TypeId × List SV)) (l : List KB), (stillPut l js).length = l.length
  | [], _ => rfl
  | (j, t, l') :: r, l => by simp only [stillPut]; rw [stillPut_length r, setB_eq, List.length_set]
theorem stillPut_get : ∀ (js : List (Nat × TypeId × List SV)) (l : List KB) (i : Nat) (k : KB), (stillPut l js)[i]? = some k → l[i]? = some k ∨ ∃ p ∈ js, p.1 = i ∧ k = .cells p.2.1 p.2.2
  | [], l, i, k, h => .inl h
  | (j, t, l') :: r, l, i, k, h => by
    rcases stillPut_get r _ i k h with h | ⟨p, hp, h1, h2⟩
    · rw [setB_eq, List.getElem?_set] at h
      split at h
      · rename_i e
        split at h
        · simp only [Option.some.injEq] at h
          exact .inr ⟨(j, t, l'), List.mem_cons_self .., e, h.symm⟩
        · cases h
      · exact .inl h
    · exact .inr ⟨p, List.mem_cons_of_mem _ hp, h1, h2⟩
theorem Mem.still (h : Mem X w β fp ks) {fr : List Nat} {js : List (Nat × TypeId × List SV)} (hs : stillOk ks fr js) : Went X w β fp w β (fpGone fr fp) (stillPut (goneL fr ks) js) := by
  refine h.go (Step.refl _ _) (Ext.refl _) (fun i b hb => .inl ⟨i, hb.2⟩) (fun i j b hi hj => h.dis i j b hi.2 hj.2) (fun i b hb => h.kw i b hb.2) (fun i hi => ?_) (fun i t dom cols hi => ?_) (fun i b hb => h.kn i b hb.2) (fun i L k hk hne hL => ?_)
  · rw [stillPut_length, goneL_length] at hi
    exact h.kl i hi
  · rcases stillPut_get _ _ _ _ hi with hi | ⟨p, _, _, e⟩
    · exact h.ka i t dom cols (goneL_get fr ks i _ hi (by simp)).2
    · cases e
  · rcases stillPut_get _ _ _ _ hk with hk | ⟨p, hp, rfl, rfl⟩
    · obtain ⟨h1, h2⟩ := goneL_get fr ks i k hk hne
      exact .inl ⟨h2, hL, by funext b; simp [fpGone, h1], fun _ _ => rfl⟩
    · obtain ⟨l, hg, hv, hm⟩ := stillOk_at hs p hp
      have hnm := memN_out hm
      have hkb := h.kb p.1 L _ (getB_some hg (by simp)) (by simp) hL
      refine .inr ?_
      cases hkb with
      | cells _ _ vs h0 h1 h3 h4 h5 =>
        obtain ⟨l', f', ⟨rfl, hsub⟩, e1, _, e3⟩ := viewCsK_spec h.toMem0 l _ vs.toList hv (by simpa using h3) (fun j s u hs hu => h4 j s u hs (by simpa using hu))
        exact .cells _ _ vs (fun x => by simp only [fpGone]; rw [← h0 x]; exact ⟨fun a => a.2, fun a => ⟨hnm, a⟩⟩) h1 (by omega) (fun j s u hs hu => e3 fr (subN_mem hsub) j s u hs (by simpa using hu)) h5

theorem seqStop_sound (hTT : TTok P TT) {K : SV → List KB → Prop} {g : Operand} {args : Array Operand} {tys : Array TypeId} {tl : List TypeId} (ho : o.op = .call ⟨.value g, args, tys⟩) {f : FuncId} {caps : List SV} {vs : List Value} (ev : a.eval g = .func (.func f) #[] vs.toArray)
    (hl : caps.length = vs.length) (hd : ∀ (j : Nat) (s : SV) (u : Value), caps[j]? = some s → vs[j]? = some u → Den w (Mx X fp) β s u) (h : SeqStop P TT f (vals ts args.toList ++ caps) tl ks K) (hM : Mem X w β fp ks) (hT : ∀ x, Den w (Mx X fp) β (val ts x) (a.eval x)) (hn : MemNext X w β fp a o K next) :
    o.wpIn (wideF r) n P a w next Q := by
  obtain ⟨al, ad⟩ := args_den (a := a) hT args.toList caps vs hl hd
  cases h with
  | one h => exact callStop_sound hTT ho ev hl hd h hM hT (fun _ r ks' v w' β' fp' hK hW hD => hn r ks' v w' β' fp' hK hW hD)
  | rel R hok hK =>
    refine call_wp ho ev hok.1 (hok.2 X w β fp _ hM al ad) ?_
    rintro e w' ⟨v, s, k2, β', fp', rfl, hr, hW, hden⟩
    exact ⟨v, rfl, hn _ _ _ _ _ _ (hK _ _ hr) hW hden⟩
  | still fr js res as' hst hview hok hcl hcr hK =>
    obtain ⟨l', fr', ⟨rfl, hsub⟩, e1, e2, e3⟩ := viewsK_spec hTT hM.toMem0 _ _ _ _ hview al ad
    refine call_wp ho ev hok.1 (fnOk_calls hok (fun b hb => hM.mlt b (hM.goneM fr b hb)) (by omega) (e3 fr (subN_mem hsub)) hcl) ?_
    rintro e w' ⟨v, rfl, hq, hden⟩
    have hW := hM.still hst
    exact ⟨v, rfl, hn _ _ _ _ _ _ hK (hW.trans (hW.mem.quiet hq)) (hden.closed hcr β)⟩

end
end Go.Eng
