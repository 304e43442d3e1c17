/-
  The engine, part 13: rows as data; what is appended or copied.
-/
import Derived.Deep.Upon
import Derived.Laws.MakeOwn
import Derived.Test.YtdphkaiijlekhaaEg12
namespace Go.Eng
open Go Go.RowKit

section
variable {P : Program} {X : Nat → Prop} {w : World} {β : Env} {fp : Nat → Nat → Prop} {ks : List KB}

theorem Mx_gone {fr fr' : List Nat} (h : ∀ i ∈ fr, i ∈ fr') : ∀ b, Mx X (fpGone fr' fp) b → Mx X (fpGone fr fp) b := fun _ hm => hm.imp id (fun ⟨i, hi, hb⟩ => ⟨i, fun e => hi (h i e), hb⟩)
theorem rd_less {M M' : Nat → Prop} {d : DV} {v : Value} (h : Rd w M d v) (hM : ∀ b, M' b → M b) : Rd w M' d v := h.mono (Step.refl _ _) (fun b _ e => hM b e)

/-- The elements of a row, from lo on, as data. -/
theorem row_rd {M M' : Nat → Prop} {L : Loc} {e sz m : Nat} {vs : Array Value} {fz : Nat × Nat} {f : Nat → List DV} (hb : w.heap[L.b]? = some (.cells vs e fz)) (hvs : vs.size = L.c * sz) (hm : m ≤ L.c)
    (hfl : ∀ k, k < m → (f k).length = sz) (hr : ∀ (k j : Nat) (d : DV) (u : Value), k < m → (f k)[j]? = some d → vs[k * sz + j]? = some u → Rd w M d u) (lo n off cap : Nat) (h1 : lo + n ≤ m) (h2 : n ≤ cap) (h3 : 0 < n → off = lo * sz)
    (hn : ¬ M' L.b) (hM : ∀ b, M' b → M b) : Rd w M' (.sl false n sz (fun j => f (lo + j))) (.slice (some ⟨L.b, off, none⟩) n cap) := by
  have hin : ∀ i j, i < n → j < sz → (lo + i) * sz + j < vs.size := fun i j hi hj => by
    rw [hvs]
    calc (lo + i) * sz + j < (lo + i) * sz + sz := by omega
      _ = (lo + i + 1) * sz := by rw [Nat.add_mul (lo + i) 1, Nat.one_mul]
      _ ≤ L.c * sz := Nat.mul_le_mul_right _ (by omega)
  refine .sl n sz _ ⟨L.b, off, none⟩ cap (fun i j => vs[(lo + i) * sz + j]?.getD undef) h2 (fun _ => ⟨lt_of_block hb, hn⟩) (fun i hi => hfl _ (by omega)) (fun i j d hi hd => ?_) (fun i j d hi hd => ?_)
  · have hj : j < sz := by have := (List.getElem?_eq_some_iff.1 hd).1; rw [hfl _ (by omega)] at this; exact this
    rw [show (⟨L.b, off, none⟩ : Addr).add (i * sz + j) = ⟨L.b, off + (i * sz + j), none⟩ from by unfold Addr.add; split <;> simp_all, h3 (by omega), show lo * sz + (i * sz + j) = (lo + i) * sz + j from by rw [Nat.add_mul]; omega]
    simp [World.cell?, hb, hin i j hi hj]
  · have hj : j < sz := by have := (List.getElem?_eq_some_iff.1 hd).1; rw [hfl _ (by omega)] at this; exact this
    refine rd_less ?_ hM
    have := hr (lo + i) j d (vs[(lo + i) * sz + j]'(hin i j hi hj)) (by omega) hd (Array.getElem?_eq_getElem _)
    simpa [hin i j hi hj] using this

theorem allDK_spec : ∀ (l : List SV) (K : List DV → Prop), allDK l K → ∃ ds : List DV, K ds ∧ l = ds.map SV.d
  | [], _, h => ⟨[], h, rfl⟩
  | .d x :: l, K, h => by
    obtain ⟨ds, hk, rfl⟩ := allDK_spec l _ h
    exact ⟨x :: ds, hk, rfl⟩
theorem chunk_len {ds : List DV} {n sz : Nat} (h : ds.length = n * sz) (j : Nat) (hj : j < n) : (chunk ds sz j).length = sz := by
  unfold chunk
  have : (j + 1) * sz ≤ n * sz := Nat.mul_le_mul_right _ hj
  rw [Nat.add_mul, Nat.one_mul] at this
  simp [h]
  omega

theorem dvK_spec (h : Mem0 X w β fp ks) {s : SV} {K : DV → List Nat → Prop} (hk : dvK ks s K) {v : Value} (hv : Den w (Mx X fp) β s v) :
    ∃ d fr, K d fr ∧ (∀ i ∈ fr, i < ks.length) ∧ ∀ fr', (∀ i ∈ fr, i ∈ fr') → Rd w (Mx X (fpGone fr' fp)) d v := by
  have hout : ∀ (i : Nat) (L : Loc) (fr' : List Nat), i ∈ fr' → (∀ x, fp i x ↔ x = L.b) → ¬ Mx X (fpGone fr' fp) L.b := fun i L fr' hi hf => h.goneOut hi ((hf _).2 rfl)
  unfold dvK at hk
  split at hk
  · rename_i x
    exact ⟨x, [], hk, by simp, fun fr' _ => rd_less (den_data hv) (h.goneM fr')⟩
  · rename_i i
    rw [getBK_eq] at hk
    split at hk
    · rename_i e sz n z f hg
      have hki := getB_some hg (by simp)
      have hi : i < ks.length := (List.getElem?_eq_some_iff.1 hki).1
      cases hv with
      | allNil _ L hL hnil =>
        have hb := h.at hki (by simp) hL
        cases hb with
        | rowNil _ _ _ _ _ _ _ _ hz =>
          split at hk
          · exact absurd rfl hz
          · exact ⟨_, _, hk, by simp [hi], fun fr' _ => .nil _ _⟩
          · omega
        | row _ _ _ _ _ vs fz hfp hnil' => rw [hnil] at hnil'; cases hnil'
      | all _ L hL hnil =>
        have hb := h.at hki (by simp) hL
        cases hb with
        | rowNil _ _ _ _ _ hnil' => rw [hnil] at hnil'; cases hnil'
        | row _ _ _ _ _ vs fz hfp _ hLs hLn hzz hb hfz hvs hng hfl hr _ =>
          have key : ∀ fr', i ∈ fr' → Rd w (Mx X (fpGone fr' fp)) (.sl false n sz f) (.slice (some ⟨L.b, 0, none⟩) L.n L.c) := fun fr' hi' => by
            have := row_rd (M' := Mx X (fpGone fr' fp)) hb hvs hng hfl hr 0 n 0 L.c (by omega) hng (by simp) (hout i L fr' hi' hfp) (h.goneM fr')
            simp only [Nat.zero_add] at this
            rw [hLn]
            exact this
          split at hk
          · exact ⟨_, _, hk, by simp [hi], fun fr' hf => key fr' (hf i (by simp))⟩
          · have : Nat.beq n 0 = false := by
              have := hzz rfl
              cases n with
              | zero => omega
              | succ n => rfl
            rw [this] at hk
            exact ⟨_, _, hk, by simp [hi], fun fr' hf => key fr' (hf i (by simp))⟩
          · exact ⟨_, _, hk.2, by simp [hi], fun fr' hf => key fr' (hf i (by simp))⟩
    · exact hk.elim
  · rename_i i lo n
    rw [getBK_eq] at hk
    split at hk
    · rename_i e sz m z f hg
      have hki := getB_some hg (by simp)
      have hi : i < ks.length := (List.getElem?_eq_some_iff.1 hki).1
      cases hv with
      | rowNil _ L hL hnil =>
        have hb := h.at hki (by simp) hL
        cases hb with
        | rowNil _ _ _ _ _ _ _ _ hz =>
          split at hk
          · exact absurd rfl hz
          · omega
        | row _ _ _ _ _ vs fz hfp hnil' => rw [hnil] at hnil'; cases hnil'
      | row _ _ _ off L hL hnil hc ho =>
        have hb := h.at hki (by simp) hL
        cases hb with
        | rowNil _ _ _ _ _ hnil' => rw [hnil] at hnil'; cases hnil'
        | row _ _ _ _ _ vs fz hfp _ hLs hLn hzz hb hfz hvs hng hfl hr _ =>
          have key : lo + n ≤ m → ∀ fr', i ∈ fr' → Rd w (Mx X (fpGone fr' fp)) (.sl false n sz (fun j => f (lo + j))) (.slice (some ⟨L.b, off, none⟩) n (L.c - lo)) := fun hle fr' hi' =>
            row_rd (M' := Mx X (fpGone fr' fp)) hb hvs hng hfl hr lo n off (L.c - lo) hle (by omega) (fun hn => by rw [ho (.inl (by omega)), hLs]) (hout i L fr' hi' hfp) (h.goneM fr')
          split at hk
          · exact ⟨_, _, hk.2, by simp [hi], fun fr' hf => key hk.1 fr' (hf i (by simp))⟩
          · exact ⟨_, _, hk.2, by simp [hi], fun fr' hf => key hk.1.1 fr' (hf i (by simp))⟩
    · exact hk.elim
  · rename_i i off n c
    rw [getBK_eq] at hk
    split at hk
    · rename_i t l hg
      split at hk
      · rename_i hble
        generalize Nat.div (lenL l - off) c = sz at *
        rw [lenL_eq] at hble
        have hble := ble_of hble
        rw [dropK_eq, takeK_eq] at hk
        have hki := getB_some hg (by simp)
        have hi : i < ks.length := (List.getElem?_eq_some_iff.1 hki).1
        obtain ⟨ds, hk, hds⟩ := allDK_spec _ _ hk
        have hdl : ds.length = n * sz := by
          have := congrArg List.length hds
          simp at this
          omega
        cases hv with
        | cs _ _ _ _ L hL hnc =>
          have hb := h.at hki (by simp) hL
          cases hb with
          | cells _ _ vs hfp hb hl hd h1 =>
            refine ⟨_, _, hk, by simp [hi], fun fr' hf => ?_⟩
            have hat : ∀ j q d, j < n → (chunk ds sz j)[q]? = some d → q < sz ∧ l[off + (j * sz + q)]? = some (.d d) ∧ off + (j * sz + q) < vs.size := fun j q d hj hdd => by
              have hq : q < sz := by have := (List.getElem?_eq_some_iff.1 hdd).1; rw [chunk_len hdl _ hj] at this; exact this
              unfold chunk at hdd
              rw [List.getElem?_take, if_pos hq, List.getElem?_drop] at hdd
              have hlt := (List.getElem?_eq_some_iff.1 hdd).1
              have : ((l.drop off).take (n * sz))[j * sz + q]? = some (.d d) := by rw [hds, List.getElem?_map, hdd]; rfl
              rw [List.getElem?_take, if_pos (by omega), List.getElem?_drop] at this
              exact ⟨hq, this, by have := (List.getElem?_eq_some_iff.1 this).1; omega⟩
            refine .sl n sz _ ⟨L.b, off, none⟩ c (fun j q => vs[off + (j * sz + q)]?.getD undef) hnc (fun _ => ⟨lt_of_block hb, hout i L fr' (hf i (by simp)) hfp⟩) (fun j hj => chunk_len hdl j hj) (fun j q d hj hdd => ?_) (fun j q d hj hdd => ?_)
            · obtain ⟨_, _, hlt⟩ := hat j q d hj hdd
              rw [add_lit0]
              simp [World.cell?, hb, hlt]
            · obtain ⟨_, hls, hlt⟩ := hat j q d hj hdd
              have := den_data (hd _ _ (vs[off + (j * sz + q)]'hlt) hls (Array.getElem?_eq_getElem _))
              simpa [hlt] using rd_less this (h.goneM fr')
      · exact hk.elim
    · exact hk.elim
  · exact hk.elim

theorem appN_eq (l m : List Nat) (k : List Nat → Prop) : appN l m k = k (l ++ m) := by
  induction l generalizing k with
  | nil => rfl
  | cons a l ih => simp [appN, ih]
theorem goneK_eq (fr : List Nat) (ks : List KB) (K : List KB → Prop) : goneK fr ks K = K (goneL fr ks) := by
  induction fr generalizing ks with
  | nil => rfl
  | cons i fr ih => simp only [goneK, goneL, setBK_eq, ih, setB_eq]

theorem dvsK_spec (h : Mem0 X w β fp ks) : ∀ (l : List SV) (K : List DV → List Nat → Prop) (vs : List Value), dvsK ks l K → l.length = vs.length → (∀ (j : Nat) (s : SV) (u : Value), l[j]? = some s → vs[j]? = some u → Den w (Mx X fp) β s u) →
    ∃ ds fr, K ds fr ∧ ds.length = l.length ∧ (∀ i ∈ fr, i < ks.length) ∧ ∀ fr', (∀ i ∈ fr, i ∈ fr') → ∀ (j : Nat) (d : DV) (u : Value), ds[j]? = some d → vs[j]? = some u → Rd w (Mx X (fpGone fr' fp)) d u := by
  intro l
  induction l with
  | nil => intro K vs hk hl _; exact ⟨[], [], hk, rfl, by simp, fun _ _ j d u hd => by simp at hd⟩
  | cons a l ih =>
    intro K vs hk hl hd
    match vs, hl with
    | v :: vs, hl =>
      simp only [dvsK] at hk
      obtain ⟨d, fr, hk, h1, h2⟩ := dvK_spec h hk (hd 0 a v rfl rfl)
      obtain ⟨ds, fr2, hk, h3, h4, h5⟩ := ih _ vs hk (by simpa using hl) (fun j s u hs hu => hd (j + 1) s u (by simpa using hs) (by simpa using hu))
      rw [appN_eq] at hk
      refine ⟨d :: ds, fr ++ fr2, hk, by simp [h3], fun i hi => (List.mem_append.1 hi).elim (h1 i) (h4 i), fun fr' hf j x u hx hu => ?_⟩
      cases j with
      | zero => simp at hx hu; subst hx hu; exact h2 fr' (fun i hi => hf i (by simp [hi]))
      | succ j => exact h5 fr' (fun i hi => hf i (by simp [hi])) j x u (by simpa using hx) (by simpa using hu)

/-- What a source yields. -/
structure SrcOk (P : Program) (w : World) (M : Nat → Prop) (sz : Nat) (tx : TypeId) (v : Value) (k : Nat) (g : Nat → List DV) (us : List Value) : Prop where
  src : Src P sz tx v k us w
  wid : ∀ j, j < k → (g j).length = sz
  rd : ∀ (j q : Nat) (d : DV) (u : Value), j < k → (g j)[q]? = some d → us[j * sz + q]? = some u → Rd w M d u

theorem SrcOk.less {M M' : Nat → Prop} {sz : Nat} {tx : TypeId} {v : Value} {k : Nat} {g : Nat → List DV} {us : List Value} (h : SrcOk P w M sz tx v k g us) (hM : ∀ b, M' b → M b) : SrcOk P w M' sz tx v k g us :=
  ⟨h.src, h.wid, fun j q d u a b c => rd_less (h.rd j q d u a b c) hM⟩

theorem srcK_spec (h : Mem0 X w β fp ks) {sz : Nat} (hsz : 0 < sz) {x : SV} {K : Nat → (Nat → List DV) → List Nat → Prop} (hk : srcK ks sz x K) {v : Value} (hv : Den w (Mx X fp) β x v) {tx : TypeId}
    (htx : (∃ e', P.underlying tx = some (.slice e')) ∨ P.underlying tx = some .string) :
    ∃ k g fr us, K k g fr ∧ (∀ i ∈ fr, i < ks.length) ∧ ∀ fr', (∀ i ∈ fr, i ∈ fr') → SrcOk P w (Mx X (fpGone fr' fp)) sz tx v k g us := by
  have nilSrc : ∀ c, Src P sz tx (.slice none 0 c) 0 [] w := fun c => by
    rcases htx with ⟨e', he⟩ | he
    · exact Src.ofNil w he c
    · exact ⟨.inr he, fun _ => rfl, run_firstCells_none w sz 0 0 c, run_firstCells_none w.drew sz 0 0 c, by simp, fun _ h => by cases h⟩
  have slSrc : ∀ (ad : Addr) (n c : Nat) (news : List Value), news.length = n * sz → (∀ (j : Nat) (u : Value), news[j]? = some u → w.cell? (ad.add j) = some u) → (∀ u ∈ news, u.oneCell' = true) → Src P sz tx (.slice (some ad) n c) n news w := fun ad n c news hl hn h1 => by
    rcases htx with ⟨e', he⟩ | he
    · exact Src.ofSlice w he ad n c news hl hn h1
    · exact ⟨.inr he, fun _ => rfl, run_firstCells_some w sz n ad n c news hl hn, run_firstCells_some w.drew sz n ad n c news hl (by simpa using hn), hl, h1⟩
  have divmod : ∀ j q, q < sz → (j * sz + q) / sz = j ∧ (j * sz + q) % sz = q := fun j q hq => by
    constructor
    · rw [Nat.mul_comm, Nat.mul_add_div hsz, Nat.div_eq_of_lt hq, Nat.add_zero]
    · rw [Nat.mul_comm, Nat.mul_add_mod, Nat.mod_eq_of_lt hq]
  have lt_mul : ∀ m n, m < n * sz → m / sz < n := fun m n hm => Nat.div_lt_of_lt_mul (by rw [Nat.mul_comm]; exact hm)
  unfold srcK at hk
  split at hk
  · rename_i nl n sz' f
    split at hk
    · rename_i hb
      cases beq_of hb
      cases den_data hv with
      | nil => exact ⟨0, f, [], [], hk, by simp, fun _ _ => ⟨nilSrc 0, fun j hj => absurd hj (by omega), fun j q d u hj => absurd hj (by omega)⟩⟩
      | sl _ _ _ ad cap u hcap hblk hlen hcell hrd =>
        refine ⟨n, f, [], (List.range (n * sz)).map (fun m => u (m / sz) (m % sz)), hk, by simp, fun fr' _ => ⟨slSrc ad n cap _ (by simp) (fun j x hx => ?_) (fun x hx => ?_), hlen, fun j q d x hj hd hx => ?_⟩⟩
        · obtain ⟨hj, rfl⟩ := rangeMap_get (u := fun m => u (m / sz) (m % sz)) hx
          have h1 := lt_mul j n hj
          have h2 : j % sz < (f (j / sz)).length := by rw [hlen _ h1]; exact Nat.mod_lt _ hsz
          have := hcell (j / sz) (j % sz) _ h1 (List.getElem?_eq_getElem h2)
          rwa [Nat.mul_comm, Nat.div_add_mod] at this
        · simp at hx
          obtain ⟨m, hm, rfl⟩ := hx
          have h1 := lt_mul m n hm
          have h2 : m % sz < (f (m / sz)).length := by rw [hlen _ h1]; exact Nat.mod_lt _ hsz
          exact oneCell_rd (hrd (m / sz) (m % sz) _ h1 (List.getElem?_eq_getElem h2))
        · have hq : q < sz := by have := (List.getElem?_eq_some_iff.1 hd).1; rw [hlen _ hj] at this; exact this
          obtain ⟨e1, e2⟩ := divmod j q hq
          obtain ⟨_, rfl⟩ := rangeMap_get (u := fun m => u (m / sz) (m % sz)) hx
          simp only [e1, e2]
          exact rd_less (hrd j q d hj hd) (h.goneM fr')
    · split at hk
      · refine ⟨0, _, [], [], hk, by simp, fun _ _ => ⟨?_, fun j hj => absurd hj (by omega), fun j q d u hj => absurd hj (by omega)⟩⟩
        cases den_data hv with
        | nil => exact nilSrc 0
        | sl _ _ _ ad cap u => exact slSrc ad 0 cap [] (by simp) (fun j x hx => by simp at hx) (fun x hx => by simp at hx)
      · exact hk.elim
  · rename_i s
    split at hk
    · cases den_str hv
      have hsrc : Src P 1 tx (strV s) s.length (byteCells ⟨s.toArray⟩) w := by
        have hss : (⟨s.toArray⟩ : ByteArray).size = s.length := size_str s
        have f1 := fun w' : World => firstCells_string (P := P) ⟨s.toArray⟩ w'
        rw [hss] at f1
        exact ⟨htx, fun w' => by simp [Builtin.lenOf, strV, hss], f1 w, f1 w.drew, by rw [byteCells_length, hss, Nat.mul_one], fun u hu => by
          obtain ⟨_, _, rfl⟩ := List.mem_map.1 hu
          rfl⟩
      refine ⟨s.length, _, [], byteCells ⟨s.toArray⟩, hk, by simp, fun fr' _ => ⟨hsrc, fun j _ => rfl, fun j q d u hj hd hu => ?_⟩⟩
      cases q with
      | zero =>
        simp at hd
        subst hd
        simp [byteCells] at hu
        obtain ⟨x, hx, rfl⟩ := hu
        have : byteAt s (j : Int) = x.toNat := by
          unfold byteAt
          simp [hx]
        rw [this]
        exact .int _ _
      | succ q => simp at hd
    · exact hk.elim
  · rename_i i
    rw [getBK_eq] at hk
    split at hk
    · rename_i e sz' n z f hg
      split at hk
      · rename_i hb
        cases beq_of hb
        have hki := getB_some hg (by simp)
        cases hv with
        | allNil _ L hL hnil =>
          have hb := h.at hki (by simp) hL
          cases hb with
          | rowNil => exact ⟨0, f, [], [], hk, by simp, fun _ _ => ⟨nilSrc 0, fun j hj => absurd hj (by omega), fun j q d u hj => absurd hj (by omega)⟩⟩
          | row _ _ _ _ _ vs fz hfp hnil' => rw [hnil] at hnil'; cases hnil'
        | all _ L hL hnil =>
          have hb := h.at hki (by simp) hL
          cases hb with
          | rowNil _ _ _ _ _ hnil' => rw [hnil] at hnil'; cases hnil'
          | row _ _ _ _ _ vs fz hfp _ hLs hLn hzz hb hfz hvs hng hfl hr h1 =>
            have hle : n * sz ≤ vs.size := by rw [hvs]; exact Nat.mul_le_mul_right _ hng
            refine ⟨n, f, [], vs.toList.take (n * sz), hk, by simp, fun fr' _ => ⟨?_, hfl, fun j q d u hj hd hu => ?_⟩⟩
            · rw [hLn]
              refine slSrc _ n _ _ (by simp; omega) (fun j x hx => ?_) (fun x hx => ?_)
              · rw [List.getElem?_take] at hx
                split at hx
                · rw [add_lit0]; simpa [World.cell?, hb] using hx
                · cases hx
              · obtain ⟨j, hj, rfl⟩ := List.mem_iff_getElem.1 (List.mem_of_mem_take hx)
                exact h1 j _ (by simp)
            · rw [List.getElem?_take] at hu
              split at hu
              · exact rd_less (hr j q d u hj hd (by simpa using hu)) (h.goneM fr')
              · cases hu
      · exact hk.elim
    · exact hk.elim
  · rename_i i lo n
    rw [getBK_eq] at hk
    split at hk
    · rename_i e sz' m z f hg
      split at hk
      · rename_i hb
        cases beq_of hb
        obtain ⟨hle, hk⟩ := hk
        have hki := getB_some hg (by simp)
        cases hv with
        | rowNil _ L hL hnil => exact ⟨0, _, [], [], hk, by simp, fun _ _ => ⟨nilSrc 0, fun j hj => absurd hj (by omega), fun j q d u hj => absurd hj (by omega)⟩⟩
        | row _ _ _ off L hL hnil hc ho =>
          have hb := h.at hki (by simp) hL
          cases hb with
          | rowNil _ _ _ _ _ hnil' => rw [hnil] at hnil'; cases hnil'
          | row _ _ _ _ _ vs fz hfp _ hLs hLn hzz hb hfz hvs hng hfl hr h1 =>
            have hle' : lo * sz + n * sz ≤ vs.size := by rw [hvs, ← Nat.add_mul]; exact Nat.mul_le_mul_right _ hc
            refine ⟨n, _, [], (vs.toList.drop (lo * sz)).take (n * sz), hk, by simp, fun fr' _ => ⟨?_, fun j hj => hfl _ (by omega), fun j q d u hj hd hu => ?_⟩⟩
            · refine slSrc _ n _ _ (by simp; omega) (fun j x hx => ?_) (fun x hx => ?_)
              · rw [List.getElem?_take] at hx
                split at hx
                · rename_i hj
                  have hn : 0 < n := by
                    rcases Nat.eq_zero_or_pos n with e | e
                    · subst e; simp at hj
                    · exact e
                  rw [List.getElem?_drop] at hx
                  rw [add_lit0, ho (.inl (by omega)), hLs]; simpa [World.cell?, hb] using hx
                · cases hx
              · obtain ⟨j, hj, rfl⟩ := List.mem_iff_getElem.1 (List.mem_of_mem_drop (List.mem_of_mem_take hx))
                exact h1 j _ (by simp)
            · rw [List.getElem?_take] at hu
              split at hu
              · rw [List.getElem?_drop] at hu
                refine rd_less (hr (lo + j) q d u (by omega) hd ?_) (h.goneM fr')
                rw [Nat.add_mul, Nat.add_assoc]; simpa using hu
              · cases hu
      · exact hk.elim
    · exact hk.elim
  · rename_i i off n c
    rw [getBK_eq] at hk
    split at hk
    · rename_i t l hg
      split at hk
      · rename_i hble
        rw [lenL_eq] at hble
        have hble := ble_of hble
        rw [dropK_eq, takeK_eq] at hk
        have hki := getB_some hg (by simp)
        cases hv with
        | cs _ _ _ _ L hL hnc =>
          have hb := h.at hki (by simp) hL
          cases hb with
          | cells _ _ vs hfp hb hl hd h1 =>
            obtain ⟨ds, fr, hk, h2, h3, h4⟩ := dvsK_spec h _ _ ((vs.toList.drop off).take (n * sz)) hk (by simp [hl]) (fun j s u hs hu => by
              rw [List.getElem?_take] at hs hu
              split at hs
              · rename_i hj
                rw [if_pos hj] at hu
                rw [List.getElem?_drop] at hs hu
                exact hd _ _ _ hs (by simpa using hu)
              · cases hs)
            have hdl : ds.length = n * sz := by rw [h2]; simp; omega
            have hch : ∀ j, j < n → (chunk ds sz j).length = sz := fun j hj => by
              unfold chunk
              have : (j + 1) * sz ≤ n * sz := Nat.mul_le_mul_right _ hj
              rw [Nat.add_mul, Nat.one_mul] at this
              simp [hdl]
              omega
            refine ⟨n, _, fr, (vs.toList.drop off).take (n * sz), hk, h3, fun fr' hf => ⟨slSrc _ n _ _ (by simp; omega) (fun j x hx => ?_) (fun x hx => ?_), hch, fun j q d u hj hdd hu => ?_⟩⟩
            · rw [List.getElem?_take] at hx
              split at hx
              · rw [List.getElem?_drop] at hx
                rw [add_lit0]; simpa [World.cell?, hb] using hx
              · cases hx
            · obtain ⟨j, hj, rfl⟩ := List.mem_iff_getElem.1 (List.mem_of_mem_drop (List.mem_of_mem_take hx))
              exact h1 j _ (by simp)
            · have hq : q < sz := by have := (List.getElem?_eq_some_iff.1 hdd).1; rw [hch _ hj] at this; exact this
              unfold chunk at hdd
              rw [List.getElem?_take, if_pos hq, List.getElem?_drop] at hdd
              exact h4 fr' hf _ d u hdd hu
      · exact hk.elim
    · exact hk.elim
  · exact hk.elim

end
end Go.Eng
