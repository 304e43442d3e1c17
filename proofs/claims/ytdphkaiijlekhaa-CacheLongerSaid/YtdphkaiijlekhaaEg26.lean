/-
  The engine, part 26: a table of types, checked by one closed fact; structs compared cell by cell.
-/
import Derived.Test.YtdphkaiijlekhaaEg25
import Derived.ChangeKeysEq
namespace Go.Eng
open Go Go.RowKit

def flatFs (P : Program) (F : TypeId → Option (List EK)) : List Field → Nat → Option (List EK)
  | [], _ => some []
  | f :: fs, off =>
    if f.name = "_" ∨ f.offset ≠ off then none else
    match F f.type, P.info? f.type with
    | some l, some i => if i.size = l.length then (flatFs P F fs (off + l.length)).map (l ++ ·) else none
    | _, _ => none
def repL (l : List EK) : Nat → List EK
  | 0 => []
  | n + 1 => l ++ repL l n
def flat (P : Program) : Nat → TypeId → Option (List EK)
  | 0, _ => none
  | d + 1, t => match P.underlying t with
    | some .bool => some [.bool]
    | some (.int k) => some [.int k]
    | some .string => some [.str]
    | some (.struct fs) => if P.stoodInHeld t = true then none else flatFs P (flat P d) fs.toList 0
    | some (.array n e) => match flat P d e, P.info? e with
      | some l, some i => if i.size = l.length ∧ P.cellsOf e = l.length then some (repL l n) else none
      | _, _ => none
    | _ => none

def mkV (d : TypeDesc) (cs : List Value) : Value := if aggDesc d = true then .agg cs.toArray else cs.headD undef

section
variable {P : Program} {w : World}

theorem run_part {t : TypeId} {d : TypeDesc} {i : TypeInfo} (hd : P.underlying t = some d) (hi : P.info? t = some i) (xs : List Value) (off n : Nat) (hn : i.size = n) (h1 : aggDesc d = false → n = 1) (hin : off + n ≤ xs.length) :
    (part t xs.toArray off).run P w = .ok (mkV d ((xs.drop off).take n)) w := by
  unfold mkV
  cases ha : aggDesc d with
  | true =>
    simp only [part, Sem.run_bind, Go.Eng.run_isAgg hd, ha, Result.andThen_ok, if_true, Go.Eng.run_sizeOf hi, Sem.run_pure]
    congr 2
    apply Array.ext'
    simp [hn]
  | false =>
    have := h1 ha
    subst this
    have hlt : off < xs.length := by omega
    simp only [part, Sem.run_bind, Go.Eng.run_isAgg hd, ha, Result.andThen_ok, Bool.false_eq_true, if_false]
    have e : (xs.drop off).take 1 = [xs[off]] := by rw [List.drop_eq_getElem_cons hlt]; rfl
    rw [e]
    simp [hlt]

theorem eqCells_append (a b : List EK) (x1 x2 y1 y2 : List Value) (hx : x1.length = a.length) (hy : y1.length = a.length) : eqCells (a ++ b) (x1 ++ x2) (y1 ++ y2) = (eqCells a x1 y1 && eqCells b x2 y2) := by
  induction a generalizing x1 y1 with
  | nil =>
    have : x1 = [] := List.eq_nil_of_length_eq_zero (by simpa using hx)
    have : y1 = [] := List.eq_nil_of_length_eq_zero (by simpa using hy)
    subst_vars
    simp [eqCells]
  | cons k a ih => cases x1 with
    | nil => simp at hx
    | cons x x1 => cases y1 with
      | nil => simp at hy
      | cons y y1 =>
        simp only [List.cons_append, eqCells]
        rw [ih x1 y1 (by simpa using hx) (by simpa using hy), Bool.and_assoc]

theorem Fits.take {ks l : List EK} {xs : List Value} (h : Fits (l ++ ks) xs) : Fits l (xs.take l.length) := fun j k x hk hx => by
  have hj := (List.getElem?_eq_some_iff.1 hk).1
  rw [List.getElem?_take, if_pos hj] at hx
  exact h j k x (by rw [List.getElem?_append_left hj]; exact hk) hx
theorem Fits.drop {ks l : List EK} {xs : List Value} (h : Fits (l ++ ks) xs) : Fits ks (xs.drop l.length) := fun j k x hk hx => by
  rw [List.getElem?_drop] at hx
  exact h (l.length + j) k x (by rw [List.getElem?_append_right (by omega)]; simpa using hk) hx

theorem flat_one {d : Nat} {t : TypeId} {ks : List EK} {desc : TypeDesc} (h : flat P d t = some ks) (hd : P.underlying t = some desc) (ha : aggDesc desc = false) : ks.length = 1 := by
  cases d with
  | zero => cases h
  | succ d =>
    simp only [flat, hd] at h
    cases desc <;> simp [aggDesc] at ha h <;> subst h <;> rfl

theorem flatFs_sound {d : Nat} (IH : ∀ (t : TypeId) (ks : List EK) (desc : TypeDesc), flat P d t = some ks → P.underlying t = some desc → ∀ (m : Nat) (xs ys : List Value), xs.length = ks.length → ys.length = ks.length → Fits ks xs → Fits ks ys → ∀ w : World,
      (Op.equalIn (d + m) t (mkV desc xs) (mkV desc ys)).run P w = .ok (eqCells ks xs ys) w) (m : Nat) (xs ys : List Value) :
    ∀ (fs : List Field) (off : Nat) (ks : List EK), flatFs P (flat P d) fs off = some ks → off + ks.length ≤ xs.length → off + ks.length ≤ ys.length → Fits ks (xs.drop off) → Fits ks (ys.drop off) → ∀ w : World,
      (Op.eqFields (d + m) xs.toArray ys.toArray fs).run P w = .ok (eqCells ks ((xs.drop off).take ks.length) ((ys.drop off).take ks.length)) w := by
  intro fs
  induction fs with
  | nil => intro off ks h _ _ _ _ w; simp [flatFs] at h; subst h; simp [Op.eqFields, eqCells]
  | cons f fs ih =>
    intro off ks h hx hy hfx hfy w
    simp only [flatFs] at h
    split at h
    · cases h
    · rename_i hn
      simp only [not_or, Decidable.not_not] at hn
      obtain ⟨hnm, hoff⟩ := hn
      split at h
      · rename_i l i hl hi
        split at h
        · rename_i hsz
          rw [Option.map_eq_some_iff] at h
          obtain ⟨ks', hks', rfl⟩ := h
          simp only [List.length_append] at hx hy
          obtain ⟨desc, hdesc⟩ : ∃ desc, P.underlying f.type = some desc := by
            cases hu : P.underlying f.type with
            | none => cases d <;> simp [flat, hu] at hl
            | some x => exact ⟨x, rfl⟩
          have p1 := run_part (w := w) hdesc hi xs off l.length hsz (fun ha => flat_one hl hdesc ha) (by omega)
          have p2 := run_part (w := w) hdesc hi ys off l.length hsz (fun ha => flat_one hl hdesc ha) (by omega)
          have p3 := IH f.type l desc hl hdesc m ((xs.drop off).take l.length) ((ys.drop off).take l.length) (by simp; omega) (by simp; omega) hfx.take hfy.take w
          have p4 := ih (off + l.length) ks' hks' (by omega) (by omega) (by have := hfx.drop; rwa [List.drop_drop] at this) (by have := hfy.drop; rwa [List.drop_drop] at this) w
          have esplit : ∀ zs : List Value, (zs.drop off).take (l ++ ks').length = (zs.drop off).take l.length ++ (zs.drop (off + l.length)).take ks'.length := fun zs => by
            rw [List.length_append, List.take_add, List.drop_drop]
          rw [esplit, esplit, eqCells_append _ _ _ _ _ _ (by simp; omega) (by simp; omega)]
          simp only [Op.eqFields, hnm, ne_eq, not_false_eq_true, if_true, Sem.run_bind, hoff, p1, p2, p3, Result.andThen_ok]
          cases hq : eqCells l ((xs.drop off).take l.length) ((ys.drop off).take l.length) with
          | false => simp
          | true => simp [p4]
        · cases h
      · cases h

theorem items_sound {d : Nat} {e : TypeId} {l : List EK} {desc : TypeDesc} {i : TypeInfo} (IH : ∀ (m : Nat) (xs ys : List Value), xs.length = l.length → ys.length = l.length → Fits l xs → Fits l ys → ∀ w : World,
      (Op.equalIn (d + m) e (mkV desc xs) (mkV desc ys)).run P w = .ok (eqCells l xs ys) w) (hdesc : P.underlying e = some desc) (hi : P.info? e = some i) (hsz : i.size = l.length) (h1 : aggDesc desc = false → l.length = 1) (m : Nat) (xs ys : List Value) :
    ∀ (n k : Nat), (k + n) * l.length ≤ xs.length → (k + n) * l.length ≤ ys.length → Fits (repL l n) (xs.drop (k * l.length)) → Fits (repL l n) (ys.drop (k * l.length)) → ∀ w : World,
      (Op.eqItems (d + m) e l.length xs.toArray ys.toArray (List.range' k n)).run P w = .ok (eqCells (repL l n) ((xs.drop (k * l.length)).take (n * l.length)) ((ys.drop (k * l.length)).take (n * l.length))) w := by
  intro n
  induction n with
  | zero => intro k _ _ _ _ w; simp [Op.eqItems, repL, eqCells]
  | succ n ih =>
    intro k hx hy hfx hfy w
    have hmul : (k + (n + 1)) * l.length = k * l.length + l.length + n * l.length := by
      rw [Nat.add_mul, Nat.add_mul, Nat.one_mul]; omega
    have hmul2 : (k + 1 + n) * l.length = (k + (n + 1)) * l.length := by rw [show k + 1 + n = k + (n + 1) from by omega]
    have p1 := run_part (w := w) hdesc hi xs (k * l.length) l.length hsz h1 (by omega)
    have p2 := run_part (w := w) hdesc hi ys (k * l.length) l.length hsz h1 (by omega)
    have p3 := IH m ((xs.drop (k * l.length)).take l.length) ((ys.drop (k * l.length)).take l.length) (by simp; omega) (by simp; omega) hfx.take hfy.take w
    have hk : (k + 1) * l.length = k * l.length + l.length := by rw [Nat.add_mul, Nat.one_mul]
    have p4 := ih (k + 1) (by omega) (by omega) (by have := hfx.drop; rw [List.drop_drop] at this; rw [hk]; exact this) (by have := hfy.drop; rw [List.drop_drop] at this; rw [hk]; exact this) w
    have esplit : ∀ zs : List Value, (zs.drop (k * l.length)).take ((n + 1) * l.length) = (zs.drop (k * l.length)).take l.length ++ (zs.drop ((k + 1) * l.length)).take (n * l.length) := fun zs => by
      rw [Nat.add_mul, Nat.one_mul, Nat.add_comm (n * l.length), List.take_add, List.drop_drop, hk]
    rw [esplit, esplit]
    simp only [repL]
    rw [eqCells_append _ _ _ _ _ _ (by simp; omega) (by simp; omega)]
    simp only [List.range'_succ, Op.eqItems, Sem.run_bind, p1, p2, p3, Result.andThen_ok]
    cases hq : eqCells l ((xs.drop (k * l.length)).take l.length) ((ys.drop (k * l.length)).take l.length) with
    | false => simp
    | true => simp [p4]

theorem repL_length (l : List EK) (n : Nat) : (repL l n).length = n * l.length := by
  induction n with
  | zero => simp [repL]
  | succ n ih => simp [repL, ih, Nat.add_mul]; omega

theorem repL_get (l : List EK) : ∀ (n j q : Nat), j < n → q < l.length → (repL l n)[j * l.length + q]? = l[q]? := by
  intro n
  induction n with
  | zero => intro j q hj; omega
  | succ n ih =>
    intro j q hj hq
    cases j with
    | zero => simp only [repL]; rw [List.getElem?_append_left (by omega)]; simp
    | succ j =>
      simp only [repL]
      rw [Nat.add_mul, Nat.one_mul, List.getElem?_append_right (by omega), show j * l.length + l.length + q - l.length = j * l.length + q from by omega]
      exact ih j q (by omega) hq
theorem flat_sound : ∀ (d : Nat) (t : TypeId) (ks : List EK) (desc : TypeDesc), flat P d t = some ks → P.underlying t = some desc → ∀ (m : Nat) (xs ys : List Value), xs.length = ks.length → ys.length = ks.length → Fits ks xs → Fits ks ys → ∀ w : World,
    (Op.equalIn (d + m) t (mkV desc xs) (mkV desc ys)).run P w = .ok (eqCells ks xs ys) w := by
  intro d
  induction d with
  | zero => intro t ks desc h; cases h
  | succ d IH =>
    intro t ks desc h hd m xs ys hx hy hfx hfy w
    rw [show d + 1 + m = (d + m) + 1 from by omega]
    simp only [flat, hd] at h
    have one : ∀ k : EK, ks = [k] → ∃ x y, xs = [x] ∧ ys = [y] ∧ fits k x ∧ fits k y := by
      rintro k rfl
      match xs, ys, hx, hy with
      | [x], [y], _, _ => exact ⟨x, y, rfl, rfl, hfx 0 k x rfl rfl, hfy 0 k y rfl rfl⟩
    cases desc with
    | bool =>
      obtain ⟨x, y, rfl, rfl, f1, f2⟩ := one .bool (by simpa using h.symm)
      obtain rfl : ks = [.bool] := by simpa using h.symm
      cases x <;> simp [fits] at f1
      cases y <;> simp [fits] at f2
      simp [mkV, aggDesc, eqCells, eqCell, eqIn_bool _ _ _ _ hd]
    | int k =>
      obtain ⟨x, y, rfl, rfl, f1, f2⟩ := one (.int k) (by simpa using h.symm)
      obtain rfl : ks = [.int k] := by simpa using h.symm
      cases x <;> simp [fits] at f1
      cases y <;> simp [fits] at f2
      subst f1 f2
      simp [mkV, aggDesc, eqCells, eqCell, run_equalIn_int w _ t k k _ _ hd]
    | string =>
      obtain ⟨x, y, rfl, rfl, f1, f2⟩ := one .str (by simpa using h.symm)
      obtain rfl : ks = [.str] := by simpa using h.symm
      cases x <;> simp [fits] at f1
      cases y <;> simp [fits] at f2
      simp [mkV, aggDesc, eqCells, eqCell, run_equalIn_string w _ t _ _ hd]
    | struct fs =>
      simp only at h
      split at h
      · cases h
      · rename_i hst
        have hfo : P.fieldsOf t = fs := by simp [Program.fieldsOf, hd]
        have := run_equalIn_struct (P := P) w (d + m) t xs.toArray ys.toArray (by rw [hfo]; exact hd) (by simpa using hst)
        simp only [mkV, aggDesc, if_true]
        rw [this, hfo, flatFs_sound (fun t ks desc a b => IH t ks desc a b) m xs ys fs.toList 0 ks h (by omega) (by omega) (by simpa using hfx) (by simpa using hfy) w]
        simp [hx, hy]
        rw [List.take_of_length_le (by omega), List.take_of_length_le (by omega)]
    | array n e =>
      simp only at h
      split at h
      · rename_i l i hl hi
        split at h
        · rename_i hc
          obtain ⟨hsz, hco⟩ := hc
          obtain rfl : ks = repL l n := by simpa using h.symm
          obtain ⟨desc, hdesc⟩ : ∃ desc, P.underlying e = some desc := by
            cases hu : P.underlying e with
            | none => cases d <;> simp [flat, hu] at hl
            | some x => exact ⟨x, rfl⟩
          have := run_equalIn_array (P := P) w (d + m) xs.toArray ys.toArray hd hi
          simp only [mkV, aggDesc, if_true]
          rw [repL_length] at hx hy
          rw [this, hco, List.range_eq_range', items_sound (fun m xs ys a b c d w => IH e l desc hl hdesc m xs ys a b c d w) hdesc hi hsz (fun ha => flat_one hl hdesc ha) m xs ys n 0 (by simp [hx]) (by simp [hy]) (by simpa using hfx) (by simpa using hfy) w]
          simp
          rw [List.take_of_length_le (by omega), List.take_of_length_le (by omega)]
        · cases h
      · cases h
    | _ => cases h

end

section
variable {P : Program}
theorem flatFs_each {d : Nat} (xs : List Value) : ∀ (fs : List Field) (off : Nat) (ks : List EK), flatFs P (flat P d) fs off = some ks → off + ks.length ≤ xs.length → Fits ks (xs.drop off) →
      ∀ f ∈ fs, ¬ f.name = "_" ∧ ∃ l i desc, flat P d f.type = some l ∧ P.info? f.type = some i ∧ i.size = l.length ∧ P.underlying f.type = some desc ∧ f.offset + l.length ≤ xs.length ∧ Fits l ((xs.drop f.offset).take l.length) := by
  intro fs
  induction fs with
  | nil => intro off ks h _ _ f hf; simp at hf
  | cons f fs ih =>
    intro off ks h hx hfx g hg
    simp only [flatFs] at h
    split at h
    · cases h
    · rename_i hn
      simp only [not_or, Decidable.not_not] at hn
      obtain ⟨hnm, hoff⟩ := hn
      split at h
      · rename_i l i hl hi
        split at h
        · rename_i hsz
          rw [Option.map_eq_some_iff] at h
          obtain ⟨ks', hks', rfl⟩ := h
          simp only [List.length_append] at hx
          rcases List.mem_cons.1 hg with rfl | hg
          · obtain ⟨desc, hdesc⟩ : ∃ desc, P.underlying g.type = some desc := by
              cases hu : P.underlying g.type with
              | none => cases d <;> simp [flat, hu] at hl
              | some x => exact ⟨x, rfl⟩
            exact ⟨hnm, l, i, desc, hl, hi, hsz, hdesc, by omega, by rw [hoff]; exact hfx.take⟩
          · exact ih (off + l.length) ks' hks' (by omega) (by have := hfx.drop; rwa [List.drop_drop] at this) g hg
        · cases h
      · cases h

theorem flat_key (b : Bool) : ∀ (d : Nat) (t : TypeId) (ks : List EK) (desc : TypeDesc), flat P d t = some ks → P.underlying t = some desc → ∀ (m : Nat) (xs : List Value), xs.length = ks.length → Fits ks xs → ∀ w : World,
    (Instr.checkKey b (d + m) t (mkV desc xs)).run P w = .ok () w := by
  intro d
  induction d with
  | zero => intro t ks desc h; cases h
  | succ d IH =>
    intro t ks desc h hd m xs hx hfx w
    rw [show d + 1 + m = (d + m) + 1 from by omega]
    simp only [flat, hd] at h
    cases desc with
    | bool => exact chk_plain hd (.inr (.inr rfl)) b _ _
    | int k => exact chk_plain hd (.inl ⟨k, rfl⟩) b _ _
    | string => exact chk_plain hd (.inr (.inl rfl)) b _ _
    | struct fs =>
      simp only at h
      split at h
      · cases h
      · simp only [mkV, aggDesc, if_true]
        rw [Instr.checkKey]
        simp only [Sem.run_bind, run_underlying hd, Result.andThen_ok]
        rw [← Array.forIn_toList]
        have each := flatFs_each xs fs.toList 0 ks h (by omega) (by simpa using hfx)
        generalize fs.toList = l at each
        induction l with
        | nil => simp
        | cons f l ih =>
          obtain ⟨hnm, l', i, desc, hl, hi, hsz, hdesc, e1, e2⟩ := each f (by simp)
          have p1 := run_part (w := w) hdesc hi xs f.offset l'.length hsz (fun ha => flat_one hl hdesc ha) e1
          have p2 := IH f.type l' desc hl hdesc m _ (by simp; omega) e2 w
          simp only [List.forIn_cons, Sem.run_bind, hnm, ne_eq, not_false_eq_true, if_true, Result.andThen_ok, p1, p2, Sem.run_pure]
          exact ih (fun g hg => each g (by simp [hg]))
    | array n e =>
      simp only at h
      split at h
      · rename_i l i hl hi
        split at h
        · rename_i hc
          obtain ⟨hsz, hco⟩ := hc
          obtain rfl : ks = repL l n := by simpa using h.symm
          obtain ⟨desc, hdesc⟩ : ∃ desc, P.underlying e = some desc := by
            cases hu : P.underlying e with
            | none => cases d <;> simp [flat, hu] at hl
            | some x => exact ⟨x, rfl⟩
          rw [repL_length] at hx
          simp only [mkV, aggDesc, if_true]
          rw [Instr.checkKey]
          simp only [Sem.run_bind, run_underlying hd, Result.andThen_ok]
          simp only [Std.Legacy.Range.forIn_eq_forIn_range', Std.Legacy.Range.size, Nat.sub_zero, Nat.add_one_sub_one, Nat.div_one]
          have each : ∀ j ∈ List.range' 0 n, (j + 1) * l.length ≤ xs.length ∧ Fits l ((xs.drop (j * l.length)).take l.length) := fun j hj => by
            have hj : j < n := by simpa using (List.mem_range'_1.1 hj).2
            refine ⟨by rw [hx]; exact Nat.mul_le_mul_right _ hj, ?_⟩
            intro q k x hk hxq
            have hq := (List.getElem?_eq_some_iff.1 hk).1
            rw [List.getElem?_take, if_pos hq, List.getElem?_drop] at hxq
            exact hfx _ k x (by rw [repL_get l n j q hj hq]; exact hk) hxq
          generalize List.range' 0 n = is at each
          induction is with
          | nil => simp
          | cons j is ih =>
            obtain ⟨e1, e2⟩ := each j (by simp)
            rw [Nat.add_mul, Nat.one_mul] at e1
            have p1 := run_part (w := w) hdesc hi xs (j * l.length) l.length hsz (fun ha => flat_one hl hdesc ha) e1
            have p2 := IH e l desc hl hdesc m _ (by simp; omega) e2 w
            simp only [List.forIn_cons, Sem.run_bind, Go.Eng.run_sizeOf hi, hsz, Result.andThen_ok, p1, p2, Sem.run_pure]
            exact ih (fun y hy => each y (by simp [hy]))
        · cases h
      · cases h
    | _ => cases h
end

def zagB : Value → Bool → Bool
  | .agg _, b => b
  | _, b => !b

def zeroB : List SV → List Value → Bool
  | [], [] => true
  | .d (.int k n) :: l, .int k' n' :: m => kEq k k' && n == n' && zeroB l m
  | .d .ff :: l, .bool false :: m => zeroB l m
  | .d (.str []) :: l, .string s :: m => s.data.isEmpty && zeroB l m
  | .d (.sl true 0 _ _) :: l, .slice none 0 0 :: m => zeroB l m
  | .v (.pointer none) :: l, .pointer none :: m => zeroB l m
  | .v (.map none) :: l, .map none :: m => zeroB l m
  | .v .nilFunc :: l, .nilFunc :: m => zeroB l m
  | .v .nilIface :: l, .nilIface :: m => zeroB l m
  | _, _ => false

def fieldsB (P : Program) : List Field → List (Nat × TypeId) → Bool
  | [], [] => true
  | f :: fs, (off, t) :: r => f.offset == off && f.type == t && ((P.info? t).any fun i => i.size != 0) && fieldsB P fs r
  | _, _ => false

def descB (P : Program) (d : TypeDesc) : TD → Bool
  | .other => true
  | .bool => (match d with | .bool => true | _ => false)
  | .str => (match d with | .string => true | _ => false)
  | .int k => (match d with | .int k' => kEq k' k | _ => false)
  | .slice e => (match d with | .slice e' => e' == e | _ => false)
  | .array n e => (match d with | .array n' e' => n' == n && e' == e | _ => false)
  | .ptr e => (match d with | .pointer e' => e' == e | _ => false)
  | .map k e => (match d with | .map k' e' => k' == k && e' == e | _ => false)
  | .struct fs => (match d with | .struct fields => fieldsB P fields.toList fs | _ => false)

def checkTI (P : Program) (t : TypeId) (ti : TI) : Bool :=
  match P.info? t, P.underlying t with
  | some info, some d => info.size == ti.size && info.bytes == ti.bytes && aggDesc d == ti.agg && (match info.zero with
      | some z => zeroB ti.zero z.cells.toList && zagB z ti.agg
      | none => false) && ti.zero.length == ti.size && descB P d ti.desc && (ti.eqk.isEmpty || (ti.agg && decide (flat P 20 t = some ti.eqk) && !P.eqGuardType P.depth t))
  | _, _ => false
def checkAll (P : Program) : List (Nat × TI) → Bool
  | [] => true
  | (t, ti) :: l => checkTI P t ti && checkAll P l
def look : List (Nat × TI) → Nat → Option TI
  | [], _ => none
  | (k, v) :: l, n => match Nat.beq k n with
    | true => some v
    | false => look l n

theorem zeroB_spec {l : List SV} {m : List Value} (h : zeroB l m = true) : l.length = m.length ∧ (∀ (w : World) (M : Nat → Prop) (β : Env) (j : Nat) (s : SV) (u : Value), l[j]? = some s → m[j]? = some u → Den w M β s u) ∧ ∀ (j : Nat) (u : Value), m[j]? = some u → u.oneCell' = true := by
  induction l generalizing m with
  | nil => cases m with
    | nil => exact ⟨rfl, by simp, by simp⟩
    | cons => simp [zeroB] at h
  | cons s l ih =>
    cases m with
    | nil =>
      exfalso
      unfold zeroB at h
      split at h <;> simp_all
    | cons v m =>
      have key : zeroB l m = true → (∀ (w : World) (M : Nat → Prop) (β : Env), Den w M β s v) → v.oneCell' = true → (s :: l).length = (v :: m).length ∧ (∀ (w : World) (M : Nat → Prop) (β : Env) (j : Nat) (s' : SV) (u : Value), (s :: l)[j]? = some s' → (v :: m)[j]? = some u → Den w M β s' u) ∧ ∀ (j : Nat) (u : Value), (v :: m)[j]? = some u → u.oneCell' = true := by
        intro hz hd h1
        obtain ⟨a, b, c⟩ := ih hz
        refine ⟨by simp [a], fun w M β j s' u hs hu => ?_, fun j u hu => ?_⟩
        · cases j with
          | zero => simp at hs hu; subst hs hu; exact hd w M β
          | succ j => exact b w M β j s' u (by simpa using hs) (by simpa using hu)
        · cases j with
          | zero => simp at hu; subst hu; exact h1
          | succ j => exact c j u (by simpa using hu)
      unfold zeroB at h
      split at h
      · rename_i e _; cases e
      · rename_i e1 e2
        obtain ⟨rfl, rfl⟩ := List.cons.inj e1
        obtain ⟨rfl, rfl⟩ := List.cons.inj e2
        simp only [Bool.and_eq_true, beq_iff_eq] at h
        obtain ⟨⟨hk, rfl⟩, hz⟩ := h
        cases kEq_eq hk
        exact key hz (fun w M β => .d (.int _ _)) rfl
      · rename_i e1 e2
        obtain ⟨rfl, rfl⟩ := List.cons.inj e1
        obtain ⟨rfl, rfl⟩ := List.cons.inj e2
        exact key h (fun w M β => .d .ff) rfl
      · rename_i str _ e1 e2
        obtain ⟨rfl, rfl⟩ := List.cons.inj e1
        obtain ⟨rfl, rfl⟩ := List.cons.inj e2
        simp only [Bool.and_eq_true] at h
        refine key h.2 (fun w M β => .d ?_) rfl
        have : Value.string str = strV [] := by
          obtain ⟨x⟩ := str
          simp at h
          obtain ⟨rfl, _⟩ := h
          rfl
        rw [this]
        exact .str _
      · rename_i e1 e2
        obtain ⟨rfl, rfl⟩ := List.cons.inj e1
        obtain ⟨rfl, rfl⟩ := List.cons.inj e2
        exact key h (fun w M β => .d (.nil _ _)) rfl
      · rename_i e1 e2
        obtain ⟨rfl, rfl⟩ := List.cons.inj e1
        obtain ⟨rfl, rfl⟩ := List.cons.inj e2
        exact key h (fun w M β => .v _) rfl
      · rename_i e1 e2
        obtain ⟨rfl, rfl⟩ := List.cons.inj e1
        obtain ⟨rfl, rfl⟩ := List.cons.inj e2
        exact key h (fun w M β => .v _) rfl
      · rename_i e1 e2
        obtain ⟨rfl, rfl⟩ := List.cons.inj e1
        obtain ⟨rfl, rfl⟩ := List.cons.inj e2
        exact key h (fun w M β => .v _) rfl
      · rename_i e1 e2
        obtain ⟨rfl, rfl⟩ := List.cons.inj e1
        obtain ⟨rfl, rfl⟩ := List.cons.inj e2
        exact key h (fun w M β => .v _) rfl
      · cases h

theorem fieldsB_spec {P : Program} {fs : List Field} {l : List (Nat × TypeId)} (h : fieldsB P fs l = true) : fs.length = l.length ∧ ∀ (j : Nat) (off : Nat) (ft : TypeId), l[j]? = some (off, ft) → ∃ (f : Field) (fi : TypeInfo), fs[j]? = some f ∧ f.offset = off ∧ f.type = ft ∧ P.info? ft = some fi ∧ fi.size ≠ 0 := by
  induction fs generalizing l with
  | nil => cases l with
    | nil => exact ⟨rfl, by simp⟩
    | cons => simp [fieldsB] at h
  | cons f fs ih => cases l with
    | nil => simp [fieldsB] at h
    | cons p l =>
      obtain ⟨off, t⟩ := p
      simp only [fieldsB, Bool.and_eq_true, beq_iff_eq] at h
      obtain ⟨⟨⟨h1, h2⟩, h3⟩, h4⟩ := h
      obtain ⟨a, b⟩ := ih h4
      refine ⟨by simp [a], fun j o ft hj => ?_⟩
      cases j with
      | zero =>
        simp at hj
        obtain ⟨rfl, rfl⟩ := hj
        cases hi : P.info? t with
        | none => simp [hi] at h3
        | some i => exact ⟨f, i, rfl, h1, h2, rfl, by simpa [hi] using h3⟩
      | succ j => exact b j o ft (by simpa using hj)

theorem descB_spec {P : Program} {d : TypeDesc} {td : TD} (h : descB P d td = true) : TDok P d td := by
  cases td <;> simp only [descB] at h
  · trivial
  · cases d <;> first | rfl | cases h
  · cases d <;> first | rfl | cases h
  · cases d <;> first | cases h | (exact congrArg TypeDesc.int (kEq_eq h)) | (simp at h)
  · cases d <;> first | cases h | (exact congrArg TypeDesc.slice (by simpa using h)) | (simp at h)
  · cases d <;> first | cases h | (simp at h; obtain ⟨rfl, rfl⟩ := h; rfl) | (simp at h)
  · split at h
    · obtain ⟨a, b⟩ := fieldsB_spec h
      rename_i fields
      exact ⟨fields, rfl, by simpa using a, fun j off ft hj => by
        obtain ⟨f, fi, h1, h2⟩ := b j off ft hj
        exact ⟨f, fi, by simpa using h1, h2⟩⟩
    · cases h
  · cases d <;> first | cases h | (exact congrArg TypeDesc.pointer (by simpa using h)) | (simp at h)
  · cases d <;> first | cases h | (simp at h; obtain ⟨rfl, rfl⟩ := h; rfl) | (simp at h)

theorem checkTI_spec {P : Program} {t : TypeId} {ti : TI} (h : checkTI P t ti = true) : TIok P t ti := by
  unfold checkTI at h
  split at h
  · rename_i info d hi hd
    simp only [Bool.and_eq_true, beq_iff_eq] at h
    obtain ⟨⟨⟨⟨⟨⟨h1, h2⟩, h3⟩, h4⟩, h5⟩, h6⟩, h7⟩ := h
    split at h4
    · rename_i z hz
      rw [Bool.and_eq_true] at h4
      obtain ⟨h4, hzag⟩ := h4
      obtain ⟨a, b, c⟩ := zeroB_spec h4
      refine ⟨⟨info, d, z, hi, hd, h1, h2, hz, h3, by simpa using a.symm, h5, fun w M β j s u hs hu => b w M β j s u hs (by simpa using hu), fun j u hu => c j u (by simpa using hu), descB_spec h6⟩, fun hne w xs ys hx hy hfx hfy => ?_, fun info' z' hi' hz' => ?_, fun hne => ?_⟩
      case refine_2 =>
        rw [hi] at hi'
        cases hi'
        rw [hz] at hz'
        cases hz'
        cases z <;> simp [zagB] at hzag <;> simp [mkVal, hzag, Value.cells]
      case refine_3 =>
        have : ti.eqk.isEmpty = false := by cases he : ti.eqk with | nil => exact absurd he hne | cons => rfl
        simp only [this, Bool.false_or, Bool.and_eq_true, decide_eq_true_eq, Bool.not_eq_true'] at h7
        obtain ⟨⟨g1, g2⟩, g3⟩ := h7
        refine ⟨g1, fun w b xs hx hfx => ?_⟩
        have hs := flat_key (P := P) b 20 t ti.eqk d g2 hd 9980 xs hx hfx w
        have hag : aggDesc d = true := h3.trans g1
        simp only [mkV, hag, if_true] at hs
        exact hs
      have : ti.eqk.isEmpty = false := by cases he : ti.eqk with | nil => exact absurd he hne | cons => rfl
      simp only [this, Bool.false_or, Bool.and_eq_true, decide_eq_true_eq, Bool.not_eq_true'] at h7
      obtain ⟨⟨g1, g2⟩, g3⟩ := h7
      have hs := flat_sound (P := P) 20 t ti.eqk d g2 hd 9980 xs ys hx hy hfx hfy w
      have hag : aggDesc d = true := h3.trans g1
      simp only [mkV, hag, if_true] at hs
      exact ⟨hs, g3⟩
    · cases h4
  · cases h

/-- The functions that are entered where they are called, checked one by one. -/
def inlOf (fn : Func) (nargs : Nat) : Option Inl :=
  match fn.body with
  | none => none
  | some c => some ⟨nargs, fn.ntmps - nargs, fn.results.toList, c⟩
theorem TTok_of_check {P : Program} {l : List (Nat × TI)} (h : checkAll P l = true) : TTok P (look l) := by
  induction l with
  | nil => intro t ti ht; cases ht
  | cons p l ih =>
    obtain ⟨k, v⟩ := p
    simp only [checkAll, Bool.and_eq_true] at h
    intro t ti ht
    simp only [look] at ht
    split at ht
    · rename_i hk
      have := beq_of hk
      subst this
      obtain rfl := Option.some.inj ht
      exact checkTI_spec h.1
    · exact ih h.2 t ti ht

theorem enters {P : Program} {f : FuncId} {fn : Func} (hf : P.funcs[f]? = some fn) (hn : (fn.name == "runtime.NumGoroutine") = false) (hb : fn.body.isNone = false) (args : Array Value) (w : World) : (callFunc f args).run P w = .ok (.enter f args) w := by
  unfold callFunc
  simp only [Sem.run_bind, run_program, Result.andThen_ok, hf, hn, hb, Bool.false_eq_true, if_false, Sem.run_pure]

def lookI : List (Nat × Func × Nat) → Nat → Option Inl
  | [], _ => none
  | (g, fn, na) :: l, f => match Nat.beq g f with
    | true => inlOf fn na
    | false => lookI l f
theorem INok_nil {P : Program} : INok P (lookI []) := fun f i h => by cases h
theorem INok_cons {P : Program} {l : List (Nat × Func × Nat)} {g na : Nat} {fn : Func} (h : INok P (lookI l)) (hf : P.funcs[g]? = some fn) (hn : (fn.name == "runtime.NumGoroutine") = false) (hle : Nat.ble na fn.ntmps = true) : INok P (lookI ((g, fn, na) :: l)) := fun f i hi => by
  simp only [lookI] at hi
  split at hi
  · rename_i hb
    cases beq_of hb
    unfold inlOf at hi
    split at hi
    · cases hi
    · rename_i c hc
      cases hi
      have := ble_of hle
      exact ⟨fn, hf, hc, rfl, by simp only; omega, enters hf hn (by rw [hc]; rfl)⟩
  · exact h f i hi

/-- Data that the same values read as, at any depth. -/
inductive DS : DV → DV → Prop where
  | refl (x : DV) : DS x x
  | bt : DS (.bool true) .tt
  | bf : DS (.bool false) .ff
  | tb : DS .tt (.bool true)
  | fb : DS .ff (.bool false)
  | sl (b : Bool) (n sz : Nat) (f g : Nat → List DV) : (∀ i, i < n → (f i).length = (g i).length) → (∀ (i j : Nat) (x y : DV), i < n → (f i)[j]? = some x → (g i)[j]? = some y → DS x y) → DS (.sl b n sz f) (.sl b n sz g)
  | none (b : Bool) (sz sz' : Nat) (f g : Nat → List DV) : DS (.sl b 0 sz f) (.sl b 0 sz' g)
theorem DS.rd {w : World} {M : Nat → Prop} {x y : DV} (h : DS x y) : ∀ {v : Value}, Rd w M x v → Rd w M y v := by
  induction h with
  | refl => exact fun h => h
  | bt => intro v h; cases h; exact .tt
  | bf => intro v h; cases h; exact .ff
  | tb => intro v h; cases h; exact .bool true
  | fb => intro v h; cases h; exact .bool false
  | none => exact fun h => h.width
  | sl b n sz f g hl _ ih =>
    intro v h
    cases h with
    | nil => exact .nil sz g
    | sl _ _ _ ad cap u h1 h3 h4 h5 h6 =>
      have hat : ∀ (i j : Nat) (y : DV), i < n → (g i)[j]? = some y → ∃ x, (f i)[j]? = some x := fun i j y hi hy => by
        have := (List.getElem?_eq_some_iff.1 hy).1
        rw [← hl i hi] at this
        exact ⟨_, List.getElem?_eq_getElem this⟩
      refine .sl n sz g ad cap u h1 h3 (fun i hi => (hl i hi).symm.trans (h4 i hi)) (fun i j d hi hd => ?_) (fun i j d hi hd => ?_)
      · obtain ⟨x, hx⟩ := hat i j d hi hd
        exact h5 i j x hi hx
      · obtain ⟨x, hx⟩ := hat i j d hi hd
        exact ih i j x d hi hx hd (h6 i j x hi hx)
def DSL : List DV → List DV → Prop
  | [], [] => True
  | a :: l, b :: m => DS a b ∧ DSL l m
  | _, _ => False
theorem DSL.len : ∀ {l m : List DV}, DSL l m → l.length = m.length
  | [], [], _ => rfl
  | _ :: _, _ :: _, h => congrArg (· + 1) (DSL.len h.2)
theorem DSL.at : ∀ {l m : List DV}, DSL l m → ∀ (j : Nat) (x y : DV), l[j]? = some x → m[j]? = some y → DS x y
  | [], [], _, _, _, _, hx, _ => by simp at hx
  | _ :: _, _ :: _, h, 0, x, y, hx, hy => by simp at hx hy; subst hx hy; exact h.1
  | _ :: l, _ :: m, h, j + 1, x, y, hx, hy => DSL.at (l := l) (m := m) h.2 j x y (by simpa using hx) (by simpa using hy)
theorem DS.rows {b : Bool} {n sz : Nat} {f g : Nat → List DV} (h : ∀ i, i < n → DSL (f i) (g i)) : DS (.sl b n sz f) (.sl b n sz g) := .sl b n sz f g (fun i hi => (h i hi).len) (fun i j x y hi => (h i hi).at j x y)

/-- Arguments that the same values read as. -/
def ArgEq (s t : SV) : Prop :=
  match s with
  | .d x => match t with
    | .d y => DS x y
    | _ => False
  | s => s = t
def ArgsEq : List SV → List SV → Prop
  | [], [] => True
  | a :: l, b :: m => ArgEq a b ∧ ArgsEq l m
  | _, _ => False
theorem ArgEq.den {w : World} {M : Nat → Prop} {β : Env} {s t : SV} (h : ArgEq s t) {v : Value} (hd : Den w M β s v) : Den w M β t v := by
  unfold ArgEq at h
  split at h
  · split at h
    · exact .d (h.rd (den_data hd))
    · exact h.elim
  · exact h ▸ hd
theorem ArgsEq.len : ∀ {l m : List SV}, ArgsEq l m → l.length = m.length
  | [], [], _ => rfl
  | _ :: _, _ :: _, h => congrArg (· + 1) (ArgsEq.len h.2)
theorem ArgsEq.at : ∀ {l m : List SV}, ArgsEq l m → ∀ (j : Nat) (t : SV), m[j]? = some t → ∃ s, l[j]? = some s ∧ ArgEq s t
  | [], [], _, _, _, ht => by simp at ht
  | _ :: _, _ :: _, h, 0, t, ht => by simp at ht; subst ht; exact ⟨_, rfl, h.1⟩
  | _ :: l, _ :: m, h, j + 1, t, ht => ArgsEq.at (l := l) (m := m) h.2 j t (by simpa using ht)
theorem FnOk.conv {P : Program} {f : FuncId} {args args' : List SV} {res : SV} (h : FnOk P f args res) (hc : ArgsEq args' args) : FnOk P f args' res :=
  ⟨h.1, fun M w vs hM hl hd => h.2 M w vs hM (by rw [← hc.len, hl]) (fun j s u hs hu => by
    obtain ⟨s', hs', he⟩ := hc.at j s hs
    exact he.den (hd j s' u hs' hu))⟩

/-- Bytes, by looking at each. -/
def areBytesB (n : Nat) (f : Nat → List DV) : Bool := (List.range n).all fun i => match f i with
  | [.int .u8 _] => true
  | _ => false
theorem areBytes_of {n : Nat} {f : Nat → List DV} (h : areBytesB n f = true) : areBytes n f := fun i hi => by
  have := List.all_eq_true.mp h i (List.mem_range.mpr hi)
  split at this
  · rename_i x hx; exact ⟨x, hx⟩
  · cases this

namespace Ex
variable {α : Type}
theorem viewC {ks : List KB} {s : SV} {G : SV → List Nat → (α → Prop) → Prop} (h : ∀ v l, Ex (G v l)) : Ex (fun K => viewCK ks s (fun v l => G v l K)) := by
  unfold viewCK
  split <;> first | exact dv fun d fr => h _ _ | exact h _ _
theorem viewCs {ks : List KB} : ∀ {l : List SV} {G : List SV → List Nat → (α → Prop) → Prop} (_ : ∀ v l, Ex (G v l)), Ex (fun K => viewCsK ks l (fun v l => G v l K)) := by
  intro l
  induction l with
  | nil => intro G h; exact h _ _
  | cons a l ih => intro G h; exact viewC fun d fr => ih fun ds fr' => appN fun r => h _ _
theorem view {TT : Nat → Option TI} {ks : List KB} {s : SV} {ty : Option TypeId} {G : SV → List Nat → (α → Prop) → Prop} (h : ∀ v l, Ex (G v l)) : Ex (fun K => viewK TT ks s ty (fun v l => G v l K)) := by
  unfold viewK
  repeat' (first | exact no | exact viewCs fun _ _ => h _ _ | exact src fun _ _ _ => h _ _ | exact viewC h | split)
theorem views {TT : Nat → Option TI} {ks : List KB} : ∀ {l : List SV} {tys : List TypeId} {G : List SV → List Nat → (α → Prop) → Prop} (_ : ∀ v l, Ex (G v l)), Ex (fun K => viewsK TT ks l tys (fun v l => G v l K)) := by
  intro l
  induction l with
  | nil => intro tys G h; exact h _ _
  | cons a l ih => intro tys G h; exact view fun d fr => ih fun ds fr' => appN fun r => h _ _
end Ex

theorem views_ex {TT : Nat → Option TI} {ks : List KB} {as : List SV} {tys : List TypeId} {K : List SV → List Nat → Prop} (h : viewsK TT ks as tys K) : ∃ l t, viewsK TT ks as tys (fun l' t' => l' = l ∧ t' = t) ∧ K l t := by
  obtain ⟨⟨l, t⟩, h1, h2⟩ := Ex.views (α := List SV × List Nat) (TT := TT) (ks := ks) (l := as) (tys := tys) (G := fun l t K => K (l, t)) (fun v l => Ex.self (v, l)) (fun p => K p.1 p.2) h
  exact ⟨l, t, by simpa using h1, h2⟩
/-- A call by a contract over data, the rows in the arguments being looked at. -/
theorem CallStop.look {P : Program} {TT : Nat → Option TI} {f : FuncId} {as : List SV} {tys : List TypeId} {ks : List KB} {K : Bool → SV → List KB → Prop} (r : SV)
    (h : viewsK TT ks as tys (fun l _ => FnOk P f l r ∧ closedL l = true)) (hs : scalar r = true) (hK : K false r ks) : CallStop P TT f as tys ks K := by
  obtain ⟨l, t, h1, h2, h3⟩ := views_ex h
  exact .view r l t h2 h1 h3 hs hK
end Go.Eng
