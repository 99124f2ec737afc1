/- THE ABSTRACT MACHINE: values held against each other; the keys of maps. -/
import Derived.WideLaws
import Derived.WalkSpells
import Derived.Lib.SliceRun
import Derived.Laws.Pointers
import Derived.Test.YtehgboiiphlfeaaGreatDoorAmBin
namespace Go.AM
open Go

section
variable {P : Program} {σ : Val}

/-- a list of cells, part by part -/
theorem VRelL.split {l1 l2 : List AV} {vs : List Value} (h : VRelL σ (l1 ++ l2) vs) : ∃ v1 v2, vs = v1 ++ v2 ∧ VRelL σ l1 v1 ∧ VRelL σ l2 v2 := by
  induction l1 generalizing vs with
  | nil => exact ⟨[], vs, rfl, by simp [VRelL], h⟩
  | cons a l ih =>
    simp only [List.cons_append, VRelL] at h
    obtain ⟨v, r, rfl, h1, h2⟩ := h
    obtain ⟨v1, v2, rfl, h3, h4⟩ := ih h2
    exact ⟨v :: v1, v2, rfl, by simp only [VRelL]; exact ⟨v, v1, rfl, h1, h3⟩, h4⟩

theorem eqKs_append : ∀ (k1 k2 : List EK) (l m : List AV) (b : Bool), eqKs (k1 ++ k2) l m = some b →
    ∃ l1 l2 m1 m2 b1 b2, l = l1 ++ l2 ∧ m = m1 ++ m2 ∧ l1.length = k1.length ∧ m1.length = k1.length ∧ eqKs k1 l1 m1 = some b1 ∧ eqKs k2 l2 m2 = some b2 ∧ b = (b1 && b2)
  | [], k2, l, m, b, h => ⟨[], l, [], m, true, b, rfl, rfl, rfl, rfl, by simp [eqKs], by simpa using h, by simp⟩
  | k :: k1, k2, [], m, b, h => by simp [eqKs] at h
  | k :: k1, k2, x :: l, [], b, h => by simp [eqKs] at h
  | k :: k1, k2, x :: l, y :: m, b, h => by
    simp only [List.cons_append, eqKs] at h
    split at h
    · rename_i hk
      obtain ⟨l1, l2, m1, m2, b1, b2, rfl, rfl, e1, e2, e3, e4, e5⟩ := eqKs_append k1 k2 l m b h
      exact ⟨x :: l1, l2, y :: m1, m2, b1, b2, rfl, rfl, by simp [e1], by simp [e2], by simp [eqKs, hk, e3], e4, e5⟩
    · rename_i hk
      split at h
      · rename_i b' hb'
        simp at h; subst h
        obtain ⟨l1, l2, m1, m2, b1, b2, rfl, rfl, e1, e2, e3, e4, e5⟩ := eqKs_append k1 k2 l m b' hb'
        exact ⟨x :: l1, l2, y :: m1, m2, false, b2, rfl, rfl, by simp [e1], by simp [e2], by simp [eqKs, hk, e3], e4, by simp⟩
      · cases h
    · cases h

/-- what `==` gives on two values of a type with these cells -/
def EqAt (P : Program) (d : Nat) (t : TypeId) (ks : List EK) : Prop :=
  ∀ (D : Nat), d ≤ D → ∀ (σ : Val) (w : World) (xs ys : Array Value) (o : Nat) (l m : List AV) (b : Bool) (vx vy : List Value), eqKs ks l m = some b →
    VRelL σ l vx → VRelL σ m vy → (∀ i, i < vx.length → xs[o + i]? = vx[i]?) → (∀ i, i < vy.length → ys[o + i]? = vy[i]?) →
    ∃ a c, (part t xs o).run P w = .ok a w ∧ (part t ys o).run P w = .ok c w ∧ (Op.equalIn D t a c).run P w = .ok b w

theorem eqK_scalar_int {x y : AV} {b} (h : eqK .i x y = some b) : ∃ k n m, x = .int k n ∧ y = .int k m ∧ b = (n == m) := by
  cases x <;> cases y <;> simp [eqK] at h
  rename_i j n k m
  obtain ⟨h1, h2⟩ := h
  have := kEq_iff.1 h1
  subst this
  exact ⟨j, n, m, rfl, rfl, by rw [← h2, beq_intEq]⟩
theorem eqK_scalar_bool {x y : AV} {b} (h : eqK .b x y = some b) : ∃ n m, x = .bool n ∧ y = .bool m ∧ b = (n == m) := by
  cases x <;> cases y <;> simp [eqK] at h
  exact ⟨_, _, rfl, rfl, h.symm⟩
theorem eqK_scalar_str {x y : AV} {b} (h : eqK .s x y = some b) : ∃ n m, x = .str n ∧ y = .str m ∧ b = strEq n m := by
  cases x <;> cases y <;> simp [eqK] at h
  exact ⟨_, _, rfl, rfl, h.symm⟩

theorem run_part_one {t : TypeId} {d : TypeDesc} (hu : P.underlying t = some d) (hd : d.isRow = false) (cs : Array Value) (o : Nat) (v : Value) (h : cs[o]? = some v) (w : World) : (part t cs o).run P w = .ok v w := by
  have hu' := run_underlying hu w
  cases d <;> simp_all [part, isAgg, TypeDesc.isRow]

theorem one_of {ks : List EK} {k : EK} (hk : ks = [k]) {l m : List AV} {b} (h : eqKs ks l m = some b) : ∃ x y, l = [x] ∧ m = [y] ∧ eqK k x y = some b := by
  subst hk
  cases l with
  | nil => simp [eqKs] at h
  | cons x l =>
    cases m with
    | nil => simp [eqKs] at h
    | cons y m =>
      simp only [eqKs] at h
      split at h
      · rename_i hk
        cases l <;> cases m <;> simp [eqKs] at h
        subst h; exact ⟨x, y, rfl, rfl, hk⟩
      · rename_i hk
        cases l <;> cases m <;> simp [eqKs] at h
        subst h; exact ⟨x, y, rfl, rfl, hk⟩
      · cases h

theorem eq_str_run {n m : List Nat} {v u : Value} (h1 : VRel σ (.str n) v) (h2 : VRel σ (.str m) u) : ∃ s1 s2, v = .string s1 ∧ u = .string s2 ∧ strEq n m = (s1.toList == s2.toList) := by
  obtain ⟨s1, rfl, e1⟩ := str_of h1
  obtain ⟨s2, rfl, e2⟩ := str_of h2
  refine ⟨s1, s2, rfl, rfl, ?_⟩
  rw [ByteArray.toList_eq, ByteArray.toList_eq, ← strEq_map, e1, e2]

theorem eqKs_length : ∀ {ks : List EK} {l m : List AV} {b}, eqKs ks l m = some b → l.length = ks.length ∧ m.length = ks.length
  | [], [], [], b, _ => ⟨rfl, rfl⟩
  | [], _ :: _, m, b, h => by cases m <;> simp [eqKs] at h
  | [], [], _ :: _, b, h => by simp [eqKs] at h
  | k :: ks, [], m, b, h => by simp [eqKs] at h
  | k :: ks, x :: l, [], b, h => by simp [eqKs] at h
  | k :: ks, x :: l, y :: m, b, h => by
    simp only [eqKs] at h
    split at h
    · have := eqKs_length h; simp [this.1, this.2]
    · split at h
      · rename_i b' hb'
        have := eqKs_length hb'; simp [this.1, this.2]
      · cases h
    · cases h

theorem flat_fields_eq {d : Nat} (ih : ∀ t ks, flat P d t = some ks → EqAt P d t ks) : ∀ (fs : List Field) (o : Nat) (ks : List EK), flat.fields P (flat P d) fs o = some ks →
    ∀ (D : Nat), d ≤ D → ∀ (w : World) (xs ys : Array Value) (l m : List AV) (b : Bool) (vx vy : List Value), eqKs ks l m = some b → VRelL σ l vx → VRelL σ m vy →
      (∀ i, i < vx.length → xs[o + i]? = vx[i]?) → (∀ i, i < vy.length → ys[o + i]? = vy[i]?) → (Op.eqFields D xs ys fs).run P w = .ok b w
  | [], o, ks, h, D, hD, w, xs, ys, l, m, b, vx, vy, he, _, _, _, _ => by
    simp [flat.fields] at h
    subst h
    cases l <;> cases m <;> simp [eqKs] at he
    subst he
    simp [Op.eqFields]
  | f :: fs, o, ks, h, D, hD, w, xs, ys, l, m, b, vx, vy, he, hx, hy, gx, gy => by
    simp only [flat.fields] at h
    split at h
    · rename_i k1 hk1
      split at h
      · rename_i hc
        split at h
        · rename_i k2 hk2
          simp at h; subst h
          obtain ⟨c1, c2, c3⟩ := hc
          obtain ⟨l1, l2, m1, m2, b1, b2, rfl, rfl, e1, e2, e3, e4, rfl⟩ := eqKs_append k1 k2 l m b he
          obtain ⟨x1, x2, rfl, hx1, hx2⟩ := hx.split
          obtain ⟨y1, y2, rfl, hy1, hy2⟩ := hy.split
          have lx := hx1.length
          have ly := hy1.length
          obtain ⟨a, c, r1, r2, r3⟩ := ih f.type k1 hk1 D hD σ w xs ys o l1 m1 b1 x1 y1 e3 hx1 hy1
            (fun i hi => by rw [gx i (by simp; omega), List.getElem?_append_left hi]) (fun i hi => by rw [gy i (by simp; omega), List.getElem?_append_left hi])
          have rest := flat_fields_eq ih fs (o + k1.length) k2 hk2 D hD w xs ys l2 m2 b2 x2 y2 e4 hx2 hy2
            (fun i hi => by
              have := gx (k1.length + i) (by simp; omega)
              rw [Nat.add_assoc, this, List.getElem?_append_right (by omega)]
              congr 1; omega)
            (fun i hi => by
              have := gy (k1.length + i) (by simp; omega)
              rw [Nat.add_assoc, this, List.getElem?_append_right (by omega)]
              congr 1; omega)
          subst c2
          simp only [Op.eqFields, c1, ne_eq, not_false_eq_true, if_true, Sem.run_bind, r1, r2, r3, Result.andThen_ok]
          cases b1
          · simp
          · simpa using rest
        · cases h
      · cases h
    · cases h

theorem flat_eq : ∀ (d : Nat) (t : TypeId) (ks : List EK), flat P d t = some ks → EqAt P d t ks
  | 0, t, ks, h => by simp [flat] at h
  | d + 1, t, ks, h => by
    intro D hD σ w xs ys o l m b vx vy he hx hy gx gy
    obtain ⟨D, rfl⟩ : ∃ n, D = n + 1 := ⟨D - 1, by omega⟩
    simp only [flat] at h
    split at h
    · rename_i hu
      obtain ⟨x, y, rfl, rfl, hk⟩ := one_of (Option.some.inj h).symm he
      obtain ⟨n, q, rfl, rfl, rfl⟩ := eqK_scalar_bool hk
      simp only [VRelL] at hx hy
      obtain ⟨v, r, rfl, h1, rfl⟩ := hx
      obtain ⟨v', r', rfl, h2, rfl⟩ := hy
      have := bool_of h1; subst this
      have := bool_of h2; subst this
      exact ⟨_, _, run_part_one hu rfl xs o _ (by simpa using gx 0 (by simp)) w, run_part_one hu rfl ys o _ (by simpa using gy 0 (by simp)) w, run_equalIn_bool w D t _ _ hu⟩
    · rename_i k hu
      obtain ⟨x, y, rfl, rfl, hk⟩ := one_of (Option.some.inj h).symm he
      obtain ⟨k', n, q, rfl, rfl, rfl⟩ := eqK_scalar_int hk
      simp only [VRelL] at hx hy
      obtain ⟨v, r, rfl, h1, rfl⟩ := hx
      obtain ⟨v', r', rfl, h2, rfl⟩ := hy
      have := int_of h1; subst this
      have := int_of h2; subst this
      exact ⟨_, _, run_part_one hu rfl xs o _ (by simpa using gx 0 (by simp)) w, run_part_one hu rfl ys o _ (by simpa using gy 0 (by simp)) w, run_equalIn_int w D t _ _ _ _ hu⟩
    · rename_i hu
      obtain ⟨x, y, rfl, rfl, hk⟩ := one_of (Option.some.inj h).symm he
      obtain ⟨n, q, rfl, rfl, rfl⟩ := eqK_scalar_str hk
      simp only [VRelL] at hx hy
      obtain ⟨v, r, rfl, h1, rfl⟩ := hx
      obtain ⟨v', r', rfl, h2, rfl⟩ := hy
      obtain ⟨s1, s2, rfl, rfl, e⟩ := eq_str_run h1 h2
      exact ⟨_, _, run_part_one hu rfl xs o _ (by simpa using gx 0 (by simp)) w, run_part_one hu rfl ys o _ (by simpa using gy 0 (by simp)) w, by rw [e]; exact run_equalIn_string w D t _ _ hu⟩
    · rename_i fs hu
      split at h
      · cases h
      · rename_i hst
        have hst' : P.stoodInHeld t = false := by simpa using hst
        have hfo : P.fieldsOf t = fs := by simp [Program.fieldsOf, hu]
        have hu2 : P.underlying t = some (.struct (P.fieldsOf t)) := by rw [hfo]; exact hu
        split at h
        · rename_i ks' hks
          split at h
          · rename_i hsz
            simp at h; subst h
            obtain ⟨e1, e2⟩ := eqKs_length he
            have lx := hx.length
            have ly := hy.length
            have pa : ∀ (cs : Array Value), (part t cs o).run P w = .ok (.agg (cs.extract o (o + ks'.length))) w := fun cs => by
              simp [part, isAgg, run_underlying hu w, run_size (w := w) hsz]
            refine ⟨_, _, pa xs, pa ys, ?_⟩
            rw [run_equalIn_struct w D t _ _ hu2 hst', hfo]
            refine flat_fields_eq (flat_eq d) fs.toList 0 ks' hks D (by omega) w _ _ l m b vx vy he hx hy (fun i hi => ?_) (fun i hi => ?_)
            · rw [← gx i hi, Array.getElem?_extract]; simp; omega
            · rw [← gy i hi, Array.getElem?_extract]; simp; omega
          · cases h
        · cases h
    · cases h

/-- held whatever the operands are written as? -/
def EK.anyway : EK → Bool
  | .b | .ag _ => true
  | _ => false

/-- the operator for an equality, or its contrary -/
def eqOp (neg : Bool) : BinOp := if neg then .neq else .eql

theorem eq_of_equal {w : World} {t : TypeId} {a c : Value} {b neg : Bool} (X Y : Operand) (h1 : ∀ op, (eqGuard op t X Y a c).run P w = .ok () w) (h2 : (Op.equal t a c).run P w = .ok b w)
    (h3 : ∀ neg, binOp (eqOp neg) t a c = (do pure (.bool ((← Op.equal t a c) != neg)) : Sem Value)) :
    (do eqGuard (eqOp neg) t X Y a c; binOp (eqOp neg) t a c : Sem Value).run P w = .ok (.bool (b != neg)) w := by
  rw [Sem.run_bind, h1, Result.andThen_ok, h3, Sem.run_bind, h2, Result.andThen_ok, Sem.run_pure]

theorem equalIn_held_nil (D : Nat) (w : World) (t u : TypeId) (v : Value) {ms} (hu : P.underlying t = some (.interface ms)) : (Op.equalIn (D + 1) t (.iface u v) .nilIface).run P w = .ok false w := by
  simp [Op.equalIn, run_underlying hu w]
theorem equalIn_nil_held (D : Nat) (w : World) (t u : TypeId) (v : Value) {ms} (hu : P.underlying t = some (.interface ms)) : (Op.equalIn (D + 1) t .nilIface (.iface u v)).run P w = .ok false w := by
  simp [Op.equalIn, run_underlying hu w]
theorem equalIn_nil_nil (D : Nat) (w : World) (t : TypeId) {ms} (hu : P.underlying t = some (.interface ms)) : (Op.equalIn (D + 1) t .nilIface .nilIface).run P w = .ok true w := by
  simp [Op.equalIn, run_underlying hu w]

set_option maxHeartbeats 1000000 in
/-- an equality, or its contrary, on values of a type that is held so -/
theorem eq_run {w : World} {t : TypeId} {k : EK} (hk : ekOf P t = some k) {x y : AV} {b : Bool} (h : eqK k x y = some b) {a c : Value} (hx : VRel σ x a) (hy : VRel σ y c) (X Y : Operand) (neg : Bool)
    (hi : k ≠ .i) (hs : k ≠ .s) (hc : (Region.isConst X || Region.isConst Y || k.anyway) = true) :
    (do eqGuard (eqOp neg) t X Y a c; binOp (eqOp neg) t a c : Sem Value).run P w = .ok (.bool (b != neg)) w := by
  unfold ekOf at hk
  split at hk
  · -- bool
    rename_i hu
    cases hk
    obtain ⟨n, m, rfl, rfl, rfl⟩ := eqK_scalar_bool h
    have := bool_of hx; subst this
    have := bool_of hy; subst this
    exact eq_of_equal X Y (fun op => by cases op <;> simp [eqGuard]) (run_equal_bool w t n m hu) (fun neg => by cases neg <;> simp [eqOp, binOp])
  · cases hk; exact absurd rfl hi
  · cases hk; exact absurd rfl hs
  · -- pointers
    rename_i e hu
    cases hk
    have hu' := run_underlying hu w
    cases x <;> cases y <;> simp only [eqK] at h <;> cases h <;> simp only [VRel] at hx hy
    · obtain ⟨L, _, rfl⟩ := hx
      subst hy
      exact eq_of_equal X Y (fun op => by cases op <;> simp [eqGuard]) ((fun D => by simp [Op.equalIn, hu'] : ∀ D, (Op.equalIn (D + 1) t _ _).run P w = Result.ok _ w) 9999) (fun neg => by cases neg <;> simp [eqOp, binOp])
    · obtain ⟨L, _, rfl⟩ := hy
      subst hx
      exact eq_of_equal X Y (fun op => by cases op <;> simp [eqGuard]) ((fun D => by simp [Op.equalIn, hu'] : ∀ D, (Op.equalIn (D + 1) t _ _).run P w = Result.ok _ w) 9999) (fun neg => by cases neg <;> simp [eqOp, binOp])
    · subst hx; subst hy
      exact eq_of_equal X Y (fun op => by cases op <;> simp [eqGuard]) ((fun D => by simp [Op.equalIn, hu'] : ∀ D, (Op.equalIn (D + 1) t _ _).run P w = Result.ok _ w) 9999) (fun neg => by cases neg <;> simp [eqOp, binOp])
  · -- slices
    rename_i e hu
    cases hk
    have hu' := run_underlying hu w
    cases x <;> cases y <;> simp only [eqK] at h <;> cases h <;> simp only [VRel] at hx hy
    · obtain ⟨L, _, _, _, rfl, _⟩ := hx
      subst hy
      exact eq_of_equal X Y (fun op => by cases op <;> simp [eqGuard]) ((fun D => by simp [Op.equalIn, hu'] : ∀ D, (Op.equalIn (D + 1) t _ _).run P w = Result.ok _ w) 9999) (fun neg => by cases neg <;> simp [eqOp, binOp])
    · obtain ⟨L, _, _, _, rfl, _⟩ := hy
      subst hx
      exact eq_of_equal X Y (fun op => by cases op <;> simp [eqGuard]) ((fun D => by simp [Op.equalIn, hu'] : ∀ D, (Op.equalIn (D + 1) t _ _).run P w = Result.ok _ w) 9999) (fun neg => by cases neg <;> simp [eqOp, binOp])
    · subst hx; subst hy
      exact eq_of_equal X Y (fun op => by cases op <;> simp [eqGuard]) ((fun D => by simp [Op.equalIn, hu'] : ∀ D, (Op.equalIn (D + 1) t _ _).run P w = Result.ok _ w) 9999) (fun neg => by cases neg <;> simp [eqOp, binOp])
  · -- maps
    rename_i e1 e2 hu
    cases hk
    have hu' := run_underlying hu w
    cases x <;> cases y <;> simp only [eqK] at h <;> cases h <;> simp only [VRel] at hx hy
    · obtain ⟨L, _, rfl⟩ := hx
      subst hy
      exact eq_of_equal X Y (fun op => by cases op <;> simp [eqGuard]) ((fun D => by simp [Op.equalIn, hu'] : ∀ D, (Op.equalIn (D + 1) t _ _).run P w = Result.ok _ w) 9999) (fun neg => by cases neg <;> simp [eqOp, binOp])
    · obtain ⟨L, _, rfl⟩ := hy
      subst hx
      exact eq_of_equal X Y (fun op => by cases op <;> simp [eqGuard]) ((fun D => by simp [Op.equalIn, hu'] : ∀ D, (Op.equalIn (D + 1) t _ _).run P w = Result.ok _ w) 9999) (fun neg => by cases neg <;> simp [eqOp, binOp])
    · subst hx; subst hy
      exact eq_of_equal X Y (fun op => by cases op <;> simp [eqGuard]) ((fun D => by simp [Op.equalIn, hu'] : ∀ D, (Op.equalIn (D + 1) t _ _).run P w = Result.ok _ w) 9999) (fun neg => by cases neg <;> simp [eqOp, binOp])
  · -- function values
    rename_i e1 e2 e3 hu
    cases hk
    have hu' := run_underlying hu w
    cases x <;> cases y <;> simp only [eqK] at h <;> cases h <;> simp only [VRel] at hx hy
    · obtain ⟨_, rfl, _⟩ := hx
      subst hy
      exact eq_of_equal X Y (fun op => by cases op <;> simp [eqGuard]) ((fun D => by simp [Op.equalIn, hu'] : ∀ D, (Op.equalIn (D + 1) t _ _).run P w = Result.ok _ w) 9999) (fun neg => by cases neg <;> simp [eqOp, binOp])
    · obtain ⟨_, rfl, _⟩ := hy
      subst hx
      exact eq_of_equal X Y (fun op => by cases op <;> simp [eqGuard]) ((fun D => by simp [Op.equalIn, hu'] : ∀ D, (Op.equalIn (D + 1) t _ _).run P w = Result.ok _ w) 9999) (fun neg => by cases neg <;> simp [eqOp, binOp])
    · subst hx; subst hy
      exact eq_of_equal X Y (fun op => by cases op <;> simp [eqGuard]) ((fun D => by simp [Op.equalIn, hu'] : ∀ D, (Op.equalIn (D + 1) t _ _).run P w = Result.ok _ w) 9999) (fun neg => by cases neg <;> simp [eqOp, binOp])
  · -- interface values
    rename_i e hu
    cases hk
    have hu' := run_underlying hu w
    have hcc : Region.isConst X = true ∨ Region.isConst Y = true := by simpa [EK.anyway] using hc
    cases x <;> cases y <;> simp only [eqK] at h <;> cases h <;> simp only [VRel] at hx hy
    · obtain ⟨_, rfl, _⟩ := hx
      subst hy
      exact eq_of_equal X Y (fun op => by cases op <;> simp [eqGuard]) (equalIn_held_nil 9999 w t _ _ hu) (fun neg => by cases neg <;> simp [eqOp, binOp])
    · obtain ⟨_, rfl, _⟩ := hy
      subst hx
      exact eq_of_equal X Y (fun op => by cases op <;> simp [eqGuard]) (equalIn_nil_held 9999 w t _ _ hu) (fun neg => by cases neg <;> simp [eqOp, binOp])
    · subst hx; subst hy
      exact eq_of_equal X Y (fun op => by
        rcases hcc with h' | h'
        · cases X <;> simp [Region.isConst] at h'; cases op <;> simp [eqGuard]
        · cases Y <;> simp [Region.isConst] at h'; cases op <;> simp [eqGuard]) (equalIn_nil_nil 9999 w t hu) (fun neg => by cases neg <;> simp [eqOp, binOp])
  · -- structs
    rename_i fs hu
    split at hk
    · cases hk
    · rename_i hg
      have hg' : P.eqGuardType P.depth t = false := by simpa using hg
      cases hf : flat P 8 t with
      | none => simp [hf] at hk
      | some ks =>
        simp [hf] at hk
        subst hk
        cases x <;> cases y <;> simp only [eqK] at h <;> (try cases h)
        rename_i l m
        simp only [VRel] at hx hy
        obtain ⟨vs, rfl, _, hx2⟩ := hx
        obtain ⟨us, rfl, _, hy2⟩ := hy
        refine eq_of_equal X Y (fun op => run_eqGuard_agg w op t X Y vs us hg') ?_ (fun neg => by cases neg <;> simp [eqOp, binOp])
        have hfo : P.fieldsOf t = fs := by simp [Program.fieldsOf, hu]
        have hu2 : P.underlying t = some (.struct (P.fieldsOf t)) := by rw [hfo]; exact hu
        simp only [flat, hu] at hf
        split at hf
        · cases hf
        · rename_i hst
          split at hf
          · rename_i ks' hks
            split at hf
            · rename_i hsz
              simp at hf; subst hf
              show (Op.equalIn (9999 + 1) t (.agg vs) (.agg us)).run P w = _
              rw [run_equalIn_struct w 9999 t _ _ hu2 (by simpa using hst), hfo]
              exact flat_fields_eq (flat_eq 7) fs.toList 0 ks' hks 9999 (by omega) w _ _ l m b _ _ h hx2 hy2 (fun i hi => by simp) (fun i hi => by simp)
            · cases hf
          · cases hf
  · cases hk
end
end Go.AM
