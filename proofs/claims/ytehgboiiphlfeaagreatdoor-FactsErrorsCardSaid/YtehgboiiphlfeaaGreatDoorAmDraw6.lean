/- THE ABSTRACT MACHINE: the state behind any part of a region's operations. -/
import Derived.Test.YtehgboiiphlfeaaGreatDoorAmDraw5
namespace Go.AM
open Go

/-- the one run: a k is the k-th operation, st k the state ahead of it, v k what it gives; a new block x k bears the name r k, the q k-th one -/
structure Trace (call : AV → List AV → AH → Option (AV × AH)) (n : Nat) (a : Nat → AI) (q : Nat → Nat) (bef : Nat → Nat → Prop) (st : Nat → AT × AH) (v : Nat → AV) (r : Nat → Pos) (x : Nat → Option AB) (rs : List (List (Option Pos))) : Prop where
  tidy : ∀ k, k < n → (a k).tidy = true
  put : ∀ k, k < n → (st (k + 1)).1 = AM.putO (st k).1 (a k).dst (v k)
  same : ∀ k, k < n → kd (a k) ≤ 1 → (st (k + 1)).2 = (st k).2
  plus : ∀ k, k < n → kd (a k) = 2 → (st (k + 1)).2 = (st k).2.plus (r k) (x k)
  eff : ∀ k, k < n → kd (a k) ≠ 2 → AM.eff call (a k) (st k).1 (st k).2 = some (v k, (st (k + 1)).2)
  new : ∀ k, k < n → kd (a k) = 2 → ∀ H2 : AH, H2.pk = some (r k) → ∃ H3, AM.eff call (a k) (st k).1 H2 = some (v k, H3) ∧ H3.disarm = { H2 with bl := plusBl (r k) (x k) H2.bl, pk := none }
  fr : ∃ f, (st 0).2.rs = f :: rs ∧ ∀ k, k < n → kd (a k) = 2 → f[q k]? = some (some (r k)) ∧ ∀ j, f[j]? = some (some (r k)) → j = q k
  far : ∀ k, k < n → kd (a k) = 2 → ∀ g ∈ rs, some (r k) ∉ g
  apart : ∀ k j, k < n → j < n → kd (a k) = 2 → kd (a j) = 2 → k ≠ j → r k ≠ r j
  off : ∀ k, k < n → kd (a k) = 2 → Off (r k) (st 0).2
  pk : (st 0).2.pk = none
  pair : ∀ k j, k < j → j < n → bef k j ∨ (slotsOk (a k) (a j) = true ∧ ruleK (kd (a k)) (kd (a j)) = true)
  late : ∀ k j, k < j → j < n → kd (a k) = 1 → unlike (a k).dst (a j).dst = true ∧ notIn (a j).dst (a k).on = true ∧ notIn (a k).dst (a k).on = true
  chk : ∀ k j, k < j → j < n → kd (a k) = 1 → kd (a j) = 3 → ¬ bef k j → chkOk (st (j + 1)).1 (st (j + 1)).2 (a k) = true
  frame : ∀ r x, FrCall r x call

theorem strEq_eq : ∀ (a b : List Nat), strEq a b = true → a = b
  | [], [], _ => rfl
  | [], _ :: _, h => by simp [strEq] at h
  | _ :: _, [], h => by simp [strEq] at h
  | a :: l, b :: m, h => by
    simp only [strEq, Bool.and_eq_true] at h
    rw [Nat.eq_of_beq_eq_true h.1, strEq_eq l m h.2]
/-! ### a second look -/
mutual
theorem same_eq : ∀ (a b : AV), same a b = true → a = b
  | .bool a, b, h => by cases b <;> simp [same] at h ⊢; exact h
  | .int j a, b, h => by
    cases b <;> simp [same, kEq, intEq] at h ⊢; exact h
  | .str a, b, h => by
    cases b <;> simp [same] at h ⊢
    exact strEq_eq _ _ h
  | .ptr a o, b, h => by
    cases b <;> simp [same] at h ⊢
    exact ⟨Pos.beq_iff.1 h.1, h.2⟩
  | .nilp, b, h => by cases b <;> simp [same] at h ⊢
  | .slc b o n c s e, u, h => by
    cases u <;> simp [same] at h ⊢
    obtain ⟨⟨⟨⟨⟨h1, h2⟩, h3⟩, h4⟩, h5⟩, h6⟩ := h
    exact ⟨Pos.beq_iff.1 h1, h2, h3, h4, h5, h6⟩
  | .nils, b, h => by cases b <;> simp [same] at h ⊢
  | .map a, b, h => by cases b <;> simp [same] at h ⊢; exact Pos.beq_iff.1 h
  | .nilm, b, h => by cases b <;> simp [same] at h ⊢
  | .fn f c, b, h => by
    cases b <;> simp [same] at h ⊢
    exact ⟨h.1, sameL_eq _ _ h.2⟩
  | .nilf, b, h => by cases b <;> simp [same] at h ⊢
  | .ifc t a, b, h => by
    cases b <;> simp [same] at h ⊢
    exact ⟨h.1, same_eq _ _ h.2⟩
  | .nili, b, h => by cases b <;> simp [same] at h ⊢
  | .agg a, b, h => by cases b <;> simp [same] at h ⊢; exact sameL_eq _ _ h
  | .tup a, b, h => by cases b <;> simp [same] at h ⊢; exact sameL_eq _ _ h
  | .unk, b, h => by simp [same] at h
  | .yld a, b, h => by simp [same] at h
theorem sameL_eq : ∀ (a b : List AV), sameL a b = true → a = b
  | [], [], _ => rfl
  | [], _ :: _, h => by simp [sameL] at h
  | _ :: _, [], h => by simp [sameL] at h
  | a :: l, b :: m, h => by
    simp only [sameL, Bool.and_eq_true] at h
    rw [same_eq a b h.1, sameL_eq l m h.2]
end
theorem plus_comm {H : AH} {r1 r2 : Pos} {x1 x2 : Option AB} (h : r1 ≠ r2) : (H.plus r1 x1).plus r2 x2 = (H.plus r2 x2).plus r1 x1 := by
  show AH.mk _ _ _ _ _ = AH.mk _ _ _ _ _
  congr 1
  · show plusBl r2 x2 (plusBl r1 x1 H.bl) = plusBl r1 x1 (plusBl r2 x2 H.bl)
    cases x1 with
    | none => rfl
    | some y1 => cases x2 with
      | none => rfl
      | some y2 => exact Tr.set_comm _ _ _ _ _ (Ne.symm h)
  · show (H.rs.map _).map _ = (H.rs.map _).map _
    simp only [List.map_map]
    congr 1
    funext f
    simp only [Function.comp, List.map_map]
    congr 1
    funext o
    cases o with
    | none => rfl
    | some p =>
      simp only [Function.comp, erase]
      cases h1 : p.beq r1 <;> cases h2 : p.beq r2 <;> simp [erase, h1, h2]

theorem ev_putO {T : AT} {d : Option Pos} {u : AV} {p : Pos} (h : d ≠ some p) : (AX.t p).ev (AM.putO T d u) = (AX.t p).ev T := by
  cases d with
  | none => rfl
  | some e => exact ev_put (x := .t p) (by simp only [AX.on, List.mem_singleton]; exact fun he => h (by rw [he]))
theorem ev_putO_eq {T : AT} {u : AV} {p : Pos} : (AX.t p).ev (AM.putO T (some p) u) = u := by
  simp only [AX.ev, AM.putO, AT.put, Tr.get_set_eq]
theorem ev_putO_same {T T' : AT} {d : Option Pos} {u : AV} {p : Pos} (h : (AX.t p).ev T = (AX.t p).ev T') : (AX.t p).ev (AM.putO T d u) = (AX.t p).ev (AM.putO T' d u) := by
  by_cases hd : d = some p
  · subst hd; rw [ev_putO_eq, ev_putO_eq]
  · rw [ev_putO hd, ev_putO hd]; exact h

/-- one more -/
def with1 (D : Nat → Bool) (i : Nat) : Nat → Bool := fun k => D k || Nat.beq k i
theorem with1_ne {D : Nat → Bool} {i k : Nat} (h : k ≠ i) : with1 D i k = D k := by
  unfold with1
  have : Nat.beq k i = false := by
    cases hb : Nat.beq k i with
    | false => rfl
    | true => exact absurd (Nat.eq_of_beq_eq_true hb) h
  rw [this, Bool.or_false]
theorem with1_eq {D : Nat → Bool} {i : Nat} : with1 D i i = true := by simp [with1, Nat.beq_refl]


section
variable {call : AV → List AV → AH → Option (AV × AH)} {n : Nat} {a : Nat → AI} {q : Nat → Nat} {bef : Nat → Nat → Prop} {st : Nat → AT × AH} {v : Nat → AV} {r : Nat → Pos} {x : Nat → Option AB} {rs : List (List (Option Pos))}

theorem kd_cases (i : AI) : kd i = 0 ∨ kd i = 1 ∨ kd i = 2 ∨ kd i = 3 := by
  unfold kd
  split
  · simp
  · split
    · simp
    · split <;> simp
theorem kd_0 {i : AI} (h : kd i = 0) : i.cls = 0 := by
  unfold kd at h
  split at h
  · cases h
  · split at h
    · rename_i h2; exact Nat.eq_of_beq_eq_true h2
    · split at h <;> cases h
theorem kd_1 {i : AI} (h : kd i = 1) : i.cls = 1 := by
  unfold kd at h
  split at h
  · cases h
  · split at h
    · cases h
    · split at h
      · rename_i h2; exact Nat.eq_of_beq_eq_true h2
      · cases h

/-- what the k-th operation does to a state -/
def effT (a : Nat → AI) (v : Nat → AV) (k : Nat) (T : AT) : AT := AM.putO T (a k).dst (v k)
def effH (a : Nat → AI) (st : Nat → AT × AH) (r : Nat → Pos) (x : Nat → Option AB) (k : Nat) (H : AH) : AH :=
  if kd (a k) ≤ 1 then H else if kd (a k) = 2 then H.plus (r k) (x k) else (st (k + 1)).2
def TD (a : Nat → AI) (v : Nat → AV) (D : Nat → Bool) (T : AT) : Nat → AT
  | 0 => T
  | k + 1 => if D k then effT a v k (TD a v D T k) else TD a v D T k
def HD (a : Nat → AI) (st : Nat → AT × AH) (r : Nat → Pos) (x : Nat → Option AB) (D : Nat → Bool) (H : AH) : Nat → AH
  | 0 => H
  | k + 1 => if D k then effH a st r x k (HD a st r x D H k) else HD a st r x D H k

variable (tr : Trace call n a q bef st v r x rs)
include tr

theorem Trace.full (k : Nat) (hk : k ≤ n) : TD a v (fun _ => true) (st 0).1 k = (st k).1 ∧ HD a st r x (fun _ => true) (st 0).2 k = (st k).2 := by
  induction k with
  | zero => exact ⟨rfl, rfl⟩
  | succ k ih =>
    obtain ⟨h1, h2⟩ := ih (by omega)
    have hkn : k < n := by omega
    refine ⟨?_, ?_⟩
    · simp only [TD, if_true, effT, h1]; exact (tr.put k hkn).symm
    · simp only [HD, if_true, effH, h2]
      split
      · rename_i h; exact (tr.same k hkn h).symm
      · split
        · rename_i h; exact (tr.plus k hkn h).symm
        · rfl

/-- a name that is still kept -/
def Slot (q : Nat → Nat) (r : Nat → Pos) (rs : List (List (Option Pos))) (i : Nat) (H : AH) : Prop := ∃ f, H.rs = f :: rs ∧ f[q i]? = some (some (r i)) ∧ ∀ j, f[j]? = some (some (r i)) → j = q i
structure Free (q : Nat → Nat) (r : Nat → Pos) (rs : List (List (Option Pos))) (i : Nat) (H : AH) : Prop where
  off : Off (r i) H
  pk : H.pk = none
  slot : Slot q r rs i H

theorem Trace.free_plus {i k : Nat} (hi : i < n) (ni : kd (a i) = 2) (hk : k < n) (nk : kd (a k) = 2) (hne : i ≠ k) {H : AH} (h : Free q r rs i H) : Free q r rs i (H.plus (r k) (x k)) := by
  have hr : r i ≠ r k := tr.apart i k hi hk ni nk hne
  obtain ⟨f, h1, h2, h3⟩ := h.slot
  refine ⟨⟨?_, h.off.lt, h.off.pk⟩, h.pk, f.map (erase (r k)), ?_, ?_, fun j hj => h3 j ?_⟩
  · show (plusBl (r k) (x k) H.bl).get (r i) = none
    rw [plusBl_get hr]; exact h.off.bl
  · show H.rs.map _ = _
    rw [h1, List.map_cons]
    congr 1
    have : rs.map (fun f => f.map (erase (r k))) = rs.map id := List.map_congr_left fun g hg => erase_id (tr.far k hk nk g hg)
    rw [this, List.map_id]
  · rw [List.getElem?_map, h2]
    have : (r i).beq (r k) = false := by
      cases hb : (r i).beq (r k) with
      | false => rfl
      | true => exact absurd (Pos.beq_iff.1 hb) hr
    simp only [Option.map_some, erase, this]; rfl
  · rw [List.getElem?_map] at hj
    cases hf : f[j]? with
    | none => rw [hf] at hj; cases hj
    | some o =>
      rw [hf] at hj
      simp only [Option.map_some, Option.some.injEq] at hj
      cases o with
      | none => simp [erase] at hj
      | some p =>
        simp only [erase] at hj
        split at hj
        · cases hj
        · exact congrArg some hj
theorem Trace.free_eff {i k : Nat} (hk : k < n) (hw : kd (a k) ≠ 2) (h : Free q r rs i (st k).2) : Free q r rs i (st (k + 1)).2 := by
  have hl := (eff_plus (x := none) (tr.frame (r i) none) h.off (tr.eff k hk hw)).2
  obtain ⟨f, h1, h2⟩ := h.slot
  exact ⟨hl.off, hl.pk h.pk, f, hl.rs.trans h1, h2⟩

/-- names are no blocks' till they are wanted -/
theorem Trace.freeSt {i : Nat} (hi : i < n) (ni : kd (a i) = 2) : ∀ k, k ≤ i → Free q r rs i (st k).2 := by
  intro k
  induction k with
  | zero =>
    intro _
    obtain ⟨f, h1, h2⟩ := tr.fr
    exact ⟨tr.off i hi ni, tr.pk, f, h1, h2 i hi ni⟩
  | succ k ih =>
    intro hk
    have ih := ih (by omega)
    have hkn : k < n := by omega
    by_cases h : kd (a k) = 2
    · rw [tr.plus k hkn h]
      exact tr.free_plus hi ni hkn h (by omega) ih
    · exact tr.free_eff hkn h ih

variable {D : Nat → Bool}

/-- till its own turn -/
theorem Trace.freeHD {i : Nat} (hi : i < n) (ni : kd (a i) = 2) : ∀ k, k ≤ i → Free q r rs i (HD a st r x D (st 0).2 k) := by
  intro k
  induction k with
  | zero => intro _; exact tr.freeSt hi ni 0 (Nat.zero_le _)
  | succ k ih =>
    intro hk
    have ih := ih (by omega)
    have hkn : k < n := by omega
    simp only [HD]
    split
    · unfold effH
      split
      · exact ih
      · split
        · rename_i h; exact tr.free_plus hi ni hkn h (by omega) ih
        · exact tr.freeSt hi ni (k + 1) (by omega)
    · exact ih

/-- as long as it is not made -/
theorem Trace.freeHD2 {i : Nat} (hi : i < n) (ni : kd (a i) = 2) (hD : D i = false) (hcl : ∀ j, j < n → D j = true → ∀ k, k < n → bef k j → D k = true) : ∀ k, k ≤ n → Free q r rs i (HD a st r x D (st 0).2 k) := by
  intro k
  induction k with
  | zero => intro _; exact tr.freeSt hi ni 0 (Nat.zero_le _)
  | succ k ih =>
    intro hk
    have ih := ih (by omega)
    have hkn : k < n := by omega
    simp only [HD]
    split
    · rename_i hDk
      unfold effH
      split
      · exact ih
      · split
        · rename_i h
          exact tr.free_plus hi ni hkn h (fun e => by rw [e, hDk] at hD; cases hD) ih
        · rename_i h1 h2
          by_cases hlt : k < i
          · exact tr.freeSt hi ni (k + 1) (by omega)
          · exfalso
            have hne : i ≠ k := fun e => by rw [e, hDk] at hD; cases hD
            rcases tr.pair i k (by omega) hkn with h | ⟨_, h⟩
            · have := hcl k hkn hDk i hi h; rw [hD] at this; cases this
            · rcases kd_cases (a k) with e | e | e | e
              · omega
              · omega
              · exact h2 e
              · rw [ni, e] at h; exact absurd h (by decide)
    · exact ih

/-- the slots that the i-th operation looks at -/
theorem Trace.slots {i : Nat} (hi : i < n) (hD : D i = false) (hcl : ∀ j, j < n → D j = true → ∀ k, k < n → bef k j → D k = true) (hbi : ∀ k, k < n → bef k i → D k = true) {p : Pos} (hp : p ∈ (a i).on) :
    (AX.t p).ev (TD a v D (st 0).1 n) = (AX.t p).ev (st i).1 := by
  have one : ∀ k, k ≤ i → (AX.t p).ev (TD a v D (st 0).1 k) = (AX.t p).ev (st k).1 := by
    intro k
    induction k with
    | zero => intro _; rfl
    | succ k ih =>
      intro hk
      have ih := ih (by omega)
      have hkn : k < n := by omega
      rw [tr.put k hkn]
      simp only [TD]
      split
      · exact ev_putO_same ih
      · rename_i hDk
        rw [ih]
        rcases tr.pair k i (by omega) hi with h | ⟨h, _⟩
        · exact absurd (hbi k hkn h) hDk
        · simp only [slotsOk, Bool.and_eq_true] at h
          exact (ev_putO fun e => notIn_spec h.1.2 p e hp).symm
  have two : ∀ k, i ≤ k → k ≤ n → (AX.t p).ev (TD a v D (st 0).1 k) = (AX.t p).ev (st i).1 := by
    intro k
    induction k with
    | zero => intro h1 _; have : i = 0 := by omega
              subst this; rfl
    | succ k ih =>
      intro h1 h2
      by_cases he : i = k + 1
      · rw [he]; exact he ▸ one i (Nat.le_refl _)
      · have ih := ih (by omega) (by omega)
        have hkn : k < n := by omega
        simp only [TD]
        split
        · rename_i hDk
          have hne : i ≠ k := fun e => by rw [e, hDk] at hD; cases hD
          rcases tr.pair i k (by omega) hkn with h | ⟨h, _⟩
          · have := hcl k hkn hDk i hi h; rw [hD] at this; cases this
          · simp only [slotsOk, Bool.and_eq_true] at h
            simp only [effT]
            rw [ev_putO fun e => notIn_spec h.2 p e hp]; exact ih
        · exact ih
  exact two n (by omega) (Nat.le_refl _)

theorem Trace.slots1 {i : Nat} (hi : i < n) (hD : D i = false) (hcl : ∀ j, j < n → D j = true → ∀ k, k < n → bef k j → D k = true) : TD a v (with1 D i) (st 0).1 n = AM.putO (TD a v D (st 0).1 n) (a i).dst (v i) := by
  have one : ∀ k, k ≤ i → TD a v (with1 D i) (st 0).1 k = TD a v D (st 0).1 k := by
    intro k
    induction k with
    | zero => intro _; rfl
    | succ k ih =>
      intro hk
      simp only [TD, with1_ne (show k ≠ i by omega), ih (by omega)]
  have two : ∀ k, i < k → k ≤ n → TD a v (with1 D i) (st 0).1 k = AM.putO (TD a v D (st 0).1 k) (a i).dst (v i) := by
    intro k
    induction k with
    | zero => intro h; omega
    | succ k ih =>
      intro h1 h2
      by_cases he : i = k
      · subst he
        simp only [TD, with1_eq, hD, if_true, Bool.false_eq_true, if_false, effT, one i (Nat.le_refl _)]
      · have ih := ih (by omega) (by omega)
        have hkn : k < n := by omega
        simp only [TD, with1_ne (show k ≠ i by omega)]
        cases hDk : D k with
        | false => simp only [Bool.false_eq_true, if_false]; exact ih
        | true =>
          simp only [if_true, effT, ih]
          rcases tr.pair i k (by omega) hkn with h | ⟨h, _⟩
          · have := hcl k hkn hDk i hi h; rw [hD] at this; cases this
          · simp only [slotsOk, Bool.and_eq_true] at h
            exact putO_comm fun p q' hp hq' => (unlike_spec h.1.1 q' p hq' hp).symm
  exact two n hi (Nat.le_refl _)

/-- ahead of an operation that hangs on the blocks they are as in the one run -/
theorem Trace.heapSt {i : Nat} (hi : i < n) (hbi : ∀ k, k < n → bef k i → D k = true) (hk13 : kd (a i) = 1 ∨ kd (a i) = 3) : ∀ k, k ≤ i → HD a st r x D (st 0).2 k = (st k).2 := by
  intro k
  induction k with
  | zero => intro _; rfl
  | succ k ih =>
    intro hk
    have ih := ih (by omega)
    have hkn : k < n := by omega
    simp only [HD]
    split
    · rw [ih]
      unfold effH
      split
      · rename_i h; exact (tr.same k hkn h).symm
      · split
        · rename_i h; exact (tr.plus k hkn h).symm
        · rfl
    · rename_i hDk
      rw [ih]
      rcases tr.pair k i (by omega) hi with h | ⟨_, h⟩
      · exact absurd (hbi k hkn h) hDk
      · refine (tr.same k hkn ?_).symm
        rcases kd_cases (a k) with e | e | e | e
        · omega
        · omega
        · rcases hk13 with e3 | e3 <;> (rw [e, e3] at h; exact absurd h (by decide))
        · rcases hk13 with e3 | e3 <;> (rw [e, e3] at h; exact absurd h (by decide))

omit tr in
theorem heapSame {i : Nat} (hD : D i = false) (h01 : kd (a i) ≤ 1) : ∀ k, HD a st r x (with1 D i) (st 0).2 k = HD a st r x D (st 0).2 k := by
  intro k
  induction k with
  | zero => rfl
  | succ k ih =>
    by_cases he : k = i
    · subst he
      simp only [HD, with1_eq, hD, if_true, Bool.false_eq_true, if_false, effH, h01, ih]
    · simp only [HD, with1_ne he, ih]

end
end Go.AM
