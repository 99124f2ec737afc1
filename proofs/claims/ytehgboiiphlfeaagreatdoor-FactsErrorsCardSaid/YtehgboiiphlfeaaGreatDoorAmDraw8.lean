/- THE ABSTRACT MACHINE: the one run of a region whose order is drawn, and what waits for what. -/
import Derived.Test.YtehgboiiphlfeaaGreatDoorAmDraw7
namespace Go.AM
open Go

/-! ### what waits for what -/
theorem memN_iff {j : Nat} : ∀ {l : List Nat}, memN j l = true ↔ j ∈ l
  | [] => by simp [memN]
  | i :: l => by
    simp only [memN, List.mem_cons]
    split
    · rename_i h; simp [Nat.eq_of_beq_eq_true h]
    · rename_i h
      have hne : j ≠ i := fun e => h (by rw [e, Nat.beq_refl])
      rw [memN_iff]; simp [hne]
theorem mem_addNew {j i : Nat} {l : List Nat} : i ∈ addNew j l ↔ i = j ∨ i ∈ l := by
  unfold addNew
  split
  · rename_i h
    have := memN_iff.1 h
    constructor
    · exact .inr
    · rintro (rfl | h)
      · exact this
      · exact h
  · simp
theorem mem_addAll {i : Nat} : ∀ {m l : List Nat}, i ∈ addAll m l ↔ i ∈ m ∨ i ∈ l
  | [], l => by simp [addAll]
  | j :: m, l => by
    simp only [addAll, mem_addAll, mem_addNew, List.mem_cons]
    constructor
    · rintro (h | h | h)
      · exact .inl (.inr h)
      · exact .inl (.inl h)
      · exact .inr h
    · rintro ((h | h) | h)
      · exact .inr (.inl h)
      · exact .inl h
      · exact .inr (.inr h)
theorem mem_ancs {i : Nat} {t : List (List Nat)} : ∀ {ds l : List Nat}, i ∈ ancs t ds l → i ∈ l ∨ ∃ j ∈ ds, i = j ∨ i ∈ nthL t j
  | [], l, h => .inl h
  | j :: ds, l, h => by
    rcases mem_ancs (ds := ds) h with h | ⟨k, hk, h⟩
    · rcases mem_addAll.1 h with h | h
      · exact .inr ⟨j, List.mem_cons_self .., .inr h⟩
      · rcases mem_addNew.1 h with h | h
        · exact .inr ⟨j, List.mem_cons_self .., .inl h⟩
        · exact .inl h
    · exact .inr ⟨k, List.mem_cons_of_mem _ hk, h⟩
theorem ancT_length (ops : Array Oper) : ∀ k, (ancT ops k).length = k
  | 0 => rfl
  | k + 1 => by simp only [ancT, List.length_append, ancT_length ops k, List.length_cons, List.length_nil]
theorem ancT_get (ops : Array Oper) : ∀ (k i : Nat), i < k → nthL (ancT ops k) i = ancs (ancT ops i) (dirs ops i) []
  | 0, i, h => by omega
  | k + 1, i, h => by
    by_cases he : i = k
    · subst he
      simp only [nthL, ancT]
      rw [List.getElem?_append_right (by rw [ancT_length]; exact Nat.le_refl _), ancT_length]
      simp
    · have := ancT_get ops k i (by omega)
      simp only [nthL, ancT] at this ⊢
      rw [List.getElem?_append_left (by rw [ancT_length]; omega)]
      exact this
theorem nthL_short {t : List (List Nat)} {i : Nat} (h : t.length ≤ i) : nthL t i = [] := by
  simp only [nthL, List.getElem?_eq_none h]
theorem anc_closed (ops : Array Oper) {done : List Nat} (hd : ∀ i ∈ done, ∀ j ∈ dirs ops i, j ∈ done) (N : Nat) : ∀ i, i < N → (∀ j ∈ dirs ops i, j ∈ done) → ∀ x ∈ nthL (ancT ops N) i, x ∈ done := by
  intro i
  induction i using Nat.strongRecOn with
  | ind i ih =>
    intro hi hdir x hx
    rw [ancT_get ops N i hi] at hx
    rcases mem_ancs hx with h | ⟨j, hj, h⟩
    · simp at h
    · rcases h with rfl | h
      · exact hdir x hj
      · by_cases hji : j < i
        · refine ih j hji (by omega) (hd j (hdir j hj)) x ?_
          rw [ancT_get ops N j (by omega)]
          rw [ancT_get ops i j hji] at h
          exact h
        · rw [nthL_short (by rw [ancT_length]; omega)] at h
          simp at h

/-! ### names -/
def addP (p : Pos) : Nat → Pos
  | 0 => p
  | q + 1 => (addP p q).succ
theorem addP_toNat (p : Pos) : ∀ q, (addP p q).toNat = p.toNat + q
  | 0 => rfl
  | q + 1 => by simp only [addP, Pos.toNat_succ, addP_toNat p q]; omega
theorem addP_succ (p : Pos) : ∀ q, addP p.succ q = (addP p q).succ
  | 0 => rfl
  | q + 1 => by simp only [addP, addP_succ p q]
theorem names_get : ∀ (m : Nat) (p : Pos) (q : Nat), (names m p)[q]? = if q < m then some (some (addP p q)) else none
  | 0, p, q => by simp [names]
  | m + 1, p, 0 => by simp [names, addP]
  | m + 1, p, q + 1 => by
    simp only [names, List.getElem?_cons_succ, names_get m p.succ q, addP_succ]
    by_cases h : q < m
    · rw [if_pos h, if_pos (by omega)]; rfl
    · rw [if_neg h, if_neg (by omega)]
theorem skip_toNat : ∀ (m : Nat) (p : Pos), (skip m p).toNat = p.toNat + m
  | 0, _ => rfl
  | m + 1, p => by simp only [skip, skip_toNat m p.succ, Pos.toNat_succ]; omega
theorem addP_inj {p : Pos} {q q' : Nat} (h : addP p q = addP p q') : q = q' := by
  have := congrArg Pos.toNat h
  rw [addP_toNat, addP_toNat] at this; omega

section
variable {call : AV → List AV → AH → Option (AV × AH)} {q : Nat → Nat} {r : Nat → Pos} {rs : List (List (Option Pos))} {H : AH}

theorem free_plus {i : Nat} {rk : Pos} {xk : Option AB} (hr : r i ≠ rk) (hfar : ∀ g ∈ rs, some rk ∉ g) (h : Free q r rs i H) : Free q r rs i (H.plus rk xk) := by
  obtain ⟨f, h1, h2, h3⟩ := h.slot
  refine ⟨⟨?_, h.off.lt, h.off.pk⟩, h.pk, f.map (erase rk), ?_, ?_, fun j hj => h3 j ?_⟩
  · show (plusBl rk xk H.bl).get (r i) = none
    rw [plusBl_get hr]; exact h.off.bl
  · show H.rs.map _ = _
    rw [h1, List.map_cons]
    congr 1
    have : rs.map (fun f => f.map (erase rk)) = rs.map id := List.map_congr_left fun g hg => erase_id (hfar g hg)
    rw [this, List.map_id]
  · rw [List.getElem?_map, h2]
    have : (r i).beq rk = false := by
      cases hb : (r i).beq rk with
      | false => rfl
      | true => exact absurd (Pos.beq_iff.1 hb) hr
    simp only [Option.map_some, erase, this]; rfl
  · rw [List.getElem?_map] at hj
    cases hf : f[j]? with
    | none => rw [hf] at hj; cases hj
    | some o =>
      rw [hf] at hj
      simp only [Option.map_some, Option.some.injEq] at hj
      cases o with
      | none => simp [erase] at hj
      | some p =>
        simp only [erase] at hj
        split at hj
        · cases hj
        · exact congrArg some hj
theorem free_left {i : Nat} {H' : AH} (h : Free q r rs i H) (hl : Left (r i) H H') : Free q r rs i H' := by
  obtain ⟨f, h1, h2⟩ := h.slot
  exact ⟨hl.off, hl.pk h.pk, f, hl.rs.trans h1, h2⟩

/-- a trace, of the steps of the one run -/
theorem trace_of {n : Nat} {a : Nat → AI} {bef : Nat → Nat → Prop} {st : Nat → AT × AH}
    (hst : ∀ k, k < n → execD1 call (.op (qOf a q k) (a k)) (st k).1 (st k).2 = some (st (k + 1)))
    (tidy : ∀ k, k < n → (a k).tidy = true)
    (free0 : ∀ k, k < n → kd (a k) = 2 → Free q r rs k (st 0).2)
    (far : ∀ k, k < n → kd (a k) = 2 → ∀ g ∈ rs, some (r k) ∉ g)
    (apart : ∀ k j, k < n → j < n → kd (a k) = 2 → kd (a j) = 2 → k ≠ j → r k ≠ r j)
    (fr : ∃ f, (st 0).2.rs = f :: rs ∧ ∀ k, k < n → kd (a k) = 2 → f[q k]? = some (some (r k)) ∧ ∀ j, f[j]? = some (some (r k)) → j = q k)
    (pk : (st 0).2.pk = none)
    (pair : ∀ k j, k < j → j < n → bef k j ∨ (slotsOk (a k) (a j) = true ∧ ruleK (kd (a k)) (kd (a j)) = true))
    (late : ∀ k j, k < j → j < n → kd (a k) = 1 → unlike (a k).dst (a j).dst = true ∧ notIn (a j).dst (a k).on = true ∧ notIn (a k).dst (a k).on = true)
    (chk : ∀ k j, k < j → j < n → kd (a k) = 1 → kd (a j) = 3 → ¬ bef k j → chkOk (st (j + 1)).1 (st (j + 1)).2 (a k) = true)
    (frame : ∀ r x, FrCall r x call) : ∃ v x, Trace call n a q bef st v r x rs := by
  -- each step
  have main : ∀ k, k ≤ n → (∀ i, i < n → k ≤ i → kd (a i) = 2 → Free q r rs i (st k).2) ∧
      (∀ j, j < k → ∃ (vj : AV) (xj : Option AB), (st (j + 1)).1 = AM.putO (st j).1 (a j).dst vj ∧ (kd (a j) ≠ 2 → eff call (a j) (st j).1 (st j).2 = some (vj, (st (j + 1)).2)) ∧
        (kd (a j) = 2 → (st (j + 1)).2 = (st j).2.plus (r j) xj ∧ ∀ H2 : AH, H2.pk = some (r j) → ∃ H3, eff call (a j) (st j).1 H2 = some (vj, H3) ∧ H3.disarm = { H2 with bl := plusBl (r j) xj H2.bl, pk := none })) := by
    intro k
    induction k with
    | zero => intro _; exact ⟨fun i hi _ h => free0 i hi h, fun j hj => by omega⟩
    | succ k ih =>
      intro hk
      obtain ⟨h1, h2⟩ := ih (by omega)
      have hkn : k < n := by omega
      have hs := hst k hkn
      by_cases hN : kd (a k) = 2
      · have hq : qOf a q k = some (q k) := by unfold qOf; rw [hN]; rfl
        have hf := h1 k hkn (Nat.le_refl _) hN
        obtain ⟨f, f1, f2, f3⟩ := hf.slot
        have hnew : isNew (a k) = true := by
          unfold kd at hN
          split at hN
          · assumption
          · split at hN
            · cases hN
            · split at hN <;> cases hN
        -- what it gives
        rw [hq] at hs
        have ea : (st k).2.arm (q k) = some { (st k).2 with pk := some (r k), rs := f.set (q k) none :: rs } := by
          unfold AH.arm; rw [f1]; simp only [takeN_get f2]
        have hs2 := hs
        simp only [execD1, ea] at hs2
        rw [exec1_eff (tidy k hkn)] at hs2
        cases he : eff call (a k) (st k).1 { (st k).2 with pk := some (r k), rs := f.set (q k) none :: rs } with
        | none => rw [he] at hs2; simp at hs2
        | some y =>
          obtain ⟨vk, H3⟩ := y
          obtain ⟨xk, hx⟩ := new_eff (tidy k hkn) hnew (r := r k) rfl he
          have hstep := new_step (T' := (st k).1) (tidy k hkn) hx (fun _ _ => rfl) hf.pk f1 f2 f3 (far k hkn hN)
          rw [hs] at hstep
          have e1 : st (k + 1) = (AM.putO (st k).1 (a k).dst vk, (st k).2.plus (r k) xk) := Option.some.inj hstep
          refine ⟨fun i hi hki hNi => ?_, fun j hj => ?_⟩
          · rw [e1]
            exact free_plus (apart i k hi hkn hNi hN (by omega)) (far k hkn hN) (h1 i hi (by omega) hNi)
          · by_cases hjk : j < k
            · exact h2 j hjk
            · have : j = k := by omega
              subst this
              exact ⟨vk, xk, by rw [e1], fun h => absurd hN h, fun _ => ⟨by rw [e1], hx⟩⟩
      · have hq : qOf a q k = none := by
          unfold qOf
          cases hb : Nat.beq (kd (a k)) 2 with
          | true => exact absurd (Nat.eq_of_beq_eq_true hb) hN
          | false => rfl
        rw [hq] at hs
        simp only [execD1] at hs
        rw [exec1_eff (tidy k hkn)] at hs
        cases he : eff call (a k) (st k).1 (st k).2 with
        | none => rw [he] at hs; simp at hs
        | some y =>
          obtain ⟨vk, H3⟩ := y
          rw [he] at hs
          have e1 : st (k + 1) = (AM.putO (st k).1 (a k).dst vk, H3) := (Option.some.inj hs).symm
          refine ⟨fun i hi hki hNi => ?_, fun j hj => ?_⟩
          · rw [e1]
            have hf := h1 i hi (by omega) hNi
            exact free_left hf (eff_plus (x := none) (frame (r i) none) hf.off he).2
          · by_cases hjk : j < k
            · exact h2 j hjk
            · have : j = k := by omega
              subst this
              exact ⟨vk, none, by rw [e1], fun _ => by rw [e1]; exact he, fun h => absurd h hN⟩
  obtain ⟨_, hall⟩ := main n (Nat.le_refl _)
  have hall' : ∀ j, ∃ (y : AV × Option AB), j < n → (st (j + 1)).1 = AM.putO (st j).1 (a j).dst y.1 ∧ (kd (a j) ≠ 2 → eff call (a j) (st j).1 (st j).2 = some (y.1, (st (j + 1)).2)) ∧
        (kd (a j) = 2 → (st (j + 1)).2 = (st j).2.plus (r j) y.2 ∧ ∀ H2 : AH, H2.pk = some (r j) → ∃ H3, eff call (a j) (st j).1 H2 = some (y.1, H3) ∧ H3.disarm = { H2 with bl := plusBl (r j) y.2 H2.bl, pk := none }) := by
    intro j
    by_cases hj : j < n
    · obtain ⟨vj, xj, h⟩ := hall j hj
      exact ⟨(vj, xj), fun _ => h⟩
    · exact ⟨(.unk, none), fun h => absurd h hj⟩
  obtain ⟨f, hf⟩ := Classical.axiomOfChoice hall'
  refine ⟨fun k => (f k).1, fun k => (f k).2, tidy, fun k hk => (hf k hk).1, fun k hk h => ?_, fun k hk h => ((hf k hk).2.2 h).1, fun k hk h => (hf k hk).2.1 h, fun k hk h => ((hf k hk).2.2 h).2, fr, far, apart, fun k hk h => (free0 k hk h).off, pk, pair, late, chk, frame⟩
  have he := (hf k hk).2.1 (by omega)
  have hc : (a k).cls ≤ 1 := by
    rcases kd_cases (a k) with e | e | e | e
    · rw [kd_0 e]; omega
    · rw [kd_1 e]; omega
    · omega
    · omega
  exact eff_1 (tidy k hk) hc he
end
end Go.AM
