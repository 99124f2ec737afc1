/- THE ABSTRACT MACHINE: operations of a region whose order is drawn: whatever is done, in whatever order, comes to what the one order says. -/
import Derived.Test.YtehgboiiphlfeaaGreatDoorAmDraw4
namespace Go.AM
open Go

section
variable {call : AV → List AV → AH → Option (AV × AH)} {T T' : AT} {H H' : AH}

/-! ### operations look at their slots alone -/
theorem ev_congr {x : AX} (h : ∀ p ∈ x.on, (AX.t p).ev T = (AX.t p).ev T') : x.ev T = x.ev T' := by
  cases x with
  | c v => rfl
  | t p => exact h p (by simp [AX.on])
theorem evs_congr : ∀ {l : List AX}, (∀ p ∈ onL l, (AX.t p).ev T = (AX.t p).ev T') → evs T l = evs T' l
  | [], _ => rfl
  | x :: l, h => by
    simp only [onL, List.mem_append] at h
    simp only [evs, ev_congr fun p hp => h p (.inl hp), evs_congr fun p hp => h p (.inr hp)]
theorem evo_congr {x : Option AX} (h : ∀ p ∈ onO x, (AX.t p).ev T = (AX.t p).ev T') : evo T x = evo T' x := by
  cases x with
  | none => rfl
  | some x => simp only [evo]; rw [ev_congr (x := x) h]
theorem evps_congr : ∀ {l : List (Nat × Nat × AX)}, (∀ p ∈ onP l, (AX.t p).ev T = (AX.t p).ev T') → evps T l = evps T' l
  | [], _ => rfl
  | (o, n, x) :: l, h => by
    simp only [onP, List.mem_append] at h
    simp only [evps, ev_congr fun p hp => h p (.inl hp), evps_congr fun p hp => h p (.inr hp)]
theorem val_congr {i : AI} (h : ∀ p ∈ i.on, (AX.t p).ev T = (AX.t p).ev T') : AM.val T H i = AM.val T' H i := by
  cases i <;> simp only [AI.on, List.mem_append] at h <;> simp only [AM.val] <;> first
    | rfl
    | (rw [ev_congr h]; done)
    | (rw [evps_congr h]; done)
    | (rw [evs_congr h]; done)
    | (rw [ev_congr fun p hp => h p (.inl hp), ev_congr fun p hp => h p (.inr hp)]; done)
    | (rw [ev_congr fun p hp => h p (.inl hp), ev_congr fun p hp => h p (.inr (.inl hp)), ev_congr fun p hp => h p (.inr (.inr hp))]; done)
    | (rw [ev_congr fun p hp => h p (.inl hp), evo_congr fun p hp => h p (.inr (.inl hp)), evo_congr fun p hp => h p (.inr (.inr hp))]; done)
    | (rw [ev_congr fun p hp => h p (.inl hp), evo_congr fun p hp => h p (.inr (.inl hp)), evo_congr fun p hp => h p (.inr (.inr (.inl hp))), evo_congr fun p hp => h p (.inr (.inr (.inr hp)))]; done)
    | (simp only [ev_congr fun p hp => h p (.inl hp), ev_congr fun p hp => h p (.inr hp)]; done)
    | (simp only [ev_congr fun p hp => h p (.inl hp), ev_congr fun p hp => h p (.inr (.inl hp)), ev_congr fun p hp => h p (.inr (.inr hp))]; done)
theorem eff0_congr {i : AI} (h : ∀ p ∈ i.on, (AX.t p).ev T = (AX.t p).ev T') : eff0 call i T H = eff0 call i T' H := by
  cases i
  case call d f args =>
    simp only [AI.on, List.mem_append] at h
    simp only [eff0, ev_congr fun p hp => h p (.inl hp), evs_congr fun p hp => h p (.inr hp)]
  all_goals exact val_congr (H := H) h
theorem eff_congr {i : AI} (h : ∀ p ∈ i.on, (AX.t p).ev T = (AX.t p).ev T') : eff call i T H = eff call i T' H := by
  cases i
  case gd g b d op =>
    simp only [AI.on, List.mem_cons] at h
    simp only [eff]
    rw [h g (.inl rfl), eff0_congr fun p hp => h p (.inr hp)]
  all_goals exact eff0_congr (call := call) (H := H) h

/-! ### beside one block more -/
variable {r : Pos} {x : Option AB}
theorem eff0_plus (hf : FrCall r x call) (ho : Off r H) {i : AI} {v : AV} (he : eff0 call i T H = some (v, H')) : eff0 call i T (H.plus r x) = some (v, H'.plus r x) ∧ Left r H H' := by
  cases i
  case call d f args => exact hf _ _ _ _ _ ho he
  all_goals (simp only [eff0] at he ⊢; exact val_plus ho he)
theorem eff_plus (hf : FrCall r x call) (ho : Off r H) {i : AI} {v : AV} (he : eff call i T H = some (v, H')) : eff call i T (H.plus r x) = some (v, H'.plus r x) ∧ Left r H H' := by
  cases i
  case gd g b d op =>
    simp only [eff] at he ⊢
    cases hg : (AX.t g).ev T <;> rw [hg] at he <;> try (simp at he; done)
    case tup l => cases l with
      | nil => cases he; exact ⟨rfl, Left.refl ho⟩
      | cons _ _ => simp at he
    rename_i z
    simp only at he ⊢
    split at he
    · rename_i c1; rw [if_pos c1]; exact eff0_plus hf ho he
    · rename_i c1; rw [if_neg c1]; cases he; exact ⟨rfl, Left.refl ho⟩
  all_goals (simp only [eff] at he ⊢; exact eff0_plus hf ho he)

/-! ### a new block, of a name that was kept -/
theorem new_val {i : AI} (hn : isNew0 i = true) {v : AV} (hp : H.pk = some r) (hv : AM.val T H i = some (v, H')) :
    ∃ y : AB, ∀ H2 : AH, H2.pk = some r → AM.val T H2 i = some (v, { H2 with bl := H2.bl.set (some y) r, pk := none }) := by
  have e : ∀ (H : AH) (y : AB), H.pk = some r → H.new y = (r, { H with bl := H.bl.set (some y) r, pk := none }) := fun H y h => by unfold AH.new; rw [h]
  have er : ∀ (H : AH) (t : TypeId) (vs : List AV) (ex : Bool), H.pk = some r → H.newRow t vs ex = (r, { H with bl := H.bl.set (some (.row t r 0 vs ex)) r, pk := none }) := fun H t vs ex h => by
    unfold AH.newRow; rw [e H _ h]; unfold AH.nm; rw [h]
  cases i <;> simp only [isNew0, Bool.false_eq_true] at hn
  case alloc d t z =>
    simp only [AM.val] at hv
    rw [er H _ _ _ hp] at hv; cases hv
    exact ⟨_, fun H2 h2 => by simp only [AM.val]; rw [er H2 _ _ _ h2]⟩
  case box d t n y =>
    simp only [AM.val] at hv
    split at hv
    · rename_i c hc
      split at hv
      · rename_i c1
        rw [er H _ _ _ hp] at hv; cases hv
        exact ⟨_, fun H2 h2 => by simp only [AM.val, hc]; rw [if_pos c1, er H2 _ _ _ h2]⟩
      · cases hv
    · cases hv
  case bslc d t sz len z ps =>
    simp only [AM.val] at hv
    split at hv
    · rename_i c hc
      rw [er H _ _ _ hp] at hv; cases hv
      exact ⟨_, fun H2 h2 => by simp only [AM.val, hc]; rw [er H2 _ _ _ h2]⟩
    · cases hv
  case mkmap d =>
    simp only [AM.val] at hv
    rw [e H _ hp] at hv; cases hv
    exact ⟨_, fun H2 h2 => by simp only [AM.val]; rw [e H2 _ h2]⟩
  case mkslc d t sz by_ z l c =>
    simp only [AM.val] at hv
    split at hv
    · rename_i n m hn hm
      split at hv
      · rename_i c1
        rw [er H _ _ _ hp] at hv; cases hv
        exact ⟨_, fun H2 h2 => by simp only [AM.val, hn, hm]; rw [if_pos c1, er H2 _ _ _ h2]⟩
      · cases hv
    · cases hv
theorem new_eff {i : AI} (ht : i.tidy = true) (hn : isNew i = true) {v : AV} (hp : H.pk = some r) (hv : eff call i T H = some (v, H')) :
    ∃ y : Option AB, ∀ H2 : AH, H2.pk = some r → ∃ H3, eff call i T H2 = some (v, H3) ∧ H3.disarm = { H2 with bl := plusBl r y H2.bl, pk := none } := by
  have main : ∀ op : AI, isNew0 op = true → eff0 call op T H = some (v, H') → ∃ y : Option AB, ∀ H2 : AH, H2.pk = some r → ∃ H3, eff0 call op T H2 = some (v, H3) ∧ H3.disarm = { H2 with bl := plusBl r y H2.bl, pk := none } := by
    intro op hn h
    have e0 : ∀ H, eff0 call op T H = AM.val T H op := fun H => by cases op <;> first | rfl | (simp [isNew0] at hn)
    rw [e0] at h
    obtain ⟨y, hy⟩ := new_val hn hp h
    exact ⟨some y, fun H2 h2 => ⟨_, by rw [e0]; exact hy H2 h2, rfl⟩⟩
  cases i
  case gd g b d op =>
    simp only [eff] at hv ⊢
    simp only [isNew] at hn
    cases hg : (AX.t g).ev T <;> rw [hg] at hv <;> try (simp at hv; done)
    case tup l => cases l with
      | nil => cases hv; exact ⟨none, fun H2 _ => ⟨H2, rfl, rfl⟩⟩
      | cons _ _ => simp at hv
    rename_i z
    simp only at hv ⊢
    split at hv
    · rename_i c1
      simp only [c1, if_true]
      exact main op hn hv
    · rename_i c1
      cases hv
      refine ⟨none, fun H2 _ => ⟨H2, ?_, rfl⟩⟩
      rw [if_neg c1]
  all_goals (simp only [eff] at hv ⊢; simp only [isNew] at hn; exact main _ hn hv)

/-- the q-th of the kept names -/
theorem takeN_get : ∀ {f : List (Option Pos)} {q : Nat}, f[q]? = some (some r) → takeN f q = some (r, f.set q none)
  | [], q, h => by simp at h
  | o :: f, 0, h => by simp at h; subst h; rfl
  | o :: f, q + 1, h => by
    have e : takeN (o :: f) (q + 1) = match takeN f q with | some (r, l) => some (r, o :: l) | none => none := by cases o <;> rfl
    rw [e, takeN_get (by simpa using h)]; rfl
theorem set_erase : ∀ {f : List (Option Pos)} {q : Nat}, f[q]? = some (some r) → (∀ j, f[j]? = some (some r) → j = q) → f.set q none = f.map (erase r)
  | [], q, h, _ => by simp at h
  | o :: f, 0, h, hu => by
    simp at h; subst h
    have : some r ∉ f := fun hm => by
      obtain ⟨j, hj⟩ := List.mem_iff_getElem?.1 hm
      have := hu (j + 1) (by simpa using hj)
      omega
    simp only [List.set_cons_zero, List.map_cons, erase_id this, erase, Pos.beq_iff.2 rfl, if_true]
  | o :: f, q + 1, h, hu => by
    have ho : erase r o = o := by
      cases o with
      | none => rfl
      | some p =>
        have hp : p.beq r = false := by
          cases hb : p.beq r with
          | false => rfl
          | true => have := hu 0 (by simp [Pos.beq_iff.1 hb]); omega
        simp only [erase, hp]; rfl
    simp only [List.set_cons_succ, List.map_cons, ho]
    rw [set_erase (by simpa using h) fun j hj => by have := hu (j + 1) (by simpa using hj); omega]

/-- one operation that makes a block -/
theorem new_step {i : AI} (ht : i.tidy = true) {v : AV} {y : Option AB} {q : Nat} {f : List (Option Pos)} {rs : List (List (Option Pos))}
    (hy : ∀ H2 : AH, H2.pk = some r → ∃ H3, eff call i T H2 = some (v, H3) ∧ H3.disarm = { H2 with bl := plusBl r y H2.bl, pk := none })
    (hT : ∀ p ∈ i.on, (AX.t p).ev T' = (AX.t p).ev T) (hpk : H.pk = none) (hrs : H.rs = f :: rs) (hq : f[q]? = some (some r)) (hu : ∀ j, f[j]? = some (some r) → j = q) (ho : ∀ g ∈ rs, some r ∉ g) :
    execD1 call (.op (some q) i) T' H = some (AM.putO T' i.dst v, H.plus r y) := by
  simp only [execD1]
  have ea : H.arm q = some { H with pk := some r, rs := f.set q none :: rs } := by
    unfold AH.arm; rw [hrs]; simp only [takeN_get hq]
  rw [ea]
  simp only
  obtain ⟨H3, h1, h2⟩ := hy { H with pk := some r, rs := f.set q none :: rs } rfl
  rw [exec1_eff ht, eff_congr (T' := T) hT, h1]
  simp only [h2]
  congr 2
  show AH.mk _ _ _ _ _ = AH.mk _ _ _ _ _
  rw [hpk, hrs, List.map_cons, set_erase hq hu]
  congr 2
  have : rs.map (fun f => f.map (erase r)) = rs.map id := List.map_congr_left fun g hg => erase_id (ho g hg)
  rw [this, List.map_id]
end
end Go.AM
