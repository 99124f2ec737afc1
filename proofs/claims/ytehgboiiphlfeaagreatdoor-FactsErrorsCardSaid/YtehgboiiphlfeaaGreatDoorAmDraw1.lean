/- THE ABSTRACT MACHINE: operations that may change places. -/
import Derived.Test.YtehgboiiphlfeaaGreatDoorAmSound3
namespace Go.AM
open Go

theorem Tr.set_comm {α : Type} (x y : Option α) : ∀ (p q : Pos) (t : Tr α), p ≠ q → Tr.set x (Tr.set y t q) p = Tr.set y (Tr.set x t p) q
  | .h, .h, _, h => absurd rfl h
  | .h, .o q, t, _ => by cases t <;> rfl
  | .h, .i q, t, _ => by cases t <;> rfl
  | .o p, .h, t, _ => by cases t <;> rfl
  | .i p, .h, t, _ => by cases t <;> rfl
  | .o p, .i q, t, _ => by cases t <;> rfl
  | .i p, .o q, t, _ => by cases t <;> rfl
  | .o p, .o q, t, h => by
    have hne : p ≠ q := fun e => h (e ▸ rfl)
    cases t with
    | lf => simp only [Tr.set]; rw [Tr.set_comm x y p q _ hne]
    | nd l v r => simp only [Tr.set]; rw [Tr.set_comm x y p q _ hne]
  | .i p, .i q, t, h => by
    have hne : p ≠ q := fun e => h (e ▸ rfl)
    cases t with
    | lf => simp only [Tr.set]; rw [Tr.set_comm x y p q _ hne]
    | nd l v r => simp only [Tr.set]; rw [Tr.set_comm x y p q _ hne]

section
variable {T : AT} {H : AH} {d : Pos} {v : AV}

theorem ev_put {x : AX} (h : d ∉ x.on) : x.ev (T.put d v) = x.ev T := by
  cases x with
  | c u => rfl
  | t p =>
    simp only [AX.on, List.mem_singleton] at h
    simp only [AX.ev, AT.put]
    rw [Tr.get_set_ne _ _ _ _ (Ne.symm h)]
theorem evs_put : ∀ {l : List AX}, d ∉ onL l → evs (T.put d v) l = evs T l
  | [], _ => rfl
  | x :: l, h => by
    simp only [onL, List.mem_append, not_or] at h
    simp only [evs, ev_put h.1, evs_put h.2]
theorem evo_put {x : Option AX} (h : d ∉ onO x) : evo (T.put d v) x = evo T x := by
  cases x with
  | none => rfl
  | some x => simp only [evo]; rw [ev_put h]
theorem evps_put : ∀ {l : List (Nat × Nat × AX)}, d ∉ onP l → evps (T.put d v) l = evps T l
  | [], _ => rfl
  | (o, n, x) :: l, h => by
    simp only [onP, List.mem_append, not_or] at h
    simp only [evps, ev_put h.1, evps_put h.2]

theorem val_put {i : AI} (h : d ∉ i.on) : AM.val (T.put d v) H i = AM.val T H i := by
  cases i <;> simp only [AI.on, List.mem_append, not_or] at h <;> simp only [AM.val] <;> first
    | rfl
    | (rw [ev_put h]; done)
    | (rw [evps_put h]; done)
    | (rw [evs_put h]; done)
    | (rw [ev_put h.1, ev_put h.2]; done)
    | (rw [ev_put h.1, ev_put h.2.1, ev_put h.2.2]; done)
    | (rw [ev_put h.1, evo_put h.2.1, evo_put h.2.2]; done)
    | (rw [ev_put h.1, evo_put h.2.1, evo_put h.2.2.1, evo_put h.2.2.2]; done)
    | (simp only [ev_put h.1, ev_put h.2]; done)
    | (simp only [ev_put h.1, ev_put h.2.1, ev_put h.2.2]; done)

def eff0 (call : AV → List AV → AH → Option (AV × AH)) (i : AI) (T : AT) (H : AH) : Option (AV × AH) :=
  match i with
  | .call _ f args => call (f.ev T) (evs T args) H
  | op => AM.val T H op
def eff (call : AV → List AV → AH → Option (AV × AH)) (i : AI) (T : AT) (H : AH) : Option (AV × AH) :=
  match i with
  | .gd g b _ op => match (AX.t g).ev T with
    | .bool x => if x == b then eff0 call op T H else some (.tup [], H)
    | .tup [] => some (.tup [], H)
    | _ => none
  | op => eff0 call op T H

variable {call : AV → List AV → AH → Option (AV × AH)}

theorem eff0_put {i : AI} (h : d ∉ i.on) : eff0 call i (T.put d v) H = eff0 call i T H := by
  cases i
  case call e f args =>
    simp only [AI.on, List.mem_append, not_or] at h
    simp only [eff0, ev_put h.1, evs_put h.2]
  all_goals exact val_put (T := T) (H := H) (v := v) h
theorem eff_put {i : AI} (h : d ∉ i.on) : eff call i (T.put d v) H = eff call i T H := by
  cases i
  case gd g b e op =>
    simp only [AI.on, List.mem_cons, not_or] at h
    simp only [eff]
    rw [ev_put (x := .t g) (by simpa [AX.on] using h.1), eff0_put h.2]
  all_goals exact eff0_put (T := T) (H := H) (v := v) (call := call) h

theorem exec1_eff {i : AI} (h : i.tidy = true) : exec1 call i T H = match eff call i T H with | some (v, H) => some (AM.putO T i.dst v, H) | none => none := by
  cases i
  case gd g b e op =>
    simp only [exec1, eff]
    cases hx : (AX.t g).ev T
    case tup l => cases l <;> rfl
    case bool x =>
     by_cases hxb : (x == b) = true
     · simp only [hxb, if_true, AI.dst]
       have hd : op.dst = e := by
         simp only [AI.tidy] at h
         cases op <;> simp [AI.dst] at h ⊢ <;> (try (split at h <;> simp_all [Pos.beq_iff])) <;> (try exact Pos.beq_iff.1 h)
       cases op <;> simp only [AI.dst] at hd <;> simp only [eff0, AI.dst, hd] <;> rfl
     · simp only [hxb, Bool.false_eq_true, if_false, AI.dst]
    all_goals rfl
  case chk e op => simp [AI.tidy] at h
  all_goals rfl

theorem val_0 {i : AI} (hc : i.cls = 0) (hg : ∀ g b e op, i ≠ .gd g b e op) (H2 : AH) : AM.val T H2 i = (AM.val T H i).map fun x => (x.1, H2) := by
  cases i <;> simp only [AI.cls] at hc <;> first
    | (exfalso; exact absurd hc (by decide))
    | (exfalso; exact hg _ _ _ _ rfl)
    | (simp only [AM.val]; (repeat' split) <;> first | rfl | simp_all)
theorem val_1 {i : AI} (hc : i.cls ≤ 1) (hg : ∀ g b e op, i ≠ .gd g b e op) {u : AV} {H' : AH} (h : AM.val T H i = some (u, H')) : H' = H := by
  by_cases h0 : i.cls = 0
  · have := val_0 (T := T) (H := H) h0 hg H
    rw [h] at this
    simp at this
    exact this
  · cases i <;> simp only [AI.cls] at hc h0 <;> first
    | (exfalso; exact h0 rfl)
    | (exfalso; omega)
    | (exfalso; exact hg _ _ _ _ rfl)
    | (simp only [AM.val] at h; (repeat' split at h) <;> simp_all)

theorem eff_0 {i : AI} (ht : i.tidy = true) (hc : i.cls = 0) (H2 : AH) : eff call i T H2 = (eff call i T H).map fun x => (x.1, H2) := by
  have main : ∀ op : AI, op.cls = 0 → (∀ g b e o, op ≠ .gd g b e o) → eff0 call op T H2 = (eff0 call op T H).map fun x => (x.1, H2) := by
    intro op hc hg
    cases op
    case call => simp [AI.cls] at hc
    all_goals exact val_0 (T := T) (H := H) hc hg H2
  cases i
  case gd g b e op =>
    simp only [eff]
    cases hx : (AX.t g).ev T
    case tup l => cases l <;> rfl
    case bool x =>
      simp only []
      split
      · refine main op (by simpa [AI.cls] using hc) ?_
        intro g' b' e' o' ho
        subst ho
        simp [AI.tidy] at ht
      · rfl
    all_goals rfl
  all_goals exact main _ hc (by intros; simp)

theorem eff_1 {i : AI} (ht : i.tidy = true) (hc : i.cls ≤ 1) {u : AV} {H' : AH} (h : eff call i T H = some (u, H')) : H' = H := by
  have main : ∀ op : AI, op.cls ≤ 1 → (∀ g b e o, op ≠ .gd g b e o) → eff0 call op T H = some (u, H') → H' = H := by
    intro op hc hg h
    cases op
    case call => simp [AI.cls] at hc
    all_goals exact val_1 (T := T) (H := H) hc hg h
  cases i
  case gd g b e op =>
    simp only [eff] at h
    split at h
    · split at h
      · refine main op (by simpa [AI.cls] using hc) ?_ h
        intro g' b' e' o' ho
        subst ho
        simp [AI.tidy] at ht
      · simp at h; exact h.2.symm
    · simp at h; exact h.2.symm
    · cases h
  all_goals exact main _ hc (by intros; simp) h

theorem notIn_spec {d : Option Pos} {l : List Pos} (h : notIn d l = true) : ∀ p, d = some p → p ∉ l := by
  intro p hp hm
  subst hp
  simp only [notIn, List.all_eq_true, Bool.not_eq_true'] at h
  have := h p hm
  rw [Pos.beq_iff.2 rfl] at this
  cases this
theorem unlike_spec {a b : Option Pos} (h : unlike a b = true) : ∀ p q, a = some p → b = some q → p ≠ q := by
  intro p q hp hq e
  subst hp hq e
  simp only [unlike, Pos.beq_iff.2 rfl] at h
  cases h

theorem eff_putO {i : AI} {d : Option Pos} (h : ∀ p, d = some p → p ∉ i.on) : eff call i (AM.putO T d v) H = eff call i T H := by
  cases d with
  | none => rfl
  | some p => exact eff_put (h p rfl)

theorem putO_comm {a b : Option Pos} {u : AV} (h : ∀ p q, a = some p → b = some q → p ≠ q) : AM.putO (AM.putO T b v) a u = AM.putO (AM.putO T a u) b v := by
  cases a with
  | none => rfl
  | some p => cases b with
    | none => rfl
    | some q => exact Tr.set_comm _ _ p q T (h p q rfl rfl)

/-- two operations change places -/
theorem comm_swap {i j : AI} (hc : comm i j = true) {T1 T2 : AT} {H1 H2 : AH} (h1 : exec1 call i T H = some (T1, H1)) (h2 : exec1 call j T1 H1 = some (T2, H2)) :
    ∃ T3 H3, exec1 call j T H = some (T3, H3) ∧ exec1 call i T3 H3 = some (T2, H2) := by
  simp only [comm, Bool.and_eq_true] at hc
  obtain ⟨⟨⟨⟨⟨ti, tj⟩, hu⟩, hij⟩, hji⟩, hcl⟩ := hc
  rw [exec1_eff ti] at h1
  rw [exec1_eff tj] at h2
  cases e1 : eff call i T H with
  | none => simp [e1] at h1
  | some x =>
    obtain ⟨vi, Ha⟩ := x
    simp only [e1, Option.some.injEq, Prod.mk.injEq] at h1
    obtain ⟨rfl, rfl⟩ := h1
    rw [eff_putO (notIn_spec hij)] at h2
    cases e2 : eff call j T Ha with
    | none => simp [e2] at h2
    | some y =>
      obtain ⟨vj, Hb⟩ := y
      simp only [e2, Option.some.injEq, Prod.mk.injEq] at h2
      obtain ⟨rfl, rfl⟩ := h2
      have fin : ∀ H3, eff call j T H = some (vj, H3) → eff call i T H3 = some (vi, Hb) → ∃ T3 H3, exec1 call j T H = some (T3, H3) ∧ exec1 call i T3 H3 = some (AM.putO (AM.putO T i.dst vi) j.dst vj, Hb) := by
        intro H3 a b
        refine ⟨AM.putO T j.dst vj, H3, by rw [exec1_eff tj, a], ?_⟩
        rw [exec1_eff ti, eff_putO (notIn_spec hji), b]
        simp only []
        rw [putO_comm (unlike_spec hu)]
      simp only [Bool.or_eq_true, Bool.and_eq_true, Nat.ble_eq] at hcl
      have hcl := hcl.imp (Or.imp Nat.eq_of_beq_eq_true Nat.eq_of_beq_eq_true) id
      rcases hcl with (hc | hc) | ⟨hc1, hc2⟩
      · have := eff_1 ti (by omega) e1
        subst this
        refine fin Hb e2 ?_
        rw [eff_0 ti hc (H := Ha) Hb, e1]; rfl
      · have := eff_1 tj (by omega) e2
        subst this
        refine fin H ?_ e1
        rw [eff_0 tj hc (H := Hb) H, e2]; rfl
      · have h1 := eff_1 ti hc1 e1
        subst h1
        have h2 := eff_1 tj hc2 e2
        subst h2
        exact fin _ e2 e1
end
end Go.AM
