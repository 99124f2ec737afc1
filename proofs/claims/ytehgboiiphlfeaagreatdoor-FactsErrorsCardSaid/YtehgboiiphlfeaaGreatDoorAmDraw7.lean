/- THE ABSTRACT MACHINE: one operation more, at any part of a region's operations. -/
import Derived.Test.YtehgboiiphlfeaaGreatDoorAmDraw6
namespace Go.AM
open Go

section
variable {call : AV → List AV → AH → Option (AV × AH)} {T0 T : AT} {H0 H H1 : AH}

theorem chk0_val {op : AI} (hc : op.cls = 1) (hg : ∀ g b e o, op ≠ .gd g b e o) (h : chk0 T H op = true) {v : AV} (hv : ∀ d, op.dst = some d → (AX.t d).ev T = v) : AM.val T H op = some (v, H) := by
  unfold chk0 at h
  split at h
  · rename_i d hd
    split at h
    · rename_i w H' hw
      have e := same_eq _ _ h
      have e2 := val_1 (T := T) (H := H) (by omega) hg hw
      rw [hw, e, hv d hd, e2]
    · cases h
  · cases h
theorem eff0_val {op : AI} (hc : op.cls = 1) : eff0 call op T H = AM.val T H op := by
  cases op <;> first | rfl | (simp [AI.cls] at hc)
theorem tidy_dst {g : Pos} {b : Bool} {d : Option Pos} {op : AI} (h : (AI.gd g b d op).tidy = true) : op.dst = d ∧ ∀ g b e o, op ≠ .gd g b e o := by
  constructor
  · simp only [AI.tidy] at h
    cases op <;> simp [AI.dst] at h ⊢ <;> (try (split at h <;> simp_all [Pos.beq_iff])) <;> (try exact Pos.beq_iff.1 h)
  · intro g' b' e o ho
    subst ho
    simp [AI.tidy] at h
/-- a second look that shows the same -/
theorem chk_eff {i : AI} (ht : i.tidy = true) (hc : i.cls = 1) (h : chkOk T H i = true) {v : AV} (hv : ∀ d, i.dst = some d → (AX.t d).ev T = v) (hon : ∀ p ∈ i.on, (AX.t p).ev T0 = (AX.t p).ev T)
    (he : eff call i T0 H0 = some (v, H1)) : eff call i T0 H = some (v, H) := by
  rw [eff_congr (T' := T) hon] at he ⊢
  cases i
  case gd g b d op =>
    obtain ⟨hd, hng⟩ := tidy_dst ht
    have hc : op.cls = 1 := hc
    simp only [chkOk] at h
    simp only [eff] at he ⊢
    cases hg : (AX.t g).ev T <;> rw [hg] at h he <;> try (simp at h; done)
    case tup l => cases l with
      | nil => simp only at he ⊢; cases he; rfl
      | cons _ _ => simp at h
    rename_i z
    simp only at h he ⊢
    split at h
    · rename_i c1
      rw [if_pos c1, eff0_val hc]
      exact chk0_val hc hng h fun p hp => hv p (by simp only [AI.dst]; rw [← hd]; exact hp)
    · rename_i c1
      rw [if_neg c1] at he ⊢
      cases he; rfl
  all_goals (
    simp only [chkOk] at h
    simp only [eff, eff0]
    first
      | exact chk0_val hc (by intros; simp) h hv
      | (simp [AI.cls] at hc))
end

section
variable {call : AV → List AV → AH → Option (AV × AH)} {n : Nat} {a : Nat → AI} {q : Nat → Nat} {bef : Nat → Nat → Prop} {st : Nat → AT × AH} {v : Nat → AV} {r : Nat → Pos} {x : Nat → Option AB} {rs : List (List (Option Pos))} {D : Nat → Bool}

def qOf (a : Nat → AI) (q : Nat → Nat) (i : Nat) : Option Nat := if Nat.beq (kd (a i)) 2 then some (q i) else none

theorem Trace.step (tr : Trace call n a q bef st v r x rs) {i : Nat} (hi : i < n) (hD : D i = false) (hcl : ∀ j, j < n → D j = true → ∀ k, k < n → bef k j → D k = true) (hbi : ∀ k, k < n → bef k i → D k = true) :
    execD1 call (.op (qOf a q i) (a i)) (TD a v D (st 0).1 n) (HD a st r x D (st 0).2 n) = some (TD a v (with1 D i) (st 0).1 n, HD a st r x (with1 D i) (st 0).2 n) := by
  have hsl := fun p hp => tr.slots hi hD hcl hbi (p := p) hp
  have hput := tr.slots1 hi hD hcl
  have noBef : ∀ k, k < n → D k = true → ¬ bef i k := fun k hk hDk hb => by have := hcl k hk hDk i hi hb; rw [hD] at this; cases this
  have rule : ∀ k, i < k → k < n → D k = true → ruleK (kd (a i)) (kd (a k)) = true := fun k h1 h2 h3 => by
    rcases tr.pair i k h1 h2 with h | ⟨_, h⟩
    · exact absurd h (noBef k h2 h3)
    · exact h
  -- by an effect at the heap
  have by_eff : ∀ {H'}, kd (a i) ≠ 2 → AM.eff call (a i) (st i).1 (HD a st r x D (st 0).2 n) = some (v i, H') → H' = HD a st r x (with1 D i) (st 0).2 n →
      execD1 call (.op (qOf a q i) (a i)) (TD a v D (st 0).1 n) (HD a st r x D (st 0).2 n) = some (TD a v (with1 D i) (st 0).1 n, HD a st r x (with1 D i) (st 0).2 n) := by
    intro H' hne he hH
    have hq : qOf a q i = none := by
      unfold qOf
      cases hb : Nat.beq (kd (a i)) 2 with
      | true => exact absurd (Nat.eq_of_beq_eq_true hb) hne
      | false => rfl
    rw [hq, hput, ← hH]
    simp only [execD1]
    rw [exec1_eff (tr.tidy i hi), eff_congr (T' := (st i).1) hsl, he]
  rcases kd_cases (a i) with h | h | h | h
  · -- it looks at no block
    have h0 := eff_0 (call := call) (T := (st i).1) (H := (st i).2) (tr.tidy i hi) (kd_0 h) (HD a st r x D (st 0).2 n)
    rw [tr.eff i hi (by omega)] at h0
    refine by_eff (by omega) h0 ?_
    exact (heapSame hD (by omega) n).symm
  · -- it looks at blocks
    have key : ∀ k, i ≤ k → k ≤ n → AM.eff call (a i) (st i).1 (HD a st r x D (st 0).2 k) = some (v i, HD a st r x D (st 0).2 k) := by
      intro k
      induction k with
      | zero =>
        intro h1 _
        have : i = 0 := by omega
        subst this
        have e := tr.eff 0 hi (by omega)
        rw [tr.same 0 hi (by omega)] at e
        exact e
      | succ k ih =>
        intro h1 h2
        have hkn : k < n := by omega
        by_cases he : i = k + 1
        · have e := tr.eff i hi (by omega)
          rw [tr.same i hi (by omega), ← tr.heapSt (D := D) hi hbi (.inl h) i (Nat.le_refl _), he] at e
          rw [he]; exact e
        · have ih := ih (by omega) (by omega)
          simp only [HD]
          cases hDk : D k with
          | false => simp only [Bool.false_eq_true, if_false]; exact ih
          | true =>
            simp only [if_true]
            have hne : i ≠ k := fun e => by rw [e, hDk] at hD; cases hD
            unfold effH
            split
            · exact ih
            · split
              · rename_i h2k
                exact (eff_plus (tr.frame _ _) (tr.freeHD (D := D) hkn h2k k (Nat.le_refl _)).off ih).1
              · rename_i c1 c2
                have h3k : kd (a k) = 3 := by rcases kd_cases (a k) with e | e | e | e <;> omega
                have hck := tr.chk i k (by omega) hkn h h3k (noBef k hkn hDk)
                have later : ∀ m, i < m → m ≤ k + 1 → (∀ p ∈ (a i).on, (AX.t p).ev (st i).1 = (AX.t p).ev (st m).1) ∧ (∀ d, (a i).dst = some d → (AX.t d).ev (st m).1 = v i) := by
                  intro m
                  induction m with
                  | zero => intro h; omega
                  | succ m ihm =>
                    intro g1 g2
                    have hmn : m < n := by omega
                    by_cases hm : i = m
                    · subst hm
                      rw [tr.put i hmn]
                      have hl := (tr.late i k (by omega) hkn h).2.2
                      refine ⟨fun p hp => (ev_putO fun e => notIn_spec hl p e hp).symm, fun d hd => ?_⟩
                      rw [hd, ev_putO_eq]
                    · obtain ⟨f1, f2⟩ := ihm (by omega) (by omega)
                      obtain ⟨l1, l2, _⟩ := tr.late i m (by omega) hmn h
                      rw [tr.put m hmn]
                      refine ⟨fun p hp => (f1 p hp).trans (ev_putO fun e => notIn_spec l2 p e hp).symm, fun d hd => ?_⟩
                      rw [ev_putO fun e => unlike_spec l1 d d hd e rfl]
                      exact f2 d hd
                obtain ⟨g1, g2⟩ := later (k + 1) (by omega) (Nat.le_refl _)
                exact chk_eff (tr.tidy i hi) (kd_1 h) hck g2 g1 ih
    refine by_eff (by omega) (key n (by omega) (Nat.le_refl _)) ?_
    exact (heapSame hD (by omega) n).symm
  · -- it makes a block
    have hq : qOf a q i = some (q i) := by unfold qOf; rw [h]; rfl
    have hfr := tr.freeHD2 (D := D) hi h hD hcl n (Nat.le_refl _)
    obtain ⟨f, f1, f2, f3⟩ := hfr.slot
    rw [hq, new_step (tr.tidy i hi) (tr.new i hi h) hsl hfr.pk f1 f2 f3 (tr.far i hi h), hput]
    congr 2
    have one : ∀ k, k ≤ i → HD a st r x (with1 D i) (st 0).2 k = HD a st r x D (st 0).2 k := by
      intro k
      induction k with
      | zero => intro _; rfl
      | succ k ih => intro hk; simp only [HD, with1_ne (show k ≠ i by omega), ih (by omega)]
    have two : ∀ k, i < k → k ≤ n → HD a st r x (with1 D i) (st 0).2 k = (HD a st r x D (st 0).2 k).plus (r i) (x i) := by
      intro k
      induction k with
      | zero => intro h; omega
      | succ k ih =>
        intro h1 h2
        by_cases he : i = k
        · subst he
          simp only [HD, with1_eq, hD, if_true, Bool.false_eq_true, if_false, effH, h, one i (Nat.le_refl _)]
          rfl
        · have ih := ih (by omega) (by omega)
          have hkn : k < n := by omega
          simp only [HD, with1_ne (show k ≠ i by omega)]
          cases hDk : D k with
          | false => simp only [Bool.false_eq_true, if_false]; exact ih
          | true =>
            simp only [if_true]
            have hr := rule k (by omega) hkn hDk
            rw [h] at hr
            unfold effH
            rcases kd_cases (a k) with e | e | e | e
            · simp only [e, Nat.zero_le, if_true]; exact ih
            · rw [e] at hr; exact absurd hr (by decide)
            · rw [ih]
              rw [e]
              exact plus_comm (tr.apart i k hi hkn h e he)
            · rw [e] at hr; exact absurd hr (by decide)
    exact (two n hi (Nat.le_refl _)).symm
  · -- anything
    have key : ∀ k, i < k → k ≤ n → AM.eff call (a i) (st i).1 (HD a st r x D (st 0).2 k) = some (v i, HD a st r x (with1 D i) (st 0).2 k) := by
      intro k
      induction k with
      | zero => intro h; omega
      | succ k ih =>
        intro h1 h2
        have hkn : k < n := by omega
        by_cases he : i = k
        · subst he
          simp only [HD, with1_eq, hD, if_true, Bool.false_eq_true, if_false]
          rw [tr.heapSt (D := D) hi hbi (.inr h) i (Nat.le_refl _)]
          have e1 : ∀ H, effH a st r x i H = (st (i + 1)).2 := fun H => by
            unfold effH
            rw [if_neg (by omega), if_neg (by omega)]
          rw [e1]
          exact tr.eff i hi (by omega)
        · have ih := ih (by omega) (by omega)
          simp only [HD, with1_ne (show k ≠ i by omega)]
          cases hDk : D k with
          | false => simp only [Bool.false_eq_true, if_false]; exact ih
          | true =>
            simp only [if_true]
            have hr := rule k (by omega) hkn hDk
            rw [h] at hr
            unfold effH
            rcases kd_cases (a k) with e | e | e | e
            · simp only [e, Nat.zero_le, if_true]; exact ih
            · rw [e] at hr; exact absurd hr (by decide)
            · rw [e]
              exact (eff_plus (tr.frame _ _) (tr.freeHD (D := D) hkn e k (Nat.le_refl _)).off ih).1
            · rw [e] at hr; exact absurd hr (by decide)
    exact by_eff (by omega) (key n hi (Nat.le_refl _)) rfl
end
end Go.AM
