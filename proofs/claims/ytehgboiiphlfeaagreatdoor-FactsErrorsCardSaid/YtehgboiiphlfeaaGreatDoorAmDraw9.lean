/- THE ABSTRACT MACHINE: a region whose order is drawn: any order that the edges allow comes to what the one order says. -/
import Derived.Test.YtehgboiiphlfeaaGreatDoorAmDraw8
import Derived.Test.YtehgboiiphlfeaaGreatDoorAmDraw2
namespace Go.AM
open Go

def execIxD (call : AV → List AV → AH → Option (AV × AH)) (is : List AI) (qf : Nat → Option Nat) : List Nat → AT → AH → Option (AT × AH)
  | [], T, H => some (T, H)
  | i :: l, T, H => match is[i]? with
    | some a => match execD1 call (.op (qf i) a) T H with
      | some (T, H) => execIxD call is qf l T H
      | none => none
    | none => none

section
variable {call : AV → List AV → AH → Option (AV × AH)} {ops : Array Oper} {is : List AI} {A : List (List Nat)} {p : List Nat}

/-- the k-th operation of the one order -/
def opAt (is : List AI) (p : List Nat) (k : Nat) : AI := match p[k]? with
  | some i => match is[i]? with | some a => a | none => .bad none
  | none => .bad none
def qAt (is : List AI) (p : List Nat) (k : Nat) : Nat := cntN is (p.take k)
def befAt (A : List (List Nat)) (p : List Nat) (k j : Nat) : Prop := ∃ i i', p[k]? = some i ∧ p[j]? = some i' ∧ i ∈ nthL A i'

theorem chksL_run {j : Nat} {l : List DI} {T : AT} {H : AH} : ∀ {pre : List Nat}, execD call (chksL A is j pre ++ l) T H ≠ .bad →
    execD call (chksL A is j pre ++ l) T H = execD call l T H ∧ ∀ i ∈ pre, ∀ a, is[i]? = some a → kd a = 1 → i ∉ nthL A j → chkOk T H a = true
  | [], h => ⟨rfl, by simp⟩
  | i :: pre, h => by
    simp only [chksL] at h ⊢
    cases hi : is[i]? with
    | none =>
      rw [hi] at h
      simp only at h ⊢
      obtain ⟨h1, h2⟩ := chksL_run (pre := pre) h
      refine ⟨h1, fun i' hi' a ha hk hn => ?_⟩
      rcases List.mem_cons.1 hi' with rfl | hi'
      · rw [hi] at ha; cases ha
      · exact h2 i' hi' a ha hk hn
    | some b =>
      rw [hi] at h
      simp only at h ⊢
      split at h
      · rename_i hc
        rw [if_pos hc]
        simp only [List.cons_append, execD, execD1] at h ⊢
        cases hck : chkOk T H b with
        | false => rw [hck] at h; simp at h
        | true =>
          rw [hck] at h
          simp only [if_true] at h ⊢
          obtain ⟨h1, h2⟩ := chksL_run (pre := pre) h
          refine ⟨h1, fun i' hi' a ha hk hn => ?_⟩
          rcases List.mem_cons.1 hi' with rfl | hi'
          · rw [hi] at ha; cases ha; exact hck
          · exact h2 i' hi' a ha hk hn
      · rename_i hc
        rw [if_neg hc]
        obtain ⟨h1, h2⟩ := chksL_run (pre := pre) h
        refine ⟨h1, fun i' hi' a ha hk hn => ?_⟩
        rcases List.mem_cons.1 hi' with rfl | hi'
        · rw [hi] at ha; cases ha
          exfalso
          apply hc
          simp only [Bool.and_eq_true, Bool.not_eq_true']
          refine ⟨by rw [hk]; rfl, ?_⟩
          cases hm : memN i' (nthL A j) with
          | false => rfl
          | true => exact absurd (memN_iff.1 hm) hn
        · exact h2 i' hi' a ha hk hn

/-- the steps of the one run -/
theorem genD_run (hlt : ∀ i ∈ p, i < is.length) : ∀ (rest pre : List Nat) (T : AT) (H : AH), pre ++ rest = p → execD call (genD A is pre rest) T H ≠ .bad →
    ∃ st : Nat → AT × AH, st pre.length = (T, H) ∧ execD call (genD A is pre rest) T H = .fin (st p.length).1 (st p.length).2 ∧
      (∀ k, pre.length ≤ k → k < p.length → execD1 call (.op (qOf (opAt is p) (qAt is p) k) (opAt is p k)) (st k).1 (st k).2 = some (st (k + 1))) ∧
      (∀ k, pre.length ≤ k → k < p.length → kd (opAt is p k) = 3 → ∀ i ∈ p.take k, ∀ a, is[i]? = some a → kd a = 1 → (∀ j, p[k]? = some j → i ∉ nthL A j) → chkOk (st (k + 1)).1 (st (k + 1)).2 a = true)
  | [], pre, T, H, hp, _ => by
    simp only [List.append_nil] at hp
    subst hp
    exact ⟨fun _ => (T, H), rfl, rfl, fun k h1 h2 => by omega, fun k h1 h2 => by omega⟩
  | j :: rest, pre, T, H, hp, hne => by
    have hj : j ∈ p := by rw [← hp]; simp
    have hpk : p[pre.length]? = some j := by rw [← hp]; simp
    have htk : p.take pre.length = pre := by rw [← hp]; simp
    have hlen : pre.length < p.length := by rw [← hp]; simp
    obtain ⟨a, ha⟩ : ∃ a, is[j]? = some a := ⟨is[j]'(hlt j hj), by simp⟩
    have hop : opAt is p pre.length = a := by unfold opAt; rw [hpk]; simp only [ha]
    have hq : (if Nat.beq (kd a) 2 then some (cntN is pre) else none) = qOf (opAt is p) (qAt is p) pre.length := by
      unfold qOf qAt; rw [hop, htk]
    simp only [genD, ha] at hne ⊢
    simp only [execD] at hne ⊢
    rw [hq] at hne ⊢
    cases h1 : execD1 call (.op (qOf (opAt is p) (qAt is p) pre.length) a) T H with
    | none => rw [h1] at hne; exact absurd rfl hne
    | some y =>
      obtain ⟨T1, H1⟩ := y
      rw [h1] at hne
      simp only at hne ⊢
      have hrec : execD call (genD A is (pre ++ [j]) rest) T1 H1 ≠ .bad ∧ execD call ((if Nat.beq (kd a) 3 then chksL A is j pre else []) ++ genD A is (pre ++ [j]) rest) T1 H1 = execD call (genD A is (pre ++ [j]) rest) T1 H1 ∧
          (kd a = 3 → ∀ i ∈ pre, ∀ b, is[i]? = some b → kd b = 1 → i ∉ nthL A j → chkOk T1 H1 b = true) := by
        cases hb : Nat.beq (kd a) 3 with
        | false =>
          rw [hb] at hne
          simp only [Bool.false_eq_true, if_false, List.nil_append] at hne ⊢
          exact ⟨hne, trivial, fun h => by rw [h] at hb; cases hb⟩
        | true =>
          rw [hb] at hne
          simp only [if_true] at hne ⊢
          obtain ⟨c1, c2⟩ := chksL_run hne
          exact ⟨fun e => hne (c1.trans e), c1, fun _ => c2⟩
      obtain ⟨r1, r2, r3⟩ := hrec
      rw [r2]
      obtain ⟨st, s1, s2, s3, s4⟩ := genD_run hlt rest (pre ++ [j]) T1 H1 (by rw [← hp]; simp) r1
      simp only [List.length_append, List.length_cons, List.length_nil, Nat.zero_add] at s1 s3 s4
      refine ⟨fun k => if k ≤ pre.length then (T, H) else st k, by simp, ?_, fun k k1 k2 => ?_, fun k k1 k2 hk3 i hi b hb hkb hnj => ?_⟩
      · rw [s2]; simp only [if_neg (show ¬ p.length ≤ pre.length by omega)]
      · by_cases hk : k = pre.length
        · subst hk
          simp only [Nat.le_refl, if_true]
          rw [if_neg (by omega), hop, h1, s1]
        · simp only [if_neg (show ¬ k ≤ pre.length by omega), if_neg (show ¬ k + 1 ≤ pre.length by omega)]
          exact s3 k (by omega) k2
      · by_cases hk : k = pre.length
        · subst hk
          simp only [if_neg (show ¬ pre.length + 1 ≤ pre.length by omega)]
          rw [s1]
          rw [hop] at hk3
          rw [htk] at hi
          exact r3 hk3 i hi b hb hkb (hnj j hpk)
        · simp only [if_neg (show ¬ k + 1 ≤ pre.length by omega)]
          exact s4 k (by omega) k2 hk3 i hi b hb hkb hnj

theorem nodupN_iff : ∀ {l : List Nat}, nodupN l = true → l.Nodup
  | [], _ => List.nodup_nil
  | i :: l, h => by
    simp only [nodupN, Bool.and_eq_true, Bool.not_eq_true'] at h
    refine List.nodup_cons.2 ⟨fun hm => ?_, nodupN_iff h.2⟩
    rw [memN_iff.2 hm] at h; cases h.1

theorem permOk_spec : ∀ {l : List Nat}, permOk A is l = true → ∀ (k j : Nat), k < j → ∀ i i', l[k]? = some i → l[j]? = some i' → pairOk2 A is i i' = true
  | [], _, k, j, _, i, i', h, _ => by simp at h
  | i0 :: l, h, k, j, hkj, i, i', hi, hi' => by
    simp only [permOk, Bool.and_eq_true, List.all_eq_true] at h
    cases j with
    | zero => omega
    | succ j =>
      simp only [List.getElem?_cons_succ] at hi'
      cases k with
      | zero =>
        simp only [List.getElem?_cons_zero, Option.some.injEq] at hi
        subst hi
        exact h.1 i' (List.mem_of_getElem? hi')
      | succ k =>
        simp only [List.getElem?_cons_succ] at hi
        exact permOk_spec h.2 k j (by omega) i i' hi hi'

theorem cntN_append (l m : List Nat) : cntN is (l ++ m) = cntN is l + cntN is m := by
  induction l with
  | nil => simp [cntN]
  | cons i l ih =>
    simp only [List.cons_append, cntN, ih]
    split <;> omega
theorem kdAt_op {k i : Nat} (hk : p[k]? = some i) (hi : i < is.length) : kdAt is i = kd (opAt is p k) := by
  unfold kdAt opAt
  rw [hk]
  have : is[i]? = some (is[i]'hi) := by simp
  simp only [this]
theorem qAt_succ {k : Nat} (hk : k < p.length) (hlt : ∀ i ∈ p, i < is.length) (hN : kd (opAt is p k) = 2) : qAt is p (k + 1) = qAt is p k + 1 := by
  have h1 : p[k]? = some p[k] := by simp [hk]
  unfold qAt
  rw [List.take_add_one, h1, Option.toList_some, cntN_append]
  have h2 := kdAt_op (is := is) h1 (hlt _ (List.getElem_mem hk))
  simp only [cntN, h2, hN]
  rfl
theorem qAt_mono {k j : Nat} (h : k ≤ j) : qAt is p k ≤ qAt is p j := by
  unfold qAt
  have e : p.take j = p.take k ++ (p.take j).drop k := by
    have := (List.take_append_drop k (p.take j)).symm
    rw [List.take_take, Nat.min_eq_left h] at this
    exact this
  rw [e, cntN_append]; omega
theorem qAt_lt {k j : Nat} (h : k < j) (hj : j ≤ p.length) (hlt : ∀ i ∈ p, i < is.length) (hN : kd (opAt is p k) = 2) : qAt is p k < qAt is p j := by
  have := qAt_succ (show k < p.length by omega) hlt hN
  have := qAt_mono (is := is) (p := p) (show k + 1 ≤ j by omega)
  omega
theorem qAt_all : qAt is p p.length = cntN is p := by unfold qAt; rw [List.take_length]

/-- where an operation stands in the one order -/
def posIn (p : List Nat) (i : Nat) : Nat := p.idxOf i
theorem posIn_get {i : Nat} (h : i ∈ p) : p[posIn p i]? = some i := by
  unfold posIn
  have := List.idxOf_lt_length_iff.2 h
  rw [List.getElem?_eq_getElem this, List.getElem_idxOf]
theorem posIn_lt {i : Nat} (h : i ∈ p) : posIn p i < p.length := List.idxOf_lt_length_iff.2 h
theorem get_inj (hn : p.Nodup) {k j i : Nat} (h1 : p[k]? = some i) (h2 : p[j]? = some i) : k = j := by
  have a1 := List.getElem?_eq_some_iff.1 h1
  have a2 := List.getElem?_eq_some_iff.1 h2
  obtain ⟨b1, c1⟩ := a1
  obtain ⟨b2, c2⟩ := a2
  have hp := List.pairwise_iff_getElem.1 hn
  rcases Nat.lt_trichotomy k j with h | h | h
  · exact absurd (c1.trans c2.symm) (hp k j b1 b2 h)
  · exact h
  · exact absurd (c2.trans c1.symm) (hp j k b2 b1 h)

/-- any order that the edges allow -/
theorem any_order {v : Nat → AV} {r : Nat → Pos} {x : Nat → Option AB} {rs : List (List (Option Pos))} {st : Nat → AT × AH} (N : Nat) (hN : ops.size = N) (hlen : p.length = N) (hnd : p.Nodup) (hlt : ∀ i ∈ p, i < N) (hisl : is.length = N)
    (tr : Trace call p.length (opAt is p) (qAt is p) (befAt (ancT ops N) p) st v r x rs) :
    ∀ (l done : List Nat) (D : Nat → Bool), Valid .any ops done l → (∀ i ∈ done, ∀ j ∈ dirs ops i, j ∈ done) → (∀ k, k < p.length → (D k = true ↔ ∃ i ∈ done, p[k]? = some i)) →
      ∃ D', (∀ k, k < p.length → (D' k = true ↔ ∃ i, (i ∈ done ∨ i ∈ l) ∧ p[k]? = some i)) ∧
      execIxD call is (fun i => qOf (opAt is p) (qAt is p) (posIn p i)) l (TD (opAt is p) v D (st 0).1 p.length) (HD (opAt is p) st r x D (st 0).2 p.length) =
        some (TD (opAt is p) v D' (st 0).1 p.length, HD (opAt is p) st r x D' (st 0).2 p.length)
  | [], done, D, _, _, hD => ⟨D, fun k hk => (hD k hk).trans (by simp), rfl⟩
  | j :: l, done, D, hv, hcl, hD => by
    obtain ⟨hjd, ⟨o, ho, hall⟩, hv2⟩ := hv
    have hjN : j < N := by rw [← hN]; exact (Array.getElem?_eq_some_iff.1 ho).1
    have hjp : j ∈ p := nodup_all hnd hlt hlen j hjN
    have hk := posIn_get hjp
    have hkl := posIn_lt hjp
    have hja : is[j]? = some (opAt is p (posIn p j)) := by
      unfold opAt; rw [hk]
      have : is[j]? = some (is[j]'(by omega)) := by simp
      simp only [this]
    have hdirs : ∀ i ∈ dirs ops j, i ∈ done := by
      intro i hi
      simp only [dirs, ho, List.mem_map, List.mem_filter, Array.mem_toList_iff] at hi
      obtain ⟨e, ⟨he, hb⟩, rfl⟩ := hi
      exact hall e he hb
    have hanc := anc_closed ops hcl N
    have hDf : D (posIn p j) = false := by
      cases h : D (posIn p j) with
      | false => rfl
      | true =>
        obtain ⟨i, hi, h2⟩ := (hD _ hkl).1 h
        rw [hk] at h2; cases h2; exact absurd hi hjd
    have hclD : ∀ j', j' < p.length → D j' = true → ∀ k, k < p.length → befAt (ancT ops N) p k j' → D k = true := by
      rintro j' hj' hDj k hk' ⟨i, i', h1, h2, h3⟩
      obtain ⟨i2, hi2, h4⟩ := (hD j' hj').1 hDj
      rw [h2] at h4; cases h4
      exact (hD k hk').2 ⟨i, hanc i' (hlt i' (List.mem_of_getElem? h2)) (hcl i' hi2) i h3, h1⟩
    have hbi : ∀ k, k < p.length → befAt (ancT ops N) p k (posIn p j) → D k = true := by
      rintro k hk' ⟨i, i', h1, h2, h3⟩
      rw [hk] at h2; cases h2
      exact (hD k hk').2 ⟨i, hanc j hjN hdirs i h3, h1⟩
    have hstep := tr.step hkl hDf hclD hbi
    obtain ⟨D', d1, d2⟩ := any_order N hN hlen hnd hlt hisl tr l (j :: done) (with1 D (posIn p j)) hv2 (fun i hi i' hi' => by
        rcases List.mem_cons.1 hi with rfl | hi
        · exact List.mem_cons_of_mem _ (hdirs i' hi')
        · exact List.mem_cons_of_mem _ (hcl i hi i' hi')) (fun k hk' => by
        by_cases he : k = posIn p j
        · subst he
          simp only [with1_eq, true_iff]
          exact ⟨j, List.mem_cons_self .., hk⟩
        · rw [with1_ne he, hD k hk']
          constructor
          · rintro ⟨i, hi, h⟩; exact ⟨i, List.mem_cons_of_mem _ hi, h⟩
          · rintro ⟨i, hi, h⟩
            rcases List.mem_cons.1 hi with rfl | hi
            · exact absurd (get_inj hnd h hk) he
            · exact ⟨i, hi, h⟩)
    refine ⟨D', fun k hk' => (d1 k hk').trans ?_, ?_⟩
    · constructor
      · rintro ⟨i, hi, h⟩
        refine ⟨i, ?_, h⟩
        rcases hi with hi | hi
        · rcases List.mem_cons.1 hi with rfl | hi
          · exact .inr (List.mem_cons_self ..)
          · exact .inl hi
        · exact .inr (List.mem_cons_of_mem _ hi)
      · rintro ⟨i, hi, h⟩
        refine ⟨i, ?_, h⟩
        rcases hi with hi | hi
        · exact .inl (List.mem_cons_of_mem _ hi)
        · rcases List.mem_cons.1 hi with rfl | hi
          · exact .inl (List.mem_cons_self ..)
          · exact .inr hi
    · simp only [execIxD, hja]
      rw [hstep]
      exact d2

theorem TD_none (a : Nat → AI) (v : Nat → AV) (T : AT) : ∀ k, TD a v (fun _ => false) T k = T
  | 0 => rfl
  | k + 1 => by simp only [TD, Bool.false_eq_true, if_false]; exact TD_none a v T k
theorem HD_none (a : Nat → AI) (st : Nat → AT × AH) (r : Nat → Pos) (x : Nat → Option AB) (H : AH) : ∀ k, HD a st r x (fun _ => false) H k = H
  | 0 => rfl
  | k + 1 => by simp only [HD, Bool.false_eq_true, if_false]; exact HD_none a st r x H k
theorem TD_congr {a : Nat → AI} {v : Nat → AV} {T : AT} {D D' : Nat → Bool} : ∀ k, (∀ j, j < k → D j = D' j) → TD a v D T k = TD a v D' T k
  | 0, _ => rfl
  | k + 1, h => by simp only [TD, h k (by omega), TD_congr k fun j hj => h j (by omega)]
theorem HD_congr {a : Nat → AI} {st : Nat → AT × AH} {r : Nat → Pos} {x : Nat → Option AB} {H : AH} {D D' : Nat → Bool} : ∀ k, (∀ j, j < k → D j = D' j) → HD a st r x D H k = HD a st r x D' H k
  | 0, _ => rfl
  | k + 1, h => by simp only [HD, h k (by omega), HD_congr k fun j hj => h j (by omega)]
end
end Go.AM
