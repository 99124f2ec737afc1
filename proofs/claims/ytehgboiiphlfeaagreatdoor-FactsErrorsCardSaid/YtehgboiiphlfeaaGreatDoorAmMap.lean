/- THE ABSTRACT MACHINE: maps. -/
import Derived.Test.YtehgboiiphlfeaaGreatDoorAmVal3
namespace Go.AM
open Go

section
variable {P : Program} {σ : Val} {w : World}

/-! ### keys that are equal are one value -/
theorem map_toNat_inj : ∀ {x y : List UInt8}, x.map (·.toNat) = y.map (·.toNat) → x = y
  | [], [], _ => rfl
  | [], _ :: _, h => by simp at h
  | _ :: _, [], h => by simp at h
  | a :: x, b :: y, h => by
    simp only [List.map_cons, List.cons.injEq] at h
    rw [toNat_inj8.1 h.1, map_toNat_inj h.2]
theorem strEq_true : ∀ {x y : List Nat}, strEq x y = true → x = y
  | [], [], _ => rfl
  | [], _ :: _, h => by simp [strEq] at h
  | _ :: _, [], h => by simp [strEq] at h
  | a :: x, b :: y, h => by
    simp only [strEq, Bool.and_eq_true] at h
    rw [Nat.eq_of_beq_eq_true h.1, strEq_true h.2]
theorem str_unique {l : List Nat} {v u : Value} (h1 : VRel σ (.str l) v) (h2 : VRel σ (.str l) u) : v = u := by
  obtain ⟨s1, rfl, e1⟩ := str_of h1
  obtain ⟨s2, rfl, e2⟩ := str_of h2
  have : s1.data.toList = s2.data.toList := map_toNat_inj (e1.trans e2.symm)
  obtain ⟨⟨d1⟩⟩ := s1
  obtain ⟨⟨d2⟩⟩ := s2
  simp only at this
  rw [this]

/-- a scalar's way of being held against others -/
def EK.scalar : EK → Bool
  | .b | .i | .s => true
  | _ => false

theorem scalar_same {k : EK} (hs : k.scalar = true) {x y : AV} (h : eqK k x y = some true) {a c : Value} (hx : VRel σ x a) (hy : VRel σ y c) : a = c ∧ ∀ n, Instr.sameBits n a a = true := by
  cases k <;> simp [EK.scalar] at hs
  · obtain ⟨n, m, rfl, rfl, e⟩ := eqK_scalar_bool h
    have := bool_of hx; subst this
    have := bool_of hy; subst this
    simp at e; subst e
    exact ⟨rfl, fun n => by cases n <;> simp [Instr.sameBits]⟩
  · obtain ⟨k', n, m, rfl, rfl, e⟩ := eqK_scalar_int h
    have := int_of hx; subst this
    have := int_of hy; subst this
    simp at e; subst e
    exact ⟨rfl, fun n => by cases n <;> simp [Instr.sameBits]⟩
  · obtain ⟨n, m, rfl, rfl, e⟩ := eqK_scalar_str h
    have := strEq_true e.symm
    subst this
    have e2 := str_unique hx hy
    refine ⟨e2, fun n => ?_⟩
    obtain ⟨s, rfl, _⟩ := str_of hx
    cases n <;> simp [Instr.sameBits, beq_toListBytes]

theorem flat_scalar : ∀ (d : Nat) (t : TypeId) (ks : List EK), flat P d t = some ks → ∀ k ∈ ks, k.scalar = true
  | 0, t, ks, h => by simp [flat] at h
  | d + 1, t, ks, h => by
    simp only [flat] at h
    have hf : ∀ (fs : List Field) (o : Nat) (ks : List EK), flat.fields P (flat P d) fs o = some ks → ∀ k ∈ ks, k.scalar = true := by
      intro fs
      induction fs with
      | nil => intro o ks h; simp [flat.fields] at h; subst h; simp
      | cons f fs ih =>
        intro o ks h
        simp only [flat.fields] at h
        split at h
        · rename_i k1 hk1
          split at h
          · split at h
            · rename_i k2 hk2
              simp at h; subst h
              intro k hk
              rcases List.mem_append.1 hk with h' | h'
              · exact flat_scalar d f.type k1 hk1 k h'
              · exact ih _ _ hk2 k h'
            · cases h
          · cases h
        · cases h
    split at h
    · simp at h; subst h; simp [EK.scalar]
    · simp at h; subst h; simp [EK.scalar]
    · simp at h; subst h; simp [EK.scalar]
    · split at h
      · cases h
      · split at h
        · rename_i ks' hks
          split at h
          · simp at h; subst h; exact hf _ _ _ hks
          · cases h
        · cases h
    · cases h

theorem flat_same : ∀ {ks : List EK}, (∀ k ∈ ks, k.scalar = true) → ∀ {l m : List AV}, eqKs ks l m = some true → ∀ {vs us : List Value}, VRelL σ l vs → VRelL σ m us →
    vs = us ∧ ∀ n, ∀ x ∈ vs.zip vs, Instr.sameBits n x.1 x.2 = true
  | [], _, [], [], _, vs, us, h1, h2 => by simp only [VRelL] at h1 h2; subst h1; subst h2; simp
  | [], _, _ :: _, m, h, vs, us, _, _ => by cases m <;> simp [eqKs] at h
  | [], _, [], _ :: _, h, vs, us, _, _ => by simp [eqKs] at h
  | k :: ks, _, [], m, h, vs, us, _, _ => by simp [eqKs] at h
  | k :: ks, _, x :: l, [], h, vs, us, _, _ => by simp [eqKs] at h
  | k :: ks, hk, x :: l, y :: m, h, vs, us, h1, h2 => by
    simp only [eqKs] at h
    split at h
    · rename_i hkk
      simp only [VRelL] at h1 h2
      obtain ⟨v, r, rfl, a1, a2⟩ := h1
      obtain ⟨u, s, rfl, b1, b2⟩ := h2
      obtain ⟨e1, e2⟩ := flat_same (fun k hk' => hk k (List.mem_cons_of_mem _ hk')) h a2 b2
      obtain ⟨e3, e4⟩ := scalar_same (hk k (List.mem_cons_self ..)) hkk a1 b1
      subst e1; subst e3
      refine ⟨rfl, fun n x hx => ?_⟩
      simp only [List.zip_cons_cons, List.mem_cons] at hx
      rcases hx with rfl | hx
      · exact e4 n
      · exact e2 n x hx
    · split at h
      · simp at h
      · cases h
    · cases h

/-- keys that are equal are one value -/
theorem key_same {t : TypeId} {ek : EK} (hk : ekKey P t = some ek) {x y : AV} (h : eqK ek x y = some true) {a c : Value} (hx : VRel σ x a) (hy : VRel σ y c) : a = c ∧ ∀ n, Instr.sameBits (n + 1) a a = true := by
  unfold ekKey at hk
  split at hk
  · cases hk
    obtain ⟨e1, e2⟩ := scalar_same (by rfl) h hx hy
    exact ⟨e1, fun n => e2 _⟩
  · cases hk
    obtain ⟨e1, e2⟩ := scalar_same (by rfl) h hx hy
    exact ⟨e1, fun n => e2 _⟩
  · cases hk
    obtain ⟨e1, e2⟩ := scalar_same (by rfl) h hx hy
    exact ⟨e1, fun n => e2 _⟩
  · cases hf : flat P 8 t with
    | none => simp [hf] at hk
    | some ks =>
      simp [hf] at hk
      subst hk
      cases x <;> cases y <;> simp only [eqK] at h <;> (try cases h)
      rename_i l m
      simp only [VRel] at hx hy
      obtain ⟨vs, rfl, _, hx2⟩ := hx
      obtain ⟨us, rfl, _, hy2⟩ := hy
      obtain ⟨e1, e2⟩ := flat_same (flat_scalar 8 t ks hf) h hx2 hy2
      have e3 : vs = us := Array.ext' e1
      subst e3
      refine ⟨rfl, fun n => ?_⟩
      simp only [Instr.sameBits, beq_self_eq_true, Bool.true_and]
      exact List.all_eq_true.2 fun x hx => e2 n x hx
  · cases hk

/-- what `==` gives on keys -/
theorem key_equal {t : TypeId} {ek : EK} (hk : ekKey P t = some ek) {x y : AV} {b : Bool} (h : eqK ek x y = some b) {a c : Value} (hx : VRel σ x a) (hy : VRel σ y c) :
    (Op.equal t a c).run P w = .ok b w ∧ (ek.scalar = true → ∃ d, P.underlying t = some d ∧ Instr.sameNow d a c = some b) ∧ (ek.scalar = false → ∃ fs, P.underlying t = some (.struct fs)) := by
  unfold ekKey at hk
  split at hk
  · rename_i hu
    cases hk
    obtain ⟨n, m, rfl, rfl, rfl⟩ := eqK_scalar_bool h
    have := bool_of hx; subst this
    have := bool_of hy; subst this
    exact ⟨run_equal_bool w t n m hu, fun _ => ⟨_, hu, by simp [Instr.sameNow]⟩, fun h => by cases h⟩
  · rename_i k hu
    cases hk
    obtain ⟨k', n, m, rfl, rfl, rfl⟩ := eqK_scalar_int h
    have := int_of hx; subst this
    have := int_of hy; subst this
    exact ⟨run_equalIn_int w 9999 t _ _ _ _ hu, fun _ => ⟨_, hu, by simp [Instr.sameNow]⟩, fun h => by cases h⟩
  · rename_i hu
    cases hk
    obtain ⟨n, m, rfl, rfl, rfl⟩ := eqK_scalar_str h
    obtain ⟨s1, s2, rfl, rfl, e⟩ := eq_str_run hx hy
    exact ⟨by rw [e]; exact run_equalIn_string w 9999 t _ _ hu, fun _ => ⟨_, hu, by rw [e, ← beq_toListBytes]; simp [Instr.sameNow]⟩, fun h => by cases h⟩
  · rename_i fs hu
    cases hf : flat P 8 t with
    | none => simp [hf] at hk
    | some ks =>
      simp [hf] at hk
      subst hk
      cases x <;> cases y <;> simp only [eqK] at h <;> (try cases h)
      rename_i l m
      simp only [VRel] at hx hy
      obtain ⟨vs, rfl, _, hx2⟩ := hx
      obtain ⟨us, rfl, _, hy2⟩ := hy
      refine ⟨?_, fun h => (by cases h), fun _ => ⟨fs, hu⟩⟩
      have hfo : P.fieldsOf t = fs := by simp [Program.fieldsOf, hu]
      have hu2 : P.underlying t = some (.struct (P.fieldsOf t)) := by rw [hfo]; exact hu
      simp only [flat, hu] at hf
      split at hf
      · cases hf
      · rename_i hst
        split at hf
        · rename_i ks' hks
          split at hf
          · rename_i hsz
            simp at hf; subst hf
            show (Op.equalIn (9999 + 1) t (.agg vs) (.agg us)).run P w = _
            rw [run_equalIn_struct w 9999 t _ _ hu2 (by simpa using hst), hfo]
            exact flat_fields_eq (flat_eq 7) fs.toList 0 ks' hks 9999 (by omega) w _ _ l m b _ _ h hx2 hy2 (fun i hi => by simp) (fun i hi => by simp)
          · cases hf
        · cases hf
  · cases hk

/-- where the key stands -/
def idxE (ek : EK) (k : AV) : List (AV × AV) → Option Nat
  | [] => none
  | (a, _) :: l => match eqK ek k a with
    | some true => some 0
    | _ => (idxE ek k l).map (· + 1)

theorem find_scan {t : TypeId} {ek : EK} (hk : ekKey P t = some ek) {k : AV} {kv : Value} (hkv : VRel σ k kv) : ∀ (es : List (AV × AV)) (ms : List MapEntry) (r : Option AV) (j : Nat), EntsRel σ es ms → findE ek k es = some r →
    (match r with
     | none => (Instr.findAsking t kv ms j).run P w = .ok none w ∧ (ek.scalar = true → ∃ d, P.underlying t = some d ∧ Instr.findNow d kv ms j = some none) ∧ idxE ek k es = none
     | some v => ∃ i m a, (Instr.findAsking t kv ms j).run P w = .ok (some (j + i, m.val)) w ∧ (ek.scalar = true → ∃ d, P.underlying t = some d ∧ Instr.findNow d kv ms j = some (some (j + i, m.val))) ∧
        idxE ek k es = some i ∧ ms[i]? = some m ∧ es[i]? = some (a, v) ∧ VRel σ v m.val ∧ m.key = kv)
  | [], ms, r, j, hes, h => by
    simp only [EntsRel] at hes
    subst hes
    simp only [findE, Option.some.injEq] at h
    subst h
    have hd : ∃ d, P.underlying t = some d := by
      unfold ekKey at hk
      split at hk <;> first | exact ⟨_, by assumption⟩ | cases hk
    obtain ⟨d, hd⟩ := hd
    exact ⟨by simp [Instr.findAsking], fun _ => ⟨d, hd, by simp [Instr.findNow]⟩, rfl⟩
  | (a, v) :: es, ms, r, j, hes, h => by
    simp only [EntsRel] at hes
    obtain ⟨m, rest, rfl, ⟨e1, e2⟩, e3⟩ := hes
    simp only [findE] at h
    split at h
    · rename_i hq
      simp at h; subst h
      obtain ⟨q1, q2, _⟩ := key_equal (w := w) hk hq hkv e1
      obtain ⟨s1, _⟩ := key_same hk hq hkv e1
      refine ⟨0, m, a, by simp [Instr.findAsking, q1], fun hs => ?_, by simp [idxE, hq], rfl, rfl, e2, s1.symm⟩
      obtain ⟨d, d1, d2⟩ := q2 hs
      exact ⟨d, d1, by simp [Instr.findNow, d2]⟩
    · rename_i hq
      obtain ⟨q1, q2, _⟩ := key_equal (w := w) hk hq hkv e1
      have ih := find_scan hk hkv es rest r (j + 1) e3 h
      cases r with
      | none =>
        obtain ⟨i1, i2, i3⟩ := ih
        refine ⟨by simp [Instr.findAsking, q1, i1], fun hs => ?_, by simp [idxE, hq, i3]⟩
        obtain ⟨d, d1, d2⟩ := q2 hs
        obtain ⟨d', d1', d2'⟩ := i2 hs
        rw [d1] at d1'; cases d1'
        exact ⟨d, d1, by simp [Instr.findNow, d2, d2']⟩
      | some v' =>
        obtain ⟨i, m', a', i1, i2, i3, i4, i5, i6, i7⟩ := ih
        refine ⟨i + 1, m', a', by simp [Instr.findAsking, q1, i1]; omega, fun hs => ?_, by simp [idxE, hq, i3], by simpa using i4, by simpa using i5, i6, i7⟩
        obtain ⟨d, d1, d2⟩ := q2 hs
        obtain ⟨d', d1', d2'⟩ := i2 hs
        rw [d1] at d1'; cases d1'
        refine ⟨d, d1, ?_⟩
        have : j + (i + 1) = j + 1 + i := by omega
        simp [Instr.findNow, d2, d2', this]
    · cases h

/-- the model's search -/
theorem findKey_run {t : TypeId} {ek : EK} (hk : ekKey P t = some ek) {k : AV} {kv : Value} (hkv : VRel σ k kv) {es : List (AV × AV)} {ms : List MapEntry} {r : Option AV} (hes : EntsRel σ es ms) (h : findE ek k es = some r) :
    (match r with
     | none => (Instr.findKey t kv ms).run P w = .ok none w ∧ idxE ek k es = none
     | some v => ∃ i m a, (Instr.findKey t kv ms).run P w = .ok (some (i, m.val)) w ∧ idxE ek k es = some i ∧ ms[i]? = some m ∧ es[i]? = some (a, v) ∧ VRel σ v m.val ∧ m.key = kv) := by
  have hs := find_scan (w := w) hk hkv es ms r 0 hes h
  by_cases hsc : ek.scalar = true
  · cases r with
    | none =>
      obtain ⟨_, i2, i3⟩ := hs
      obtain ⟨d, d1, d2⟩ := i2 hsc
      exact ⟨by simp [Instr.findKey, run_underlying d1, d2], i3⟩
    | some v =>
      obtain ⟨i, m, a, _, i2, i3, i4, i5, i6, i7⟩ := hs
      obtain ⟨d, d1, d2⟩ := i2 hsc
      simp only [Nat.zero_add] at d2
      exact ⟨i, m, a, by simp [Instr.findKey, run_underlying d1, d2], i3, i4, i5, i6, i7⟩
  · have hst : ∃ fs, P.underlying t = some (.struct fs) := by
      unfold ekKey at hk
      split at hk
      · cases hk; simp [EK.scalar] at hsc
      · cases hk; simp [EK.scalar] at hsc
      · cases hk; simp [EK.scalar] at hsc
      · exact ⟨_, by assumption⟩
      · cases hk
    obtain ⟨fs, hu⟩ := hst
    have hnow : ms = [] ∨ Instr.findNow (.struct fs) kv ms 0 = none := by
      cases ms with
      | nil => exact .inl rfl
      | cons m ms => exact .inr (by simp [Instr.findNow, Instr.sameNow])
    cases r with
    | none =>
      obtain ⟨i1, _, i3⟩ := hs
      refine ⟨?_, i3⟩
      rcases hnow with rfl | hn
      · simp [Instr.findKey, run_underlying hu, Instr.findNow]
      · simp [Instr.findKey, run_underlying hu, hn, i1]
    | some v =>
      obtain ⟨i, m, a, i1, _, i3, i4, i5, i6, i7⟩ := hs
      refine ⟨i, m, a, ?_, i3, i4, i5, i6, i7⟩
      rcases hnow with rfl | hn
      · simp at i4
      · simp only [Nat.zero_add] at i1
        simp [Instr.findKey, run_underlying hu, hn, i1]

/-! ### may the key be asked for? -/
def CheckAt (P : Program) (d : Nat) (t : TypeId) (ks : List EK) : Prop :=
  ∀ (D : Nat), d ≤ D → ∀ (w : World) (xs : Array Value) (o : Nat) (e : Bool), o + ks.length ≤ xs.size → (∀ i, i < ks.length → ∀ v, xs[o + i]? = some v → v.oneCell' = true) →
    ∃ a, (part t xs o).run P w = .ok a w ∧ (Instr.checkKey e D t a).run P w = .ok () w

theorem checkKey_scalar {t : TypeId} {d : TypeDesc} (hu : P.underlying t = some d) (hd : d = .bool ∨ (∃ k, d = .int k) ∨ d = .string) (D : Nat) (e : Bool) (v : Value) : (Instr.checkKey e (D + 1) t v).run P w = .ok () w := by
  rcases hd with rfl | ⟨k, rfl⟩ | rfl <;> simp [Instr.checkKey, run_underlying hu]

theorem checkKey_fields {d : Nat} (ih : ∀ t ks, flat P d t = some ks → CheckAt P d t ks) (e : Bool) (D : Nat) (hD : d ≤ D) (xs : Array Value) : ∀ (fs : List Field) (o : Nat) (ks : List EK), flat.fields P (flat P d) fs o = some ks →
    o + ks.length ≤ xs.size → (∀ i, i < ks.length → ∀ v, xs[o + i]? = some v → v.oneCell' = true) → ∀ (w : World),
    (forIn (m := Sem) fs PUnit.unit fun f _ => do
      if f.name ≠ "_" then Instr.checkKey e D f.type (← part f.type xs f.offset)
      pure (ForInStep.yield PUnit.unit)).run P w = .ok PUnit.unit w
  | [], o, ks, _, _, _, w => by simp
  | f :: fs, o, ks, h, hsz, h1, w => by
    simp only [flat.fields] at h
    split at h
    · rename_i k1 hk1
      split at h
      · rename_i hc
        split at h
        · rename_i k2 hk2
          simp at h; subst h
          obtain ⟨c1, c2, c3⟩ := hc
          simp only [List.length_append] at hsz h1
          obtain ⟨a, r1, r2⟩ := ih f.type k1 hk1 D hD w xs o e (by omega) (fun i hi => h1 i (by omega))
          have rest := checkKey_fields ih e D hD xs fs (o + k1.length) k2 hk2 (by omega) (fun i hi v hv => h1 (k1.length + i) (by omega) v (by rw [← Nat.add_assoc]; exact hv)) w
          subst c2
          simp only [List.forIn_cons, Sem.run_bind, c1, ne_eq, not_false_eq_true, if_true, r1, r2, Result.andThen_ok, Sem.run_pure]
          exact rest
        · cases h
      · cases h
    · cases h

theorem checkKey_flat : ∀ (d : Nat) (t : TypeId) (ks : List EK), flat P d t = some ks → CheckAt P d t ks
  | 0, t, ks, h => by simp [flat] at h
  | d + 1, t, ks, h => by
    intro D hD w xs o e hsz h1
    obtain ⟨D, rfl⟩ : ∃ n, D = n + 1 := ⟨D - 1, by omega⟩
    simp only [flat] at h
    have one : ∀ {dd : TypeDesc}, P.underlying t = some dd → dd.isRow = false → 0 < ks.length → ∃ a, (part t xs o).run P w = .ok a w := fun hu hr hl => by
      have : o < xs.size := by omega
      exact ⟨xs[o], run_part_one hu hr xs o _ (by simp [this]) w⟩
    split at h
    · rename_i hu
      simp at h; subst h
      obtain ⟨a, ha⟩ := one hu rfl (by simp)
      exact ⟨a, ha, checkKey_scalar hu (.inl rfl) D e a⟩
    · rename_i k hu
      simp at h; subst h
      obtain ⟨a, ha⟩ := one hu rfl (by simp)
      exact ⟨a, ha, checkKey_scalar hu (.inr (.inl ⟨k, rfl⟩)) D e a⟩
    · rename_i hu
      simp at h; subst h
      obtain ⟨a, ha⟩ := one hu rfl (by simp)
      exact ⟨a, ha, checkKey_scalar hu (.inr (.inr rfl)) D e a⟩
    · rename_i fs hu
      split at h
      · cases h
      · split at h
        · rename_i ks' hks
          split at h
          · rename_i hsz'
            simp at h; subst h
            have pa : (part t xs o).run P w = .ok (.agg (xs.extract o (o + ks'.length))) w := by
              simp [part, isAgg, run_underlying hu w, run_size (w := w) hsz']
            refine ⟨_, pa, ?_⟩
            have := checkKey_fields (checkKey_flat d) e D (by omega) (xs.extract o (o + ks'.length)) fs.toList 0 ks' hks (by simp; omega) (fun i hi v hv => by
              rw [Array.getElem?_extract] at hv
              split at hv
              · refine h1 i hi v ?_
                rw [← hv]; congr 1; omega
              · cases hv) w
            simp only [Instr.checkKey, Sem.run_bind, run_underlying hu, Result.andThen_ok]
            rw [← Array.forIn_toList]
            simp at this ⊢
            rw [this]
            rfl
          · cases h
        · cases h
    · cases h

theorem checkKey_run {t : TypeId} {ek : EK} (hk : ekKey P t = some ek) {k : AV} {kv : Value} (hkv : VRel σ k kv) (hq : okKey ek k = true) (e : Bool) (D : Nat) (hD : 8 ≤ D) : (Instr.checkKey e (D + 1) t kv).run P w = .ok () w := by
  unfold ekKey at hk
  split at hk
  · rename_i hu; exact checkKey_scalar hu (.inl rfl) D e kv
  · rename_i k hu; exact checkKey_scalar hu (.inr (.inl ⟨k, rfl⟩)) D e kv
  · rename_i hu; exact checkKey_scalar hu (.inr (.inr rfl)) D e kv
  · rename_i fs hu
    cases hf : flat P 8 t with
    | none => simp [hf] at hk
    | some ks =>
      simp [hf] at hk
      subst hk
      cases k <;> simp only [okKey] at hq <;> (try cases hq)
      rename_i l
      have el : l.length = ks.length := Nat.eq_of_beq_eq_true hq
      simp only [VRel] at hkv
      obtain ⟨vs, rfl, h1, h2⟩ := hkv
      have hl := h2.length
      simp only [Array.length_toList] at hl
      simp only [flat, hu] at hf
      split at hf
      · cases hf
      · split at hf
        · rename_i ks' hks
          split at hf
          · simp at hf; subst hf
            have := checkKey_fields (checkKey_flat 7) e D (by omega) vs fs.toList 0 ks' hks (by omega) (fun i hi v hv => h1 v (by
              simp only [Nat.zero_add] at hv
              exact List.mem_of_getElem? (by simpa using hv))) w
            simp only [Instr.checkKey, Sem.run_bind, run_underlying hu, Result.andThen_ok]
            rw [← Array.forIn_toList]
            simp at this ⊢
            rw [this]
            rfl
          · cases hf
        · cases hf
  · cases hk
end
end Go.AM
