/- THE ABSTRACT MACHINE: a region's operations in any order that the edges allow. -/
import Derived.Orders
import Derived.Test.YtehgboiiphlfeaaGreatDoorAmDraw1
namespace Go.AM
open Go

/-- an order that the edges of a mode allow -/
def Valid (m : Region.Mode) (ops : Array Oper) : List Nat → List Nat → Prop
  | _, [] => True
  | done, j :: l => j ∉ done ∧ (∃ o, ops[j]? = some o ∧ ∀ e ∈ o.after, Region.binds m e = true → e.on ∈ done) ∧ Valid m ops (j :: done) l

section
variable {m : Region.Mode} {ops : Array Oper}

theorem Valid.out : ∀ {l done : List Nat}, Valid m ops done l → ∀ i ∈ l, i ∉ done
  | j :: l, done, h, i, hi => by
    rcases List.mem_cons.1 hi with rfl | hi
    · exact h.1
    · intro hd
      exact Valid.out h.2.2 i hi (List.mem_cons_of_mem _ hd)
theorem Valid.nodup : ∀ {l done : List Nat}, Valid m ops done l → l.Nodup
  | [], _, _ => List.nodup_nil
  | j :: l, done, h => List.nodup_cons.2 ⟨fun hj => Valid.out h.2.2 j hj (List.mem_cons_self ..), Valid.nodup h.2.2⟩
theorem Valid.lt : ∀ {l done : List Nat}, Valid m ops done l → ∀ i ∈ l, i < ops.size
  | j :: l, done, h, i, hi => by
    rcases List.mem_cons.1 hi with rfl | hi
    · obtain ⟨o, ho, _⟩ := h.2.1
      exact (Array.getElem?_eq_some_iff.1 ho).1
    · exact Valid.lt h.2.2 i hi

theorem nodup_sub_length : ∀ {a b : List Nat}, a.Nodup → (∀ x ∈ a, x ∈ b) → a.length ≤ b.length
  | [], _, _, _ => Nat.zero_le _
  | x :: a, b, h, hs => by
    obtain ⟨h1, h2⟩ := List.nodup_cons.1 h
    have hx := hs x (List.mem_cons_self ..)
    have := nodup_sub_length (b := b.erase x) h2 fun y hy => by
      have hne : y ≠ x := fun e => h1 (e ▸ hy)
      exact (List.mem_erase_of_ne hne).2 (hs y (List.mem_cons_of_mem _ hy))
    rw [List.length_erase_of_mem hx] at this
    have := List.length_pos_of_mem hx
    simp only [List.length_cons]
    omega

theorem nodup_all {l : List Nat} {n : Nat} (h : l.Nodup) (hlt : ∀ i ∈ l, i < n) (hlen : l.length = n) (i : Nat) (hi : i < n) : i ∈ l := by
  refine Classical.byContradiction fun hn => ?_
  have := nodup_sub_length (a := i :: l) (b := List.range n) (List.nodup_cons.2 ⟨hn, h⟩) fun x hx => by
    rcases List.mem_cons.1 hx with rfl | hx
    · exact List.mem_range.2 hi
    · exact List.mem_range.2 (hlt x hx)
  simp at this
  omega

/-- what is listed -/
def Listed (ops : Array Oper) (listed : Array Bool) (done : List Nat) : Prop := listed.size = ops.size ∧ (∀ i, i < ops.size → (listed.getD i true = true ↔ i ∈ done)) ∧ (∀ i, i < ops.size → (listed.getD i false = true ↔ i ∈ done))

theorem Listed.set {listed : Array Bool} {done : List Nat} (h : Listed ops listed done) {j : Nat} (hj : j < ops.size) : Listed ops (listed.setIfInBounds j true) (j :: done) := by
  obtain ⟨h1, h2, h3⟩ := h
  refine ⟨by simpa using h1, fun i hi => ?_, fun i hi => ?_⟩
  · by_cases hij : j = i
    · subst hij
      simp [Array.getD, h1, hj]
    · rw [getD_set_ne true hij, h2 i hi]
      simp [Ne.symm hij]
  · by_cases hij : j = i
    · subst hij
      simp [Array.getD, h1, hj]
    · rw [getD_set_ne false hij, h3 i hi]
      simp [Ne.symm hij]

theorem go_step (fuel t : Nat) (listed : Array Bool) : Region.linearise.go m ops (fuel + 1) t listed [] = match (Region.ready m ops listed)[t % (Region.ready m ops listed).length]? with
    | some i => i :: Region.linearise.go m ops fuel (t / (Region.ready m ops listed).length) (listed.setIfInBounds i true) []
    | none => [] := by
  simp only [Region.linearise.go]
  change (match (Region.ready m ops listed)[t % (Region.ready m ops listed).length]? with
      | some i => Region.linearise.go m ops fuel (t / (Region.ready m ops listed).length) (listed.setIfInBounds i true) [i]
      | none => [].reverse) = _
  split
  · rw [linearise_go_acc]; rfl
  · rfl

theorem go_valid : ∀ (fuel t : Nat) (listed : Array Bool) (done : List Nat), Listed ops listed done → (∀ e ∈ ops.toList.flatMap (·.after.toList), e.on < ops.size) → Valid m ops done (Region.linearise.go m ops fuel t listed [])
  | 0, _, _, _, _, _ => by simp [Region.linearise.go, Valid]
  | fuel + 1, t, listed, done, h, hlt => by
    rw [go_step]
    split
    · rename_i i hi
      have hm := List.mem_of_getElem? hi
      obtain ⟨h0, o, ho, hall⟩ := mem_ready.1 hm
      have his := (Array.getElem?_eq_some_iff.1 ho).1
      refine ⟨fun hd => ?_, ⟨o, ho, fun e he hb => ?_⟩, go_valid fuel _ _ _ (h.set his) hlt⟩
      · rw [(h.2.1 i his).2 hd] at h0; cases h0
      · refine (h.2.2 e.on (hlt e ?_)).1 (hall e he hb)
        simp only [List.mem_flatMap, Array.mem_toList_iff]
        exact ⟨o, Array.mem_of_getElem? ho, he⟩
    · trivial

theorem linearise_valid (t : Nat) (hlt : ∀ e ∈ ops.toList.flatMap (·.after.toList), e.on < ops.size) : Valid m ops [] (Region.linearise m ops t) :=
  go_valid _ _ _ _ ⟨by simp, fun i hi => by simp [Array.getD, hi], fun i hi => by simp [Array.getD, hi]⟩ hlt

/-- the edges go up -/
def Ranked (m : Region.Mode) (ops : Array Oper) : Prop := ∃ ρ : Nat → Nat, ∀ (i : Nat) (o : Oper), ops[i]? = some o → ∀ e ∈ o.after, Region.binds m e = true → ρ e.on < ρ i

theorem Valid.rank : ∀ {l done : List Nat}, Valid m ops done l → ∀ i ∈ l, ∀ o, ops[i]? = some o → ∀ e ∈ o.after, Region.binds m e = true → e.on ∈ done ∨ l.idxOf e.on < l.idxOf i
  | j :: l, done, h, i, hi, o, ho, e, he, hb => by
    by_cases hij : i = j
    · subst hij
      obtain ⟨o', ho', hall⟩ := h.2.1
      rw [ho] at ho'; cases ho'
      exact .inl (hall e he hb)
    · have hil : i ∈ l := by
        rcases List.mem_cons.1 hi with h | h
        · exact absurd h hij
        · exact h
      have hji : (j == i) = false := by simpa using Ne.symm hij
      rcases Valid.rank h.2.2 i hil o ho e he hb with h1 | h1
      · rcases List.mem_cons.1 h1 with h2 | h2
        · right
          rw [h2]
          simp only [List.idxOf_cons, hji, beq_self_eq_true, cond_true, cond_false]
          omega
        · exact .inl h2
      · right
        simp only [List.idxOf_cons, hji, cond_false]
        cases hx : (j == e.on) <;> simp only [cond_true, cond_false] <;> omega

theorem acyc_ranked (hlt : ∀ e ∈ ops.toList.flatMap (·.after.toList), e.on < ops.size) (h : acyc m ops = true) : Ranked m ops := by
  simp only [acyc, Bool.or_eq_true] at h
  rcases h with h | h
  · refine ⟨id, fun i o ho e he hb => ?_⟩
    simp only [backOk, List.all_eq_true, List.mem_range] at h
    have := h i (Array.getElem?_eq_some_iff.1 ho).1
    simp only [ho, Array.all_eq_true_iff_forall_mem] at this
    have := this e he
    simp only [hb, Bool.not_true, Bool.false_or] at this
    simpa [Nat.blt_eq] using this
  · have hlen : (Region.linearise m ops 0).length = ops.size := Nat.eq_of_beq_eq_true h
    have hv := linearise_valid (m := m) 0 hlt
    refine ⟨fun i => (Region.linearise m ops 0).idxOf i, fun i o ho e he hb => ?_⟩
    have hi := (Array.getElem?_eq_some_iff.1 ho).1
    rcases hv.rank i (nodup_all hv.nodup hv.lt hlen i hi) o ho e he hb with h1 | h1
    · cases h1
    · exact h1

theorem ready_ne (hlt : ∀ e ∈ ops.toList.flatMap (·.after.toList), e.on < ops.size) {listed : Array Bool} {done : List Nat} (h : Listed ops listed done) {ρ : Nat → Nat} (hρ : ∀ (i : Nat) (o : Oper), ops[i]? = some o → ∀ e ∈ o.after, Region.binds m e = true → ρ e.on < ρ i) :
    ∀ (k i : Nat), ρ i ≤ k → i < ops.size → i ∉ done → ∃ j, j ∈ Region.ready m ops listed := by
  intro k
  induction k with
  | zero =>
    intro i hk hi hd
    refine ⟨i, mem_ready.2 ⟨?_, ops[i], by simp [hi], fun e he hb => ?_⟩⟩
    · cases hx : listed.getD i true with
      | false => rfl
      | true => exact absurd ((h.2.1 i hi).1 hx) hd
    · have := hρ i _ (by simp [hi]) e he hb
      omega
  | succ k ih =>
    intro i hk hi hd
    by_cases hall : ∀ e ∈ ops[i].after, Region.binds m e = true → listed.getD e.on false = true
    · refine ⟨i, mem_ready.2 ⟨?_, ops[i], by simp [hi], hall⟩⟩
      cases hx : listed.getD i true with
      | false => rfl
      | true => exact absurd ((h.2.1 i hi).1 hx) hd
    · have hex : ∃ e ∈ ops[i].after, Region.binds m e = true ∧ ¬ listed.getD e.on false = true := by
        refine Classical.byContradiction fun hn => hall fun e he hb => ?_
        refine Classical.byContradiction fun hl => hn ⟨e, he, hb, hl⟩
      obtain ⟨e, he, hb, hl⟩ := hex
      have hes : e.on < ops.size := hlt e (by
        simp only [List.mem_flatMap, Array.mem_toList_iff]
        exact ⟨ops[i], Array.getElem_mem hi, he⟩)
      have := hρ i _ (by simp [hi]) e he hb
      exact ih e.on (by omega) hes fun hd' => hl ((h.2.2 e.on hes).2 hd')

theorem go_length (hlt : ∀ e ∈ ops.toList.flatMap (·.after.toList), e.on < ops.size) {ρ : Nat → Nat} (hρ : ∀ (i : Nat) (o : Oper), ops[i]? = some o → ∀ e ∈ o.after, Region.binds m e = true → ρ e.on < ρ i) :
    ∀ (fuel t : Nat) (listed : Array Bool) (done : List Nat), Listed ops listed done → done.length + fuel = ops.size → (Region.linearise.go m ops fuel t listed []).length = fuel := by
  intro fuel
  induction fuel with
  | zero => intros; simp [Region.linearise.go]
  | succ fuel ih =>
    intro t listed done h hlen
    rw [go_step]
    have hex : ∃ i, i < ops.size ∧ i ∉ done := by
      refine Classical.byContradiction fun hn => ?_
      have := nodup_sub_length (a := List.range ops.size) (b := done) List.nodup_range fun x hx => by
        refine Classical.byContradiction fun hd => hn ⟨x, List.mem_range.1 hx, hd⟩
      simp at this
      omega
    obtain ⟨i, hi, hd⟩ := hex
    obtain ⟨j, hj⟩ := ready_ne hlt h hρ _ i (Nat.le_refl _) hi hd
    split
    · rename_i q hq
      have hqm := List.mem_of_getElem? hq
      obtain ⟨_, o, ho, _⟩ := mem_ready.1 hqm
      simp only [List.length_cons]
      rw [ih _ _ _ (h.set (Array.getElem?_eq_some_iff.1 ho).1) (by simp; omega)]
    · rename_i hq
      exfalso
      have hpos : 0 < (Region.ready m ops listed).length := List.length_pos_of_mem hj
      have := List.getElem?_eq_none_iff.1 hq
      have := Nat.mod_lt t hpos
      omega

theorem linearise_all (hlt : ∀ e ∈ ops.toList.flatMap (·.after.toList), e.on < ops.size) (h : acyc m ops = true) (t : Nat) (i : Nat) (hi : i < ops.size) : i ∈ Region.linearise m ops t := by
  obtain ⟨ρ, hρ⟩ := acyc_ranked hlt h
  have hv := linearise_valid (m := m) t hlt
  exact nodup_all hv.nodup hv.lt (go_length hlt hρ ops.size t _ [] ⟨by simp, fun i hi => by simp [Array.getD, hi], fun i hi => by simp [Array.getD, hi]⟩ (by simp)) i hi

theorem binds_any (e : Edge) (h : Region.binds .any e = true) : Region.binds m e = true := by
  unfold Region.binds at h ⊢
  revert h
  cases e.ground <;> intro h <;> first
    | rfl
    | exact absurd h (show ¬ (Region.Mode.any == Region.Mode.text) = true by decide)
    | exact absurd h (show ¬ (Region.Mode.any == Region.Mode.gc) = true by decide)

theorem Valid.any : ∀ {l done : List Nat}, Valid m ops done l → Valid .any ops done l
  | [], _, _ => trivial
  | j :: l, done, h => by
    obtain ⟨h1, ⟨o, ho, h2⟩, h3⟩ := h
    exact ⟨h1, ⟨o, ho, fun e he hb => h2 e he (binds_any e hb)⟩, Valid.any h3⟩
end

/-! ### the operations, by their numbers -/
def execIx (call : AV → List AV → AH → Option (AV × AH)) (is : List AI) : List Nat → AT → AH → Option (AT × AH)
  | [], T, H => some (T, H)
  | i :: l, T, H => match is[i]? with
    | some a => match exec1 call a T H with
      | some (T, H) => execIx call is l T H
      | none => none
    | none => none

section
variable {call : AV → List AV → AH → Option (AV × AH)} {is : List AI}

theorem execIx_ops : ∀ (suf pre : List AI) (T : AT) (H : AH), execOps call suf T H ≠ .bad → ∃ T' H', execOps call suf T H = .fin T' H' ∧ execIx call (pre ++ suf) (List.range' pre.length suf.length) T H = some (T', H')
  | [], pre, T, H, _ => ⟨T, H, rfl, rfl⟩
  | a :: suf, pre, T, H, hne => by
    rw [execOps_cons] at hne
    cases he : exec1 call a T H with
    | none => simp [he] at hne
    | some x =>
      obtain ⟨T1, H1⟩ := x
      simp only [he] at hne
      obtain ⟨T', H', h1, h2⟩ := execIx_ops suf (pre ++ [a]) T1 H1 hne
      refine ⟨T', H', by rw [execOps_cons, he]; exact h1, ?_⟩
      simp only [List.length_cons, List.range'_succ, execIx]
      have : (pre ++ a :: suf)[pre.length]? = some a := by simp
      rw [this]
      simp only [he]
      simpa using h2

theorem move_front {j : Nat} {aj : AI} (hj : is[j]? = some aj) {r : AT × AH} : ∀ (S1 S2 : List Nat) (T : AT) (H : AH), (∀ i ∈ S1, ∀ ai, is[i]? = some ai → comm ai aj = true) → execIx call is (S1 ++ j :: S2) T H = some r →
    ∃ T1 H1, exec1 call aj T H = some (T1, H1) ∧ execIx call is (S1 ++ S2) T1 H1 = some r
  | [], S2, T, H, _, h => by
    simp only [List.nil_append, execIx, hj] at h
    split at h
    · rename_i T1 H1 he
      exact ⟨T1, H1, he, h⟩
    · cases h
  | i :: S1, S2, T, H, hc, h => by
    simp only [List.cons_append, execIx] at h
    split at h
    · rename_i ai hi
      split at h
      · rename_i Ti Hi hei
        obtain ⟨T1, H1, h1, h2⟩ := move_front hj S1 S2 Ti Hi (fun i hi => hc i (List.mem_cons_of_mem _ hi)) h
        obtain ⟨T3, H3, g1, g2⟩ := comm_swap (hc i (List.mem_cons_self ..) ai hi) hei h1
        refine ⟨T3, H3, g1, ?_⟩
        simp only [List.cons_append, execIx, hi, g2]
        exact h2
      · cases h
    · cases h

theorem pairsOk_spec {ops : Array Oper} (h : pairsOk ops is = true) {i j : Nat} (hij : i < j) {ai aj : AI} {o : Oper} (hi : is[i]? = some ai) (hj : is[j]? = some aj) (ho : ops[j]? = some o) :
    comm ai aj = true ∨ ∃ e ∈ o.after, Region.binds .any e = true ∧ e.on = i := by
  simp only [pairsOk, List.all_eq_true, List.mem_range] at h
  have := h j (List.getElem?_eq_some_iff.1 hj).1
  simp only [ho, hj, List.all_eq_true, List.mem_range] at this
  have := this i hij
  simp only [hi, Bool.or_eq_true] at this
  rcases this with h | h
  · exact .inl h
  · obtain ⟨e, he, hb⟩ := Array.any_eq_true'.1 h
    simp only [Bool.and_eq_true] at hb
    exact .inr ⟨e, he, hb.1, Nat.eq_of_beq_eq_true hb.2⟩

/-- an order that the edges allow comes to the same -/
theorem reorder {ops : Array Oper} (hp : pairsOk ops is = true) (hlen : is.length = ops.size) {r : AT × AH} : ∀ (l done S : List Nat) (T : AT) (H : AH), Valid .any ops done l → S.Pairwise (· < ·) → (∀ i, i ∈ S ↔ i ∈ l) → execIx call is S T H = some r → execIx call is l T H = some r
  | [], done, S, T, H, _, _, hm, h => by
    have : S = [] := by
      cases S with
      | nil => rfl
      | cons x S => exact absurd ((hm x).1 (List.mem_cons_self ..)) (by simp)
    subst this
    exact h
  | j :: l, done, S, T, H, hv, hs, hm, h => by
    obtain ⟨S1, S2, rfl⟩ := List.append_of_mem ((hm j).2 (List.mem_cons_self ..))
    obtain ⟨o, ho, hall⟩ := hv.2.1
    have hjs := (Array.getElem?_eq_some_iff.1 ho).1
    have hj : is[j]? = some (is[j]'(by omega)) := by simp
    rw [List.pairwise_append] at hs
    obtain ⟨hs1, hs2, hs3⟩ := hs
    rw [List.pairwise_cons] at hs2
    obtain ⟨T1, H1, h1, h2⟩ := move_front hj S1 S2 T H (fun i hi ai hai => by
      have hlt := hs3 i hi j (List.mem_cons_self ..)
      rcases pairsOk_spec hp hlt hai hj ho with hc | ⟨e, he, hb, rfl⟩
      · exact hc
      · exfalso
        have := hall e he hb
        have hil := (hm e.on).1 (List.mem_append_left _ hi)
        exact hv.out e.on hil this) h
    simp only [execIx, hj, h1]
    refine reorder hp hlen l (j :: done) (S1 ++ S2) T1 H1 hv.2.2 ?_ (fun i => ?_) h2
    · rw [List.pairwise_append]
      exact ⟨hs1, hs2.2, fun a ha b hb => hs3 a ha b (List.mem_cons_of_mem _ hb)⟩
    · have hjl : j ∉ l := (List.nodup_cons.1 hv.nodup).1
      have h1 : j ∉ S1 := fun hj1 => absurd (hs3 j hj1 j (List.mem_cons_self ..)) (Nat.lt_irrefl _)
      have h2 : j ∉ S2 := fun hj2 => absurd (hs2.1 j hj2) (Nat.lt_irrefl _)
      have := hm i
      simp only [List.mem_append, List.mem_cons] at this ⊢
      by_cases hij : i = j
      · subst hij; simp [h1, h2, hjl]
      · simpa [hij] using this
end

/-! ### a region -/
section
variable {P : Program} {B : Nat} {σ : Val} {H : AH} {w : World} {T : AT} {tm : Array Value} {nt : Nat}

theorem opersOf_get {ops : Array Oper} : ∀ {l : List Oper} {is : List AI}, opersOf P nt ops l = some is → is.length = l.length ∧ ∀ (i : Nat) (o : Oper), l[i]? = some o → ∃ a, is[i]? = some a ∧ operOf P nt ops o = some a
  | [], is, h => by simp [opersOf] at h; subst h; simp
  | x :: l, is, h => by
    simp only [opersOf] at h
    split at h
    · rename_i a as ha has
      simp at h; subst h
      obtain ⟨h1, h2⟩ := opersOf_get has
      refine ⟨by simp [h1], fun i o ho => ?_⟩
      cases i with
      | zero => simp at ho; subst ho; exact ⟨a, by simp, ha⟩
      | succ i => simp at ho; simpa using h2 i o ho
    · cases h

theorem run_ix {tab ext} (E : Env P tab ext) {run : AC → AT → AH → R} (hrun : Sound P run) {ops : Array Oper} {is : List AI} (hl : opersOf P nt ops ops.toList = some is) (hb : nt < 1000000000) (fr : Frame) (df : List Deferred) (k : List Item) (cs : List Frame) :
    ∀ (l : List Nat) {σ : Val} {H : AH} {w : World} {T : AT} {tm : Array Value} {T' : AT} {H' : AH}, execIx (callWith run tab ext) is l T H = some (T', H') → HRel P B σ H w → TRel σ T tm → tm.size = nt →
      ∃ σ' w' tm', tm'.size = nt ∧ HRel P B σ' H' w' ∧ Ext σ H w σ' H' w' ∧ TRel σ' T' tm' ∧ Steps P (lone (at_ fr tm df (.inRegion ops l :: k)) cs w) (lone (at_ fr tm' df k) cs w')
  | [], σ, H, w, T, tm, T', H', he, h, hT, hn => by
    simp only [execIx, Option.some.injEq, Prod.mk.injEq] at he
    obtain ⟨rfl, rfl⟩ := he
    exact ⟨σ, w, tm, hn, h, Ext.refl _ _ _, hT, .one s_region_end⟩
  | i :: l, σ, H, w, T, tm, T', H', he, h, hT, hn => by
    simp only [execIx] at he
    split at he
    · rename_i a ha
      split at he
      · rename_i T1 H1 h1
        obtain ⟨hlen, hget⟩ := opersOf_get hl
        have hi : i < ops.size := by
          have := (List.getElem?_eq_some_iff.1 ha).1
          simpa [hlen] using this
        have ho : ops[i]? = some ops[i] := by simp [hi]
        obtain ⟨a', ha', hop⟩ := hget i ops[i] (by simp [hi])
        rw [ha] at ha'; cases ha'
        obtain ⟨σ1, w1, tm1, a1, a2, a3, a4, a5⟩ := step1 (rest := l) E hrun ho hop h hT hn hb h1 fr df k cs
        obtain ⟨σ2, w2, tm2, b1, b2, b3, b4, b5⟩ := run_ix E hrun hl hb fr df k cs l he a2 a4 a1
        exact ⟨σ2, w2, tm2, b1, b2, a3.trans b3, b4, a5.trans b5⟩
      · cases he
    · cases he

theorem region_ok {tab ext} (E : Env P tab ext) {run : AC → AT → AH → R} (hrun : Sound P run) {id : Nat} {ops : Array Oper} {draw : Bool} {is : List AI} (hl : opersOf P nt ops ops.toList = some is) (hd : draw = true → drawOk ops is = true)
    (hne : execOps (callWith run tab ext) is T H ≠ .bad) (h : HRel P B σ H w) (hT : TRel σ T tm) (hn : tm.size = nt) (hb : nt < 1000000000) (fr : Frame) (df : List Deferred) (k : List Item) (cs : List Frame) :
    ∃ T' H', execOps (callWith run tab ext) is T H = .fin T' H' ∧ ∃ σ' w' tm', tm'.size = nt ∧ HRel P B σ' H' w' ∧ Ext σ H w σ' H' w' ∧ TRel σ' T' tm' ∧
      Steps P (lone (at_ fr tm df (.code (.region id ops draw) :: k)) cs w) (lone (at_ fr tm' df k) cs w') := by
  obtain ⟨hlen, _⟩ := opersOf_get hl
  have hlen : is.length = ops.size := by simpa using hlen
  obtain ⟨T', H', e1, e2⟩ := execIx_ops is [] T H hne
  simp only [List.nil_append, List.length_nil, hlen, ← List.range_eq_range'] at e2
  refine ⟨T', H', e1, ?_⟩
  cases draw with
  | false =>
    obtain ⟨σ', w', tm', a1, a2, a3, a4, a5⟩ := run_ix E hrun hl hb fr df k cs (List.range ops.size) e2 h hT hn
    exact ⟨σ', w', tm', a1, a2, a3, a4, .head s_region a5⟩
  | true =>
    have hd := hd rfl
    simp only [drawOk, Bool.and_eq_true] at hd
    obtain ⟨⟨⟨⟨hp, hon⟩, ha⟩, ht⟩, hg⟩ := hd
    have hlt : ∀ e ∈ ops.toList.flatMap (·.after.toList), e.on < ops.size := by
      intro e he
      simp only [onOk, Array.all_eq_true_iff_forall_mem] at hon
      simp only [List.mem_flatMap, Array.mem_toList_iff] at he
      obtain ⟨o, ho, he⟩ := he
      have := hon o ho e he
      simpa [Nat.blt_eq] using this
    have key : ∀ m t, acyc m ops = true → execIx (callWith run tab ext) is (Region.linearise m ops t) T H = some (T', H') := by
      intro m t hm
      have hv := linearise_valid (m := m) t hlt
      refine reorder hp hlen _ [] (List.range ops.size) T H hv.any List.pairwise_lt_range (fun i => ?_) e2
      exact ⟨fun hi => linearise_all hlt hm t i (List.mem_range.1 hi), fun hi => List.mem_range.2 (hv.lt i hi)⟩
    have hs : execIx (callWith run tab ext) is (Region.schedule (P.follows .mixedOrders) ops (w.tape w.drawn (.order fr.fn id))) T H = some (T', H') := by
      unfold Region.schedule
      split
      · exact key _ _ ha
      · split
        · exact key _ _ ht
        · exact key _ _ hg
    obtain ⟨σ', w', tm', a1, a2, a3, a4, a5⟩ := run_ix E hrun hl hb fr df k cs _ hs (h.drew (w.drawn + 1)) hT hn
    exact ⟨σ', w', tm', a1, a2, (Ext.drew σ H w (w.drawn + 1)).trans a3, a4, .head s_region_draw a5⟩
end
end Go.AM
