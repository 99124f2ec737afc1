/- THE ABSTRACT MACHINE: values that are built, cells that are made. -/
import Derived.Great.BuildSlice
import Derived.Test.YtehgboiiphlfeaaGreatDoorAmEq
namespace Go.AM
open Go

theorem Gives.skip {P B σ H w σ' H' w'} {r : Result Next} (h : HRel P B σ' H' w') (he : Ext σ H w σ' H' w') (hr : r = .ok .skip w') : Gives P B σ H w r .unk H' :=
  ⟨σ', undef, w', .inr ⟨hr, rfl⟩, h, he, by simp [VRel]⟩
theorem Gives.at {P B σ H w σ' H' w'} {r : Result Next} {u : Value} {v : AV} (h : HRel P B σ' H' w') (he : Ext σ H w σ' H' w') (hr : r = .ok (.value u) w') (hv : VRel σ' v u) : Gives P B σ H w r v H' :=
  ⟨σ', u, w', .inl hr, h, he, hv⟩

theorem putCells_cons {cur : Array Value} {k : Nat} {v : Value} {l : List Value} (h : k + (v :: l).length ≤ cur.size) : putCells (cur.setIfInBounds k v) (k + 1) l = putCells cur k (v :: l) := by
  apply Array.ext_getElem?
  intro j
  rw [putCells_get (by simp at h ⊢; omega), putCells_get h]
  simp only [List.length_cons, Array.getElem?_setIfInBounds] at h ⊢
  by_cases h2 : k + 1 ≤ j ∧ j < k + 1 + l.length
  · rw [if_pos h2, if_pos (by omega)]
    have : j - k = (j - (k + 1)) + 1 := by omega
    rw [this]; simp
  · rw [if_neg h2]
    by_cases h3 : k = j
    · subst h3
      have hk : k < cur.size := by omega
      simp [hk]
    · rw [if_neg h3, if_neg (by omega)]

theorem putCells_nil (cur : Array Value) (k : Nat) : putCells cur k [] = cur := by simp [putCells]

theorem foldl_put (off : Nat) : ∀ (l : List Value) (k : Nat) (cs : Array Value), off + k + l.length ≤ cs.size →
    (l.zipIdx k).foldl (fun cs (x : Value × Nat) => cs.setIfInBounds (off + x.2) x.1) cs = putCells cs (off + k) l
  | [], k, cs, _ => by simp [putCells_nil]
  | v :: l, k, cs, h => by
    simp only [List.zipIdx_cons, List.foldl_cons]
    rw [foldl_put off l (k + 1) _ (by simp at h ⊢; omega), ← Nat.add_assoc, putCells_cons (by simpa [Nat.add_assoc] using h)]

/-- cells with some put in -/
theorem VRelL.put {σ : Val} {c l : List AV} {cs : Array Value} {us : List Value} {o : Nat} (h : VRelL σ c cs.toList) (h' : VRelL σ l us) (hf : o + l.length ≤ c.length) : VRelL σ (putAt l c o) (putCells cs o us).toList := by
  have e1 := h.length
  have e2 := h'.length
  simp only [Array.length_toList] at e1
  have hsz : o + us.length ≤ cs.size := by omega
  refine VRelL.of_get (by rw [putAt_length l c o hf, Array.length_toList, putCells_size hsz]; exact e1) fun i a ha => ?_
  rw [putAt_get l c o i hf] at ha
  simp only [Array.getElem?_toList, putCells_get hsz]
  by_cases hc : o ≤ i ∧ i < o + l.length
  · rw [if_pos hc] at ha
    obtain ⟨u, hu, hr⟩ := h'.get ha
    exact ⟨u, by rw [if_pos (by omega)]; exact hu, hr⟩
  · rw [if_neg hc] at ha
    obtain ⟨u, hu, hr⟩ := h.get ha
    exact ⟨u, by rw [if_neg (by omega)]; simpa using hu, hr⟩

theorem one_put {cs : Array Value} {us : List Value} {o : Nat} (hsz : o + us.length ≤ cs.size) (h : ∀ u ∈ cs.toList, u.oneCell' = true) (h' : ∀ u ∈ us, u.oneCell' = true) : ∀ u ∈ (putCells cs o us).toList, u.oneCell' = true := by
  intro u hu
  obtain ⟨i, hi⟩ := List.mem_iff_getElem?.1 hu
  simp only [Array.getElem?_toList, putCells_get hsz] at hi
  split at hi
  · exact h' u (List.mem_of_getElem? hi)
  · exact h u (List.mem_of_getElem? (by simpa using hi))

section
variable {P : Program} {B : Nat} {σ : Val} {H : AH} {w : World} {T : AT} {tm : Array Value} {nt : Nat}

theorem fill_sound (hT : TRel σ T tm) (hn : tm.size = nt) (hb : nt < 1000000000) (place : Nat → Option (Nat × Nat)) : ∀ (ps : List (Nat × Operand)) (aps : List (Nat × Nat × AX)) (c c' : List AV) (cs : Array Value),
    partsOf nt place ps = some aps → fillA c (evps T aps) = some c' → VRelL σ c cs.toList → (∀ u ∈ cs.toList, u.oneCell' = true) →
    ∃ cs', Instr.fill place cs (ps.map fun x => (x.1, opv tm x.2)) = some cs' ∧ VRelL σ c' cs'.toList ∧ (∀ u ∈ cs'.toList, u.oneCell' = true)
  | [], aps, c, c', cs, hp, hf, hr, h1 => by
    simp [partsOf] at hp; subst hp
    simp [evps, fillA] at hf; subst hf
    exact ⟨cs, rfl, hr, h1⟩
  | (i, x) :: ps, aps, c, c', cs, hp, hf, hr, h1 => by
    simp only [partsOf] at hp
    split at hp
    · rename_i o n a l hpl hax hps
      simp at hp; subst hp
      simp only [evps, fillA] at hf
      split at hf
      · rename_i k hk
        split at hf
        · rename_i hc
          simp only [Bool.and_eq_true] at hc
          obtain ⟨hc1, hc2⟩ := hc
          obtain ⟨kr, k1⟩ := cells_rel hk (ax_rel hT hn hb hax)
          have e1 := hr.length
          have e2 := kr.length
          have e3 : k.length = n := Nat.eq_of_beq_eq_true hc1
          have e4 : o + n ≤ c.length := Nat.le_of_ble_eq_true hc2
          simp only [Array.length_toList] at e1 e2
          have hfit : o + (opv tm x).cells.toList.length ≤ cs.size := by simp; omega
          obtain ⟨cs', g1, g2, g3⟩ := fill_sound hT hn hb place ps l (putAt k c o) c' (putCells cs o (opv tm x).cells.toList) hps hf (hr.put kr (by omega)) (one_put hfit h1 k1)
          refine ⟨cs', ?_, g2, g3⟩
          simp only [List.map_cons, Instr.fill, hpl]
          have n1 : (opv tm x).cells.size = n := by omega
          have n2 : ¬ (o + (opv tm x).cells.size > cs.size) := by omega
          simp only [n1, ne_eq, not_true_eq_false, decide_false, Bool.false_or]
          rw [if_neg (by simp; omega)]
          rw [← g1]
          congr 1
          rw [← Array.foldl_toList, Array.toList_zipIdx]
          have := foldl_put o (opv tm x).cells.toList 0 cs (by simpa using hfit)
          simpa using this
        · cases hf
      · cases hf
    · cases hp

theorem replicate_flatten_get (z : List AV) (n : Nat) (hz : z.length = n) (hn : n ≠ 0) : ∀ (m j : Nat), ((List.replicate m z).flatten)[j]? = if j < m * n then z[j % n]? else none
  | 0, j => by simp
  | m + 1, j => by
    simp only [List.replicate_succ, List.flatten_cons]
    by_cases h : j < n
    · rw [List.getElem?_append_left (by omega), if_pos (by rw [Nat.add_mul]; omega), Nat.mod_eq_of_lt h]
    · rw [List.getElem?_append_right (by omega), hz, replicate_flatten_get z n hz hn m (j - n)]
      have e : (j - n) % n = j % n := by
        conv => rhs; rw [show j = (j - n) + n by omega, Nat.add_mod_right]
      rw [e]
      by_cases h2 : j - n < m * n
      · rw [if_pos h2, if_pos (by rw [Nat.add_mul]; omega)]
      · rw [if_neg h2, if_neg (by rw [Nat.add_mul]; omega)]

theorem replicate_flatten_length (z : List AV) (n : Nat) (hz : z.length = n) : ∀ m, ((List.replicate m z).flatten).length = m * n
  | 0 => by simp
  | m + 1 => by simp [List.replicate_succ, replicate_flatten_length z n hz m, hz, Nat.add_mul, Nat.add_comm]

/-- zero cells, m elements of them -/
theorem zeros_rel {z : List AV} {n : Nat} (hz : z.length = n) (hn : n ≠ 0) {v : Array Value} (hr : VRelL σ z v.toList) (h1 : ∀ u ∈ v.toList, u.oneCell' = true) (m : Nat) :
    VRelL σ ((List.replicate m z).flatten) ((Array.range (m * n)).map (v[· % v.size]!)).toList ∧ (∀ u ∈ ((Array.range (m * n)).map (v[· % v.size]!)).toList, u.oneCell' = true) := by
  have e := hr.length
  simp only [Array.length_toList] at e
  have hvs : v.size = n := by omega
  constructor
  · refine VRelL.of_get (by simp [replicate_flatten_length z n hz m]) fun i a ha => ?_
    rw [replicate_flatten_get z n hz hn m i] at ha
    split at ha
    · rename_i hi
      obtain ⟨u, hu, hr'⟩ := hr.get ha
      refine ⟨u, ?_, hr'⟩
      have : i % n < v.size := by rw [hvs]; exact Nat.mod_lt _ (by omega)
      simp only [Array.getElem?_toList] at hu
      simp [hi, hvs]
      rw [getElem!_def, hu]
    · cases ha
  · intro u hu
    simp only [Array.toList_map, Array.toList_range, List.mem_map, List.mem_range] at hu
    obtain ⟨i, _, rfl⟩ := hu
    have : i % v.size < v.size := Nat.mod_lt _ (by omega)
    refine h1 _ ?_
    rw [getElem!_pos v _ this]
    exact Array.getElem_mem_toList this

theorem built_struct {t : TypeId} {fs : Array Field} (hu : P.underlying t = some (.struct fs)) {z : Value} (hz : (P.info? t).bind (·.zero) = some z) (ha : (fs.all fun f => (P.info? f.type).isSome) = true)
    (parts : List (Nat × Value)) : P.built t parts = Instr.fill (fun i => match fs[i]? with | some f => (sizeOf? P f.type).map fun n => (f.offset, n) | none => none) z.cells parts := by
  cases hi : P.info? t with
  | none => simp [hi] at hz
  | some it =>
    simp [hi] at hz
    have hm : ∀ (l : List Field), (∀ f ∈ l, (P.info? f.type).isSome) → ∃ places, l.mapM (fun f => (P.info? f.type).map fun i => (f.offset, i.size)) = some places ∧ ∀ i : Nat, places[i]? = match l[i]? with | some f => (sizeOf? P f.type).map fun n => (f.offset, n) | none => none := by
      intro l
      induction l with
      | nil => intro _; exact ⟨[], rfl, fun i => by simp⟩
      | cons f l ih =>
        intro hl
        obtain ⟨places, g1, g2⟩ := ih fun f' hf' => hl f' (List.mem_cons_of_mem _ hf')
        obtain ⟨i0, hi0⟩ := Option.isSome_iff_exists.1 (hl f (List.mem_cons_self ..))
        refine ⟨(f.offset, i0.size) :: places, by simp [List.mapM_cons, hi0, g1], fun i => ?_⟩
        cases i with
        | zero => simp [sizeOf?, hi0]
        | succ i => simpa using g2 i
    obtain ⟨places, g1, g2⟩ := hm fs.toList fun f hf => by
      have := Array.all_eq_true'.1 ha f (by simpa using hf)
      exact this
    unfold Program.built
    simp only [hi, hu, hz, g1]
    congr 1
    funext i
    have := g2 i
    simp only [Array.getElem?_toList] at this
    simpa using this
end
end Go.AM
