/- THE ABSTRACT MACHINE: copy, clear, make, maps. -/
import Derived.Laws.MakeOwn
import Derived.Test.YtehgboiiphlfeaaGreatDoorAmApp
namespace Go.AM
open Go

section
variable {P : Program} {B : Nat} {σ : Val} {H : AH} {w : World}

theorem copy_sound (h : HRel P B σ H w) {t u ty e : TypeId} {sz : Nat} (ht : elemOf? P t = some (e, sz)) {x y v : AV} {a b : Value} (hx : VRel σ x a) (hy : VRel σ y b) {m : Nat} {news : List AV}
    (hel : H.elems sz y = some (m, news)) {H' : AH}
    (hv : H.copyTo sz x m news = some (v, H')) :
    ∃ r w', (Builtin.copy_ #[t, u] ty #[a, b]).run P w = .ok r w' ∧ HRel P B σ H' w' ∧ Ext σ H w σ H' w' ∧ VRel σ v r := by
  obtain ⟨us, hur, hu1, hul, hlen, hfc⟩ := elems_sound h hel hy
  obtain ⟨hut, hsz, hsz0⟩ := elemOf_spec ht
  obtain ⟨i, hi, his⟩ := info_of_size hsz
  unfold AH.copyTo at hv
  split at hv
  · simp only [VRel] at hx
    subst hx
    simp only [Option.some.injEq, Prod.mk.injEq] at hv
    obtain ⟨rfl, rfl⟩ := hv
    have hf := hfc 0 (Nat.zero_le _) w rfl
    simp only [Nat.zero_mul, List.take_zero] at hf
    refine ⟨goInt 0, w, ?_, h, Ext.refl _ _ _, by simp [VRel, goInt]⟩
    simp [Builtin.copy_, run_underlying hut, hlen, sizeOf, typeInfo, hi, his, hf, goInt]
  · rename_i bl o n c s ex
    split at hv
    · rename_i H2 hw
      simp only [Option.some.injEq, Prod.mk.injEq] at hv
      obtain ⟨rfl, rfl⟩ := hv
      simp only [VRel] at hx
      obtain ⟨L, x, cap, hL, rfl, h1, h2, h3, h4, h5, h6⟩ := hx
      have hk : min m n ≤ m := Nat.min_le_left _ _
      have hf := hfc (min m n) hk w rfl
      have hrt : VRelL σ (news.take (min m n * sz)) (us.take (min m n * sz)) := by
        refine VRelL.of_get (by simp [hur.length]) fun i a ha => ?_
        rw [List.getElem?_take] at ha
        split at ha
        · rename_i hlt
          obtain ⟨q, hq, hr⟩ := hur.get ha
          exact ⟨q, by rw [List.getElem?_take, if_pos hlt]; exact hq, hr⟩
        · cases ha
      have h1t : ∀ u ∈ us.take (min m n * sz), u.oneCell' = true := fun u hu => hu1 u (List.mem_of_mem_take hu)
      obtain ⟨L', cs, e2, fr, hL', g1, g2, g3, g4, g5, _⟩ := write_spec h hw hrt h1t
      rw [hL] at hL'; cases hL'
      by_cases hz : min m n = 0
      · have hpc : putCells cs (L.o + o) (us.take (min m n * sz)) = cs := by rw [hz]; simp [putCells_nil]
        rw [hpc] at g4 g5
        rw [setRow_self w L.b cs e2 fr g1] at g4 g5
        refine ⟨goInt (min m n : Nat), w, ?_, g4, g5, by simp [VRel, goInt]⟩
        have hf0 : (Builtin.firstCells sz 0 b).run P w = .ok #[] w := by simpa using hfc 0 (Nat.zero_le _) w rfl
        have hnm : Nat.min m n = 0 := hz
        simp [Builtin.copy_, run_underlying hut, hlen, sizeOf, typeInfo, hi, his, hnm, hf0, storeCells, goInt, hz]
      · have hxo := h4 (by omega)
        have hst := run_storeCells_free P L.b (L.o + o) e2 fr (us.take (min m n * sz)) 0 cs w g1 g2 (by omega) h1t
        simp only [Nat.add_zero] at hst
        refine ⟨goInt (min m n : Nat), _, ?_, g4, g5, by simp [VRel, goInt]⟩
        have hnm : Nat.min m n = min m n := rfl
        subst hxo
        simp [Builtin.copy_, run_underlying hut, hlen, sizeOf, typeInfo, hi, his, hnm, hf, hst, goInt]
    · cases hv
  · cases hv

theorem clear_slice_sound (h : HRel P B σ H w) {t ty e : TypeId} {sz : Nat} (ht : elemOf? P t = some (e, sz)) {z : List AV} (hz : zerosOf P e = some z) (hzl : z.length = sz) {bl : Pos} {o n c s : Nat} {ex : Bool} {a : Value}
    (hx : VRel σ (.slc bl o n c s ex) a) (hn : n ≠ 0) {H' : AH} (hw : H.write bl o ((List.replicate n z).flatten) = some H') :
    ∃ w', (Builtin.clear_ #[t] ty #[a]).run P w = .ok (.tuple #[]) w' ∧ HRel P B σ H' w' ∧ Ext σ H w σ H' w' := by
  obtain ⟨hut, hsz, hsz0⟩ := elemOf_spec ht
  obtain ⟨v, hv, hvr, hv1⟩ := zeros_run (w := w) hz
  have hvl := (hvr σ).length
  simp only [Array.length_toList] at hvl
  obtain ⟨r1, r2⟩ := zeros_rel hzl hsz0 (hvr σ) hv1 n
  simp only [VRel] at hx
  obtain ⟨L, x, cap, hL, rfl, h1, h2, h3, h4, h5, h6⟩ := hx
  obtain ⟨L', cs, e2, fr, hL', g1, g2, g3, g4, g5, _⟩ := write_spec h hw r1 r2
  rw [hL] at hL'; cases hL'
  have hxo := h4 (by omega)
  have hzc : (Builtin.zeroCells v.cells n) = (Array.range (n * sz)).map (v.cells[· % v.cells.size]!) := by
    simp only [Builtin.zeroCells]; rw [hvl, hzl]
  have hst := run_storeCells_free P L.b (L.o + o) e2 fr ((Array.range (n * sz)).map (v.cells[· % v.cells.size]!)).toList 0 cs w g1 g2 (by omega) r2
  simp only [Nat.add_zero] at hst
  refine ⟨_, ?_, g4, g5⟩
  subst hxo
  obtain ⟨n', rfl⟩ : ∃ k, n = k + 1 := ⟨n - 1, by omega⟩
  simp only [Builtin.clear_, List.getElem?_toArray, List.getElem?_cons_zero, Sem.run_bind, run_underlying hut, Result.andThen_ok, hv, hzc, hst, Sem.run_pure]

theorem mkslc_sound (h : HRel P B σ H w) {t e : TypeId} {sz by_ : Nat} (ht : elemOf? P t = some (e, sz)) (hby : bytesOf? P e = some by_) {z : List AV} (hz : zerosOf P e = some z) (hzl : z.length = sz)
    {n m : Nat} {k1 k2 : IntKind} (hnm : n ≤ m) (hm : m ≤ 1048576) (hmb : m * by_ ≤ 1048576) :
    ∃ σ' r w', (Instr.makeSlice t (.int k1 n) (.int k2 m)).run P w = .ok r w' ∧ HRel P B σ' (H.newRow e ((List.replicate m z).flatten) true).2 w' ∧ Ext σ H w σ' (H.newRow e ((List.replicate m z).flatten) true).2 w' ∧
      VRel σ' (.slc H.nm 0 n m sz true) r := by
  obtain ⟨hut, hsz, hsz0⟩ := elemOf_spec ht
  obtain ⟨v, hv, hvr, hv1⟩ := zeros_run (w := w) hz
  have hvl := (hvr σ).length
  simp only [Array.length_toList] at hvl
  obtain ⟨r1, r2⟩ := zeros_rel hzl hsz0 (hvr σ) hv1 m
  obtain ⟨i, hi, his⟩ := info_of_size hsz
  have hby' : i.bytes = by_ := by
    unfold bytesOf? at hby
    simpa [hi] using hby
  have hzv : i.zero = some v := by
    have := hv
    simp [zeroValue, run_typeInfo' hi] at this
    cases hz' : i.zero with
    | none => simp [hz'] at this
    | some v' => simp [hz'] at this; rw [this]
  have hnew := h.newRow e ((List.replicate m z).flatten) true ((Array.range (m * sz)).map (v.cells[· % v.cells.size]!)).toList sz hsz (by rw [r1.length]; exact Nat.le_refl _) (fun _ => r1.length.symm)
    (fun j a ha => by obtain ⟨q, hq, hr⟩ := r1.get ha; exact ⟨q, hq, hr, r2 q (List.mem_of_getElem? hq)⟩)
  have hb' : (i.bytes : Int) * (m : Int) ≤ 281474976710656 := by
    have h1 : i.bytes * m ≤ 281474976710656 := by rw [hby', Nat.mul_comm]; omega
    have h2 : ((i.bytes * m : Nat) : Int) ≤ 281474976710656 := by omega
    rwa [Int.natCast_mul] at h2
  have hr := run_make (P := P) w t e i v hut hi hzv k1 k2 n m (by omega) (by omega) hb' (by omega)
  simp only [Int.toNat_natCast] at hr
  rw [his] at hr
  refine ⟨_, .slice (some ⟨w.heap.size, 0, none⟩) n m, _, ?_, hnew.1, hnew.2, ?_⟩
  · rw [hr]
    congr 2
  · simp only [VRel]
    refine ⟨_, 0, m, Val.set_eq _ _ _, rfl, hnm, Nat.le_refl _, fun _ => rfl, fun _ => rfl, ?_, by omega⟩
    simp
end
end Go.AM
