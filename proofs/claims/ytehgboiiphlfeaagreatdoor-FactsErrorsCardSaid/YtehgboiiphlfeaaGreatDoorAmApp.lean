/- THE ABSTRACT MACHINE: what slices and strings hold; append, copy, clear. -/
import Derived.Test.YtehgboiiphlfeaaGreatDoorAmVal2
namespace Go.AM
open Go

theorem byteCells_eq : ∀ l : List Nat, byteCells l = l.map fun b : Nat => AV.int .u8 b
  | [] => rfl
  | b :: l => by simp [byteCells, byteCells_eq l]

section
variable {P : Program} {B : Nat} {σ : Val} {H : AH} {w : World}

theorem elemOf_spec {t e : TypeId} {sz : Nat} (ht : elemOf? P t = some (e, sz)) : P.underlying t = some (.slice e) ∧ sizeOf? P e = some sz ∧ sz ≠ 0 := by
  unfold elemOf? at ht
  cases hu : P.underlying t with
  | none => simp [hu] at ht
  | some d =>
    cases d <;> simp [hu] at ht
    rename_i e'
    cases hsz : sizeOf? P e' with
    | none => simp [hsz] at ht
    | some n0 =>
      simp only [hsz] at ht
      split at ht
      · cases ht
      · rename_i hn0
        simp at ht
        obtain ⟨rfl, rfl⟩ := ht
        exact ⟨rfl, hsz, hn0⟩

/-- what a slice or a string holds -/
theorem elems_sound (h : HRel P B σ H w) {sz : Nat} {y : AV} {m : Nat} {news : List AV} (hy : H.elems sz y = some (m, news)) {b : Value} (hb : VRel σ y b) :
    ∃ us, VRelL σ news us ∧ (∀ u ∈ us, u.oneCell' = true) ∧ us.length = m * sz ∧ (∀ w', (Builtin.lenOf b).run P w' = .ok m w') ∧ ∀ k, k ≤ m → ∀ w' : World, w'.heap = w.heap → (Builtin.firstCells sz k b).run P w' = .ok (us.take (k * sz)).toArray w' := by
  unfold AH.elems at hy
  split at hy
  · simp at hy
    obtain ⟨rfl, rfl⟩ := hy
    simp only [VRel] at hb
    subst hb
    exact ⟨[], by simp [VRelL], by simp, by simp, fun w' => by simp [Builtin.lenOf], fun k _ w' _ => by simp [Builtin.firstCells]⟩
  · rename_i bl o n c s ex
    split at hy
    · rename_i l hr
      simp at hy
      obtain ⟨rfl, rfl⟩ := hy
      simp only [VRel] at hb
      obtain ⟨L, x, cap, hL, rfl, h1, h2, h3, h4, h5, h6⟩ := hb
      obtain ⟨L', us, hL', e1, e2, e3, e4, e5, _⟩ := read_spec h hr
      rw [hL] at hL'; cases hL'
      refine ⟨us, e3, e4, e1, fun w' => by simp [Builtin.lenOf], fun k hk w' hw' => ?_⟩
      have hlen : (us.take (k * sz)).length = k * sz := by
        rw [List.length_take, e1]
        exact Nat.min_eq_left (Nat.mul_le_mul_right _ hk)
      have := run_loadCells_list (P := P) w' ⟨L.b, x, none⟩ (us.take (k * sz)) fun j u hu => by
        rw [Addr.add_mid]
        have hj : j < k * sz := by rw [← hlen]; exact (List.getElem?_eq_some_iff.1 hu).1
        rw [List.getElem?_take, if_pos hj] at hu
        have hn : n ≠ 0 := fun e => by
          subst e
          have : k = 0 := by omega
          subst this; simp at hj
        have := e5 j u hu
        rw [h4 (by omega)]
        simpa [World.cell?, hw'] using this
      rw [hlen] at this
      simpa [Builtin.firstCells] using this
    · cases hy
  · rename_i l
    split at hy
    · rename_i hsz
      have hsz' : sz = 1 := Nat.eq_of_beq_eq_true hsz
      subst hsz'
      simp at hy
      obtain ⟨rfl, rfl⟩ := hy
      obtain ⟨s, rfl, rfl⟩ := str_of hb
      refine ⟨s.data.toList.map fun b => Value.int .u8 b.toNat, ?_, by simp [Value.oneCell'], by simp, fun w' => ?_, fun k hk w' _ => ?_⟩
      · rw [byteCells_eq]
        refine VRelL.of_get (by simp) fun i a ha => ?_
        simp only [List.getElem?_map] at ha ⊢
        cases hi : s.data.toList[i]? with
        | none => simp [hi] at ha
        | some q => simp only [hi, Option.map_some, Option.some.injEq] at ha ⊢; subst ha; exact ⟨_, rfl, by simp [VRel]⟩
      · simp only [Builtin.lenOf, Sem.run_pure, List.length_map, Array.length_toList]; rfl
      · simp only [Builtin.firstCells, Sem.run_pure]
        congr 1
        apply Array.ext'
        simp [List.map_take]
    · cases hy
  · cases hy

/-- an append that grows: a new row -/
theorem run_grow {t u ty e : TypeId} {sz by_ : Nat} {z : List AV} (ht : elemOf? P t = some (e, sz)) (hby : bytesOf? P e = some by_) (hz : zerosOf P e = some z) (hzl : z.length = sz)
    (hu : P.underlying u = some .string ∨ ∃ e', P.underlying u = some (.slice e')) {b : Value} {base : Option Addr} {n cap m : Nat} {ous us : List Value}
    (hol : ous.length = n * sz) (hul : us.length = m * sz)
    (ho : (Builtin.firstCells sz n (.slice base n cap)).run P w.drew = .ok ous.toArray w.drew)
    (hm : (Builtin.lenOf b).run P w = .ok m w) (hn : (Builtin.firstCells sz m b).run P w.drew = .ok us.toArray w.drew)
    (hg : cap < n + m) (h30 : n + m ≤ 1073741824) (h30b : (n + m) * by_ ≤ 1073741824) :
    ∃ c rest, n + m ≤ c ∧ (ous ++ us ++ rest).length = c * sz ∧
      (Builtin.append_ #[t, u] ty #[.slice base n cap, b]).run P w = .ok (.slice (some ⟨w.heap.size, 0, none⟩) (n + m) c) { w.alloc (.cells (ous ++ us ++ rest).toArray e) with drawn := w.drawn + 1 } := by
  obtain ⟨hut, hsz, hsz0⟩ := elemOf_spec ht
  obtain ⟨v, hv, hvr, hv1⟩ := zeros_run (w := w.drew) hz
  have hvl := (hvr (fun _ => none)).length
  have hvs : v.cells.size = sz := by simpa [hzl] using hvl
  obtain ⟨i, hi, his⟩ := info_of_size hsz
  have hby' : i.bytes = by_ := by
    unfold bytesOf? at hby
    simpa [hi] using hby
  have hzv : i.zero = some v := by
    have := hv
    simp [zeroValue, run_typeInfo' hi] at this
    cases hz' : i.zero with
    | none => simp [hz'] at this
    | some v' => simp [hz'] at this; rw [this]
  have hge := grownCap_ge w (n + m) cap e
  refine ⟨grownCap w (n + m) cap e, (Builtin.zeroCells v.cells (grownCap w (n + m) cap e - (n + m))).toList, hge, ?_, ?_⟩
  · simp only [List.length_append, hol, hul, Array.length_toList, size_zeroCells, hvs, ← Nat.add_mul]
    congr 1; omega
  · have g1 : ¬ n + m ≤ cap := by omega
    have g2 := growslice_fits (need := n + m) (old := cap) (bytes := i.bytes) (by omega) (by rw [hby']; omega)
    have h48' : ¬ (281474976710656 < Builtin.nextslicecap (n + m) cap * i.bytes) := by omega
    have h63' : ¬ (9223372036854775807 < ((n : Int) + (m : Int))) := by omega
    clear h30 h30b g2
    subst his
    have apps : ∀ zc : Array Value, (ous ++ (us ++ zc.toList)).toArray = ous.toArray ++ (us.toArray ++ zc) := fun zc => by
      apply Array.ext'
      simp
    rcases hu with hu | ⟨e', hu⟩
    · simp [Builtin.append_, run_underlying hut, run_underlying hu, sizeOf, typeInfo, zeroValue, hi, hzv, hm, g1, h63', h48', Question.forced, ho, hn, newRow, grownCap]
      rw [apps]
      rfl
    · simp [Builtin.append_, run_underlying hut, run_underlying hu, sizeOf, typeInfo, zeroValue, hi, hzv, hm, g1, h63', h48', Question.forced, ho, hn, newRow, grownCap]
      rw [apps]
      rfl

theorem drew_heap : w.drew.heap = w.heap := rfl

/-- append -/
theorem append_sound (h : HRel P B σ H w) {t u ty e : TypeId} {sz by_ : Nat} {z : List AV} (ht : elemOf? P t = some (e, sz)) (hby : bytesOf? P e = some by_) (hz : zerosOf P e = some z) (hzl : z.length = sz)
    (hu : P.underlying u = some .string ∨ ∃ e', P.underlying u = some (.slice e')) {x y v : AV} {a b : Value} (hx : VRel σ x a) (hy : VRel σ y b) {m : Nat} {news : List AV} (hel : H.elems sz y = some (m, news)) {H' : AH}
    (hv : H.appendTo e sz by_ x m news = some (v, H')) :
    ∃ σ' r w', (Builtin.append_ #[t, u] ty #[a, b]).run P w = .ok r w' ∧ HRel P B σ' H' w' ∧ Ext σ H w σ' H' w' ∧ VRel σ' v r := by
  obtain ⟨us, hur, hu1, hul, hlen, hfc⟩ := elems_sound h hel hy
  obtain ⟨hut, hsz, hsz0⟩ := elemOf_spec ht
  obtain ⟨i, hi, his⟩ := info_of_size hsz
  have hfull : ∀ w' : World, w'.heap = w.heap → (Builtin.firstCells sz m b).run P w' = .ok us.toArray w' := fun w' hw' => by
    have := hfc m (Nat.le_refl _) w' hw'
    rwa [← hul, List.take_length] at this
  have hstays : ∀ (base : Option Addr) (n cap : Nat), m = 0 → n ≤ cap → (Builtin.append_ #[t, u] ty #[.slice base n cap, b]).run P w = .ok (.slice base n cap) w := by
    intro base n cap hm hn
    subst hm
    have hus : us = [] := List.eq_nil_of_length_eq_zero (by simpa using hul)
    subst hus
    have hf := hfull w rfl
    rcases hu with hu | ⟨e', hu⟩ <;> cases base <;> simp [Builtin.append_, run_underlying hut, run_underlying hu, sizeOf, typeInfo, hi, his, hlen, hn, hf, storeCells]
  have newrow : ∀ (vs : List AV) (us' rest : List Value), VRelL σ vs us' → (∀ u ∈ us', u.oneCell' = true) →
      HRel P B (σ.set H.nm ⟨w.heap.size, 0, (us' ++ rest).length, sz⟩) (H.newRow e vs false).2 (w.drew.alloc (.cells (us' ++ rest).toArray e)) ∧
      Ext σ H w (σ.set H.nm ⟨w.heap.size, 0, (us' ++ rest).length, sz⟩) (H.newRow e vs false).2 (w.drew.alloc (.cells (us' ++ rest).toArray e)) := by
    intro vs us' rest hr h1
    have := (h.drew (w.drawn + 1)).newRow e vs false (us' ++ rest) sz hsz (by rw [List.length_append, hr.length]; omega) (fun hh => by cases hh) (fun i a ha => by
      obtain ⟨q, hq, hrq⟩ := hr.get ha
      exact ⟨q, by rw [List.getElem?_append_left (List.getElem?_eq_some_iff.1 hq).1]; exact hq, hrq, h1 q (List.mem_of_getElem? hq)⟩)
    exact ⟨this.1, (Ext.drew σ H w (w.drawn + 1)).trans this.2⟩
  unfold AH.appendTo at hv
  split at hv
  · -- to nil
    simp only [VRel] at hx
    subst hx
    split at hv
    · rename_i hm
      simp at hv
      obtain ⟨rfl, rfl⟩ := hv
      exact ⟨σ, _, w, hstays none 0 0 (Nat.eq_of_beq_eq_true hm) (Nat.le_refl _), h, Ext.refl _ _ _, by simp [VRel]⟩
    · rename_i hm
      split at hv
      · rename_i hb
        simp only [Bool.and_eq_true] at hb
        have b1 := Nat.le_of_ble_eq_true hb.1
        have b2 := Nat.le_of_ble_eq_true hb.2
        have hm0 : m ≠ 0 := fun e => hm (by subst e; rfl)
        simp only [Option.some.injEq, Prod.mk.injEq] at hv
        obtain ⟨rfl, rfl⟩ := hv
        obtain ⟨c, rest, g1, g2, g3⟩ := run_grow (w := w) (ty := ty) ht hby hz hzl hu (base := none) (n := 0) (cap := 0) (ous := []) (us := us) (by simp) hul (by simp [Builtin.firstCells]) (hlen w) (hfull w.drew rfl) (by omega) (by omega) (by simpa using b2)
        obtain ⟨n1, n2⟩ := newrow news us rest hur hu1
        simp only [Nat.zero_add, List.nil_append] at g1 g2 g3
        refine ⟨_, _, _, g3, n1, n2, ?_⟩
        rw [AH.newRow_fst]
        simp only [VRel]
        refine ⟨_, 0, c, Val.set_eq _ _ _, rfl, Nat.le_refl _, g1, by simp, fun _ => rfl, ?_, by omega⟩
        simp only [g2]; omega
      · cases hv
  · -- to a slice
    rename_i bl o n c s ex
    split at hv
    · cases hv
    rename_i hss
    have hs : s = sz := Nat.eq_of_beq_eq_true (by simpa using hss)
    subst hs
    have hx0 := hx
    simp only [VRel] at hx
    obtain ⟨L, x, cap, hL, rfl, h1, h2, h3, h4, h5, h6⟩ := hx
    split at hv
    · rename_i hm
      simp at hv
      obtain ⟨rfl, rfl⟩ := hv
      exact ⟨σ, _, w, hstays _ n cap (Nat.eq_of_beq_eq_true hm) (by omega), h, Ext.refl _ _ _, hx0⟩
    · rename_i hm
      have hm0 : m ≠ 0 := fun e => hm (by subst e; rfl)
      split at hv
      · rename_i hb
        simp only [Bool.and_eq_true] at hb
        have b1 := Nat.le_of_ble_eq_true hb.1
        have b2 := Nat.le_of_ble_eq_true hb.2
        unfold AH.append at hv
        split at hv
        · rename_i e' cl ver vs exr hrow
          obtain ⟨r1, r2, r3⟩ := row?_spec hrow
          split at hv
          · cases hv
          rename_i hee
          have hee' : e' = e := Nat.eq_of_beq_eq_true (by simpa using hee)
          subst hee'
          split at hv
          · cases hv
          · rename_i old hold
            have hread : H.elems s (.slc bl o n c s ex) = some (n, old) := by
              simp only [AH.elems, AH.read, hrow, hold]
            obtain ⟨ous, hor, ho1, hol, _, hofc⟩ := elems_sound h hread hx0
            have hofull : (Builtin.firstCells s n (.slice (some ⟨L.b, x, none⟩) n cap)).run P w.drew = .ok ous.toArray w.drew := by
              have := hofc n (Nat.le_refl _) w.drew rfl
              rwa [← hol, List.take_length] at this
            -- the two ways of the model
            have inplace : n + m ≤ cap → ∀ cs fr, w.heap[L.b]? = some (.cells cs e' fr) → Frozenless fr cs.size → L.o + o + (n * s + us.length) ≤ cs.size →
                (Builtin.append_ #[t, u] ty #[.slice (some ⟨L.b, x, none⟩) n cap, b]).run P w = .ok (.slice (some ⟨L.b, x, none⟩) (n + m) cap) (w.setRow L.b (putCells cs (L.o + o + n * s) us)) := by
              intro hr cs fr q1 q2 q3
              have hxo := h4 (by omega)
              have hst := run_storeCells_free P L.b (L.o + o + n * s) e' fr us 0 cs w q1 q2 (by omega) hu1
              simp only [Nat.add_zero] at hst
              have hadd : (⟨L.b, x, none⟩ : Addr).add (n * s) = ⟨L.b, L.o + o + n * s, none⟩ := by rw [Addr.add_mid, hxo]
              have hf := hfull w rfl
              rcases hu with hu | ⟨e', hu⟩ <;> simp [Builtin.append_, run_underlying hut, run_underlying hu, sizeOf, typeInfo, hi, his, hlen, hr, hf, hadd, hst]
            have anew : cap < n + m → ∃ c' rest, n + m ≤ c' ∧ (ous ++ us ++ rest).length = c' * s ∧
                (Builtin.append_ #[t, u] ty #[.slice (some ⟨L.b, x, none⟩) n cap, b]).run P w = .ok (.slice (some ⟨w.heap.size, 0, none⟩) (n + m) c') { w.alloc (.cells (ous ++ us ++ rest).toArray e') with drawn := w.drawn + 1 } :=
              fun hg => run_grow (w := w) (ty := ty) ht hby hz hzl hu hol hul hofull (hlen w) (hfull w.drew rfl) hg b1 b2
            split at hv
            · -- surely in place
              rename_i hroom
              have hroom' := Nat.le_of_ble_eq_true hroom
              split at hv
              · rename_i H2 hw
                simp only [Option.some.injEq, Prod.mk.injEq] at hv
                obtain ⟨rfl, rfl⟩ := hv
                obtain ⟨L', cs, e2, fr, hL', g1, g2, g3, g4, g5, _⟩ := write_spec h hw hur hu1
                rw [hL] at hL'; cases hL'
                have he2 : e2 = e' := by
                  obtain ⟨L2, hL2, _, _, cs2, fr2, k1, _⟩ := h.at_ bl _ r1 (by simp [r3])
                  rw [hL] at hL2; cases hL2
                  rw [k1] at g1; cases g1; rfl
                subst he2
                have hadd : L.o + (o + n * s) = L.o + o + n * s := by omega
                rw [hadd] at g3 g4 g5
                refine ⟨σ, _, _, inplace (by omega) cs fr g1 g2 (by omega), g4, g5, ?_⟩
                simp only [VRel]
                exact ⟨L, x, cap, hL, rfl, by omega, h2, h3, h4, h5, h6⟩
              · cases hv
            · rename_i hroom
              have hroom' : ¬ n + m ≤ c := fun e => hroom (Nat.ble_eq_true_of_le e)
              split at hv
              · -- surely anew
                rename_i hex
                have hcap := h3 hex
                simp only [Option.some.injEq, Prod.mk.injEq] at hv
                obtain ⟨rfl, rfl⟩ := hv
                obtain ⟨c', rest, g1, g2, g3⟩ := anew (by omega)
                obtain ⟨n1, n2⟩ := newrow (old ++ news) (ous ++ us) rest (hor.append hur) (fun q hq => by
                  rcases List.mem_append.1 hq with h' | h'
                  · exact ho1 q h'
                  · exact hu1 q h')
                refine ⟨_, _, _, g3, n1, n2, ?_⟩
                rw [AH.newRow_fst]
                simp only [VRel]
                refine ⟨_, 0, c', Val.set_eq _ _ _, rfl, Nat.le_refl _, g1, by simp, fun _ => rfl, ?_, h6⟩
                simp only [g2]; omega
              · split at hv
                · cases hv
                rename_i hexr
                have hexr' : exr = false := by simpa using hexr
                subst hexr'
                split at hv
                · cases hv
                rename_i hend
                have hend' : o + n * s = vs.length := Nat.eq_of_beq_eq_true (by simpa using hend)
                have holen := slice?_length hold
                -- one lemma for both ways and both states of the class
                have both : ∀ (vb : Nat) (bl1 : Tr AB) (H2 : AH), ((H.cls cl).2 = bl ∧ vb = ver ∧ bl1 = H.bl ∨ vb = ver + 1 ∧ bl1 = H.bl.set (some (.row e' cl (ver + 1) vs false)) bl) →
                    H2 = ⟨bl1.set (some (.row e' cl vb (old ++ news) false)) H.nx, H.cv.set (some (vb, H.nx)) cl, H.nx.succ, H.pk, H.rs⟩ →
                    ∃ σ' r w', (Builtin.append_ #[t, u] ty #[.slice (some ⟨L.b, x, none⟩) n cap, b]).run P w = .ok r w' ∧ HRel P B σ' H2 w' ∧ Ext σ H w σ' H2 w' ∧ VRel σ' (.slc H.nx 0 (n + m) (n + m) s false) r := by
                  intro vb bl1 H2 hcase hH2
                  obtain ⟨L2, hL2, _, hlt2, cs, fr, k1, k2, k3, k4, k5, k6, k7⟩ := h.at_ bl _ r1 (by simp [r3])
                  rw [hL] at hL2; cases hL2
                  by_cases hr : n + m ≤ cap
                  · have hfit : L.o + vs.length + us.length ≤ L.n := by
                      have : (n + m) * s ≤ cap * s := Nat.mul_le_mul_right _ hr
                      rw [Nat.add_mul] at this
                      omega
                    have hres := appendOpen_spec h r1 r2 hur hor hu1 ho1 hL (o := o) (by omega) (fun i hi => by rw [slice?_get hold i (by omega)]) vb bl1 hcase H2 hH2 (w.setRow L.b (putCells cs (L.o + vs.length) us)) ⟨L.b, L.o + o, L.n, L.s⟩
                      (.inl ⟨cs, fr, k1, rfl, rfl, hfit⟩)
                    have hip := inplace hr cs fr k1 (by rw [k2]; exact k3) (by omega)
                    have hadd : L.o + o + n * s = L.o + vs.length := by omega
                    rw [hadd] at hip
                    refine ⟨_, _, _, hip, hres.1, hres.2, ?_⟩
                    simp only [VRel]
                    exact ⟨_, x, cap, Val.set_eq _ _ _, rfl, Nat.le_refl _, hr, by simp, fun hc => by simpa using h4 hc, by simpa using h5, h6⟩
                  · obtain ⟨c', rest, g1, g2, g3⟩ := anew (by omega)
                    have hres := appendOpen_spec h r1 r2 hur hor hu1 ho1 hL (o := o) (by omega) (fun i hi => by rw [slice?_get hold i (by omega)]) vb bl1 hcase H2 hH2 _ _
                      (.inr ⟨rest, w.drawn + 1, rfl, rfl⟩)
                    refine ⟨_, _, _, g3, hres.1, hres.2, ?_⟩
                    simp only [VRel]
                    refine ⟨_, 0, c', Val.set_eq _ _ _, rfl, Nat.le_refl _, g1, by simp, fun _ => rfl, ?_, h6⟩
                    simp only [g2]; omega
                dsimp only at hv
                split at hv
                · rename_i htop
                  simp only [Option.some.injEq, Prod.mk.injEq] at hv
                  obtain ⟨rfl, rfl⟩ := hv
                  refine both ver H.bl _ (.inl ⟨Pos.beq_iff.1 htop, rfl, rfl⟩) ?_
                  rw [r2]
                · simp only [Option.some.injEq, Prod.mk.injEq] at hv
                  obtain ⟨rfl, rfl⟩ := hv
                  refine both (ver + 1) _ _ (.inr ⟨rfl, rfl⟩) ?_
                  rw [r2]
        · cases hv
      · cases hv
  · cases hv
end
end Go.AM
