/- THE ABSTRACT MACHINE: writes and appends. -/
import Derived.Test.YtehgboiiphlfeaaGreatDoorAmHeap
namespace Go.AM
open Go

theorem cls_set_eq (H : AH) (c : Pos) (x : Nat × Pos) (bl : Tr AB) (nx : Pos) {pk : Option Pos} {rs : List (List (Option Pos))} : (AH.cls ⟨bl, H.cv.set (some x) c, nx, pk, rs⟩ c) = x := by simp [AH.cls, Tr.get_set_eq]
theorem cls_set_ne (H : AH) {c c' : Pos} (x : Nat × Pos) (bl : Tr AB) (nx : Pos) {pk : Option Pos} {rs : List (List (Option Pos))} (h : c' ≠ c) : (AH.cls ⟨bl, H.cv.set (some x) c, nx, pk, rs⟩ c') = H.cls c' := by simp [AH.cls, Tr.get_set_ne _ _ _ _ h]

/-- the class's version goes up: its other rows do not count any more -/
theorem key_bump {P B σ H w} (h : HRel P B σ H w) {b c t : Pos} {bl : Tr AB} {nx : Pos} {pk : Option Pos} {rs : List (List (Option Pos))} (hbl : ∀ b', b' ≠ b → bl.get b' = H.bl.get b') :
    ∀ b', b' ≠ b → (AH.key ⟨bl, H.cv.set (some ((H.cls c).1 + 1, t)) c, nx, pk, rs⟩ b').isSome →
      AH.key ⟨bl, H.cv.set (some ((H.cls c).1 + 1, t)) c, nx, pk, rs⟩ b' = H.key b' ∧ H.key b' ≠ some (true, c) := by
  intro b' hne hs
  have hb' := hbl b' hne
  cases hx : H.bl.get b' with
  | none => simp [AH.key, hb', hx] at hs
  | some x =>
    cases x with
    | row e c' v' vs' ex' =>
      by_cases hc : c' = c
      · subst hc
        have hv := (h.cls b' e c' v' vs' ex' hx).2
        simp [AH.key, hb', hx, cls_set_eq] at hs
        omega
      · have e1 : AH.key ⟨bl, H.cv.set (some ((H.cls c).1 + 1, t)) c, nx, pk, rs⟩ b' = H.key b' := by
          simp [AH.key, hb', hx, cls_set_ne H _ _ _ hc]
        refine ⟨e1, fun e2 => ?_⟩
        rw [key_row hx] at e2
        split at e2
        · simp at e2; exact hc e2
        · cases e2
    | map es => simp [AH.key, hb', hx]
    | loop _ _ _ _ _ _ => simp [AH.key, hb', hx]

theorem rowAt_put {P : Program} {σ : Val} {w : World} {L : Loc} {e : TypeId} {vs : List AV} {ex : Bool} {l : List AV} {us : List Value} {cs : Array Value} {fr o} (g1 : w.heap[L.b]? = some (.cells cs e fr)) (g2 : cs.size = L.n) (g3 : Frozenless fr L.n) (g4 : L.o + vs.length ≤ L.n)
    (g5 : ex = true → L.o + vs.length = L.n) (g6 : (P.info? e).map (·.size) = some L.s) (g7 : ∀ (i : Nat) (a : AV), vs[i]? = some a → ∃ u, cs[L.o + i]? = some u ∧ VRel σ a u ∧ u.oneCell' = true)
    (hfit : o + l.length ≤ vs.length) (hrel : VRelL σ l us) (hone : ∀ u ∈ us, u.oneCell' = true) :
    RowAt P σ (w.setRow L.b (putCells cs (L.o + o) us)) L e (putAt l vs o) ex := by
  have hl := hrel.length
  have hsz : (L.o + o) + us.length ≤ cs.size := by omega
  refine ⟨putCells cs (L.o + o) us, fr, setRow_heap w L.b cs _ e fr g1, by rw [putCells_size hsz, g2], g3, by rw [putAt_length l vs o hfit]; exact g4, by rw [putAt_length l vs o hfit]; exact g5, g6, ?_⟩
  intro i a ha
  rw [putAt_get l vs o i hfit] at ha
  rw [putCells_get hsz]
  by_cases hc : o ≤ i ∧ i < o + l.length
  · rw [if_pos hc] at ha
    obtain ⟨u, hu, hr⟩ := hrel.get ha
    refine ⟨u, ?_, hr, hone u (List.mem_of_getElem? hu)⟩
    rw [if_pos (by omega)]
    rw [← hu]; congr 1; omega
  · rw [if_neg hc] at ha
    obtain ⟨u, hu, hr⟩ := g7 i a ha
    exact ⟨u, by rw [if_neg (by omega)]; exact hu, hr⟩

/-- a write -/
theorem write_spec {P B σ H w} (h : HRel P B σ H w) {b o l H'} (hw : H.write b o l = some H') {us : List Value} (hrel : VRelL σ l us) (hone : ∀ u ∈ us, u.oneCell' = true) :
    ∃ L cs e fr, σ b = some L ∧ w.heap[L.b]? = some (.cells cs e fr) ∧ Frozenless fr cs.size ∧ L.o + o + us.length ≤ cs.size ∧
      HRel P B σ H' (w.setRow L.b (putCells cs (L.o + o) us)) ∧ Ext σ H w σ H' (w.setRow L.b (putCells cs (L.o + o) us)) ∧
      (∃ e c v vs ex c' v', H.row? b = some (e, c, v, vs, ex) ∧ o + l.length ≤ vs.length ∧ H'.row? b = some (e, c', v', putAt l vs o, ex)) := by
  unfold AH.write at hw
  split at hw
  · rename_i e c v vs ex hrow
    obtain ⟨h1, h2, h3⟩ := row?_spec hrow
    obtain ⟨L, hL, hB, hlt, cs, fr, g1, g2, g3, g4, g5, g6, g7⟩ := h.at_ b _ h1 (by simp [h3])
    split at hw
    · rename_i hfit0
      have hfit : o + l.length ≤ vs.length := Nat.le_of_ble_eq_true hfit0
      have hl := hrel.length
      have hsz : (L.o + o) + us.length ≤ cs.size := by omega
      have hrowat := rowAt_put (l := l) (o := o) g1 g2 g3 g4 g5 g6 g7 hfit hrel hone
      have hother : ∀ k, k ≠ L.b → (w.setRow L.b (putCells cs (L.o + o) us)).heap[k]? = w.heap[k]? := fun k hk => setRow_other w L.b k _ hk
      refine ⟨L, cs, e, fr, hL, g1, by rw [g2]; exact g3, hsz, ?_⟩
      have hkb : (H.key b).isSome := by simp [h3]
      have hcb := h.cls b e c v vs ex h1
      have hbl : ∀ (x : AB) b', b' ≠ b → (H.bl.set (some x) b).get b' = H.bl.get b' := fun x b' hne => Tr.get_set_ne _ _ _ _ hne
      dsimp only at hw
      split at hw
      · rename_i hcb0
        have hc : c = b := Pos.beq_iff.1 hcb0
        subst hc
        split at hw
        · -- the only row of its class
          rename_i htop0
          have htop : (H.cls c).2 = c := Pos.beq_iff.1 htop0
          cases hw
          have hkey : ∀ b', b' ≠ c → AH.key { H with bl := H.bl.set (some (.row e c v (putAt l vs o) ex)) c } b' = H.key b' := fun b' hne => AH.key_congr (hbl _ b' hne) fun _ _ => rfl
          have hkeyc : AH.key { H with bl := H.bl.set (some (.row e c v (putAt l vs o) ex)) c } c = some (true, c) := by simp [AH.key, Tr.get_set_eq]; exact h2
          have hres := h.over (b := c) (x' := .row e c v (putAt l vs o) ex) (L := L) hL hkb { H with bl := H.bl.set (some (.row e c v (putAt l vs o) ex)) c } rfl rfl rfl rfl (fun r hr => h.kept.cv r hr) (fun _ _ _ _ _ hx hr => by cases hx; exact h.kept.cls _ hr _ _ _ _ _ h1) (w' := w.setRow L.b (putCells cs (L.o + o) us)) rfl rfl rfl (by simp) hother
            (fun b' hne hs => ⟨hkey b' hne, fun e2 => hne (h.solo b' c (by rw [e2, h3]) htop)⟩) hrowat h.newC
            (fun b' e' c' v' vs' ex' hx => by
              by_cases hne : b' = c
              · subst hne
                simp only [Tr.get_set_eq, Option.some.injEq, AB.row.injEq] at hx
                obtain ⟨_, rfl, rfl, _, _⟩ := hx
                exact hcb
              · rw [hbl _ b' hne] at hx; exact h.cls b' e' c' v' vs' ex' hx)
            (fun b' c' hk hc' => by
              by_cases hne : b' = c
              · subst hne; rw [hkeyc] at hk; simp at hk; exact hk
              · rw [hkey b' hne] at hk; exact h.solo b' c' hk hc')
            (fun b1 c1 t L1 Lt e1 v1 vs1 ex1 e2 v2 vs2 ex2 k1 ht k2 s1 s2 hbb q1 q2 => by
              by_cases n1 : b1 = c
              · subst n1
                rw [hkeyc] at k1
                simp at k1
                subst k1
                have : t = b1 := by rw [← ht]; exact htop
                subst this
                rw [s1] at s2; cases s2; rw [q1] at q2; cases q2; exact Nat.le_refl _
              · by_cases n2 : t = c
                · subst n2
                  rw [hkeyc] at k2
                  simp at k2
                  subst k2
                  rw [hkey b1 n1] at k1
                  exact absurd (h.solo b1 t k1 htop) n1
                · rw [hkey b1 n1] at k1; rw [hkey t n2] at k2; rw [hbl _ b1 n1] at q1; rw [hbl _ t n2] at q2
                  exact h.top b1 c1 t L1 Lt e1 v1 vs1 ex1 e2 v2 vs2 ex2 k1 ht k2 s1 s2 hbb q1 q2)
          exact ⟨hres.1, hres.2, e, c, v, vs, ex, c, v, hrow, hfit, by simp [AH.row?, Tr.get_set_eq]; exact h2⟩
        · -- the class's first row: the others go
          cases hw
          subst h2
          have hkey := key_bump h (b := c) (c := c) (t := c) (nx := H.nx) (pk := H.pk) (rs := H.rs) (hbl (.row e c ((H.cls c).1 + 1) (putAt l vs o) ex))
          have hkeyc : AH.key ⟨H.bl.set (some (.row e c ((H.cls c).1 + 1) (putAt l vs o) ex)) c, H.cv.set (some ((H.cls c).1 + 1, c)) c, H.nx, H.pk, H.rs⟩ c = some (true, c) := by
            simp [AH.key, Tr.get_set_eq, cls_set_eq]
          have hres := h.over (b := c) (x' := .row e c ((H.cls c).1 + 1) (putAt l vs o) ex) (L := L) hL hkb ⟨H.bl.set (some (.row e c ((H.cls c).1 + 1) (putAt l vs o) ex)) c, H.cv.set (some ((H.cls c).1 + 1, c)) c, H.nx, H.pk, H.rs⟩ rfl rfl rfl rfl (fun r hr => by
              have hne : r ≠ c := fun e => h.kept.cls r hr _ _ _ _ _ (e ▸ h1)
              simp only [Tr.get_set_ne _ _ _ _ hne]; exact h.kept.cv r hr) (fun _ _ _ _ _ hx hr => by cases hx; exact h.kept.cls _ hr _ _ _ _ _ h1) (w' := w.setRow L.b (putCells cs (L.o + o) us)) rfl rfl rfl (by simp) hother
            (fun b' hne hs => by rw [h3]; exact hkey b' hne hs) hrowat
            (fun b' hb' => by
              have hne : b' ≠ c := fun e => by rw [e] at hb'; omega
              simp only [Tr.get_set_ne _ _ _ _ hne]; exact h.newC b' hb')
            (fun b' e' c' v' vs' ex' hx => by
              by_cases hne : b' = c
              · subst hne
                simp only [Tr.get_set_eq, Option.some.injEq, AB.row.injEq] at hx
                obtain ⟨_, rfl, rfl, _, _⟩ := hx
                refine ⟨hcb.1, ?_⟩
                rw [cls_set_eq]
                exact Nat.le_refl _
              · rw [hbl _ b' hne] at hx
                have hh := h.cls b' e' c' v' vs' ex' hx
                refine ⟨hh.1, ?_⟩
                by_cases hcc : c' = c
                · subst hcc; rw [cls_set_eq]; simp only; omega
                · rw [cls_set_ne H _ _ _ hcc]; exact hh.2)
            (fun b' c' hk hc' => by
              by_cases hne : b' = c
              · subst hne; rw [hkeyc] at hk; simp at hk; exact hk
              · have hh := hkey b' hne (by rw [hk]; rfl)
                rw [hh.1] at hk
                have hcc : c' ≠ c := fun e => hh.2 (by rw [hk, e])
                rw [cls_set_ne H _ _ _ hcc] at hc'
                exact h.solo b' c' hk hc')
            (fun b1 c1 t L1 Lt e1 v1 vs1 ex1 e2 v2 vs2 ex2 k1 ht k2 s1 s2 hbb q1 q2 => by
              by_cases n1 : b1 = c
              · subst n1
                rw [hkeyc] at k1
                simp at k1
                subst k1
                rw [cls_set_eq] at ht
                simp only at ht
                subst ht
                rw [s1] at s2; cases s2; rw [q1] at q2; cases q2; exact Nat.le_refl _
              · have hh1 := hkey b1 n1 (by rw [k1]; rfl)
                rw [hh1.1] at k1
                have hcc : c1 ≠ c := fun e => hh1.2 (by rw [k1, e])
                rw [cls_set_ne H _ _ _ hcc] at ht
                by_cases n2 : t = c
                · subst n2
                  rw [hkeyc] at k2
                  simp at k2
                  exact absurd k2.symm hcc
                · have hh2 := hkey t n2 (by rw [k2]; rfl)
                  rw [hh2.1] at k2; rw [hbl _ b1 n1] at q1; rw [hbl _ t n2] at q2
                  exact h.top b1 c1 t L1 Lt e1 v1 vs1 ex1 e2 v2 vs2 ex2 k1 ht k2 s1 s2 hbb q1 q2)
          exact ⟨hres.1, hres.2, e, c, _, vs, ex, c, (H.cls c).1 + 1, hrow, hfit, by simp [AH.row?, Tr.get_set_eq, cls_set_eq]⟩
      · -- a row of another class: it gets a class of its own
        rename_i hcb0
        have hcb' : c ≠ b := fun e => hcb0 (Pos.beq_iff.2 e)
        split at hw
        · cases hw
        · rename_i hcv
          cases hw
          subst h2
          have hkey := key_bump h (b := b) (c := c) (t := c) (nx := H.nx) (pk := H.pk) (rs := H.rs) (hbl (.row e b 0 (putAt l vs o) ex))
          have hclsb : AH.cls ⟨H.bl.set (some (.row e b 0 (putAt l vs o) ex)) b, H.cv.set (some ((H.cls c).1 + 1, c)) c, H.nx, H.pk, H.rs⟩ b = (0, b) := by
            rw [cls_set_ne H _ _ _ (Ne.symm hcb')]; simp [AH.cls, hcv]
          have hkeyb : AH.key ⟨H.bl.set (some (.row e b 0 (putAt l vs o) ex)) b, H.cv.set (some ((H.cls c).1 + 1, c)) c, H.nx, H.pk, H.rs⟩ b = some (true, b) := by
            simp [AH.key, Tr.get_set_eq, hclsb]
          have nob : ∀ b', b' ≠ b → H.key b' ≠ some (true, b) := fun b' hne hk => hne (h.solo b' b hk (by simp [AH.cls, hcv]))
          have hres := h.over (b := b) (x' := .row e b 0 (putAt l vs o) ex) (L := L) hL hkb ⟨H.bl.set (some (.row e b 0 (putAt l vs o) ex)) b, H.cv.set (some ((H.cls c).1 + 1, c)) c, H.nx, H.pk, H.rs⟩ rfl rfl rfl rfl (fun r hr => by
              have hne : r ≠ c := fun e => h.kept.cls r hr _ _ _ _ _ (e ▸ h1)
              simp only [Tr.get_set_ne _ _ _ _ hne]; exact h.kept.cv r hr) (fun _ _ _ _ _ hx hr => by cases hx; have := h.kept.bl _ hr; rw [h1] at this; cases this) (w' := w.setRow L.b (putCells cs (L.o + o) us)) rfl rfl rfl (by simp) hother
            (fun b' hne hs => by rw [h3]; exact hkey b' hne hs) hrowat
            (fun b' hb' => by
              have hne : b' ≠ c := fun e => by rw [e] at hb'; omega
              simp only [Tr.get_set_ne _ _ _ _ hne]; exact h.newC b' hb')
            (fun b' e' c' v' vs' ex' hx => by
              by_cases hne : b' = b
              · subst hne
                simp only [Tr.get_set_eq, Option.some.injEq, AB.row.injEq] at hx
                obtain ⟨_, rfl, rfl, _, _⟩ := hx
                exact ⟨toNat_lt_of_bl h h1, Nat.zero_le _⟩
              · rw [hbl _ b' hne] at hx
                have hh := h.cls b' e' c' v' vs' ex' hx
                refine ⟨hh.1, ?_⟩
                by_cases hcc : c' = c
                · subst hcc; rw [cls_set_eq]; simp only; omega
                · rw [cls_set_ne H _ _ _ hcc]; exact hh.2)
            (fun b' c' hk hc' => by
              by_cases hne : b' = b
              · subst hne; rw [hkeyb] at hk; simp at hk; exact hk
              · have hh := hkey b' hne (by rw [hk]; rfl)
                rw [hh.1] at hk
                have hcc : c' ≠ c := fun e => hh.2 (by rw [hk, e])
                rw [cls_set_ne H _ _ _ hcc] at hc'
                exact h.solo b' c' hk hc')
            (fun b1 c1 t L1 Lt e1 v1 vs1 ex1 e2 v2 vs2 ex2 k1 ht k2 s1 s2 hbb q1 q2 => by
              by_cases n1 : b1 = b
              · subst n1
                rw [hkeyb] at k1
                simp at k1
                subst k1
                rw [hclsb] at ht
                simp only at ht
                subst ht
                rw [s1] at s2; cases s2; rw [q1] at q2; cases q2; exact Nat.le_refl _
              · have hh1 := hkey b1 n1 (by rw [k1]; rfl)
                rw [hh1.1] at k1
                have hcc : c1 ≠ c := fun e => hh1.2 (by rw [k1, e])
                rw [cls_set_ne H _ _ _ hcc] at ht
                by_cases n2 : t = b
                · subst n2
                  rw [hkeyb] at k2
                  simp at k2
                  exact absurd (k2 ▸ k1) (nob b1 n1)
                · have hh2 := hkey t n2 (by rw [k2]; rfl)
                  rw [hh2.1] at k2; rw [hbl _ b1 n1] at q1; rw [hbl _ t n2] at q2
                  exact h.top b1 c1 t L1 Lt e1 v1 vs1 ex1 e2 v2 vs2 ex2 k1 ht k2 s1 s2 hbb q1 q2)
          exact ⟨hres.1, hres.2, e, c, _, vs, ex, b, 0, hrow, hfit, by simp [AH.row?, Tr.get_set_eq, hclsb]⟩
    · cases hw
  · cases hw

/-- the stores of a write, in the model -/
theorem run_storeCells_free (P : Program) (g o : Nat) (t : TypeId) (fr : Nat × Nat) : ∀ (vs : List Value) (i : Nat) (cur : Array Value) (w : World), w.heap[g]? = some (.cells cur t fr) → Frozenless fr cur.size → o + i + vs.length ≤ cur.size → (∀ v ∈ vs, v.oneCell' = true) →
    (storeCells ⟨g, o, none⟩ vs i).run P w = .ok () (w.setRow g (putCells cur (o + i) vs))
  | [], i, cur, w, hg, _, _, _ => by
    simp only [storeCells, putCells, List.append_nil, List.length_nil, Nat.add_zero, List.take_append_drop, Array.toArray_toList]
    rw [setRow_self w g cur t fr hg]
    rfl
  | v :: rest, i, cur, w, hg, hf, hl, h1 => by
    have hi : o + i < cur.size := by simp at hl; omega
    have hadd : (⟨g, o, none⟩ : Addr).add i = ⟨g, o + i, none⟩ := by unfold Addr.add; split <;> simp_all
    have hcell : w.cell? ⟨g, o + i, none⟩ = some cur[o + i] := by simp [World.cell?, hg, hi]
    have hfro : w.frozen? ⟨g, o + i, none⟩ = false := by
      have := hf (o + i) hi
      simp only [World.frozen?, hg]
      simpa using this
    have hst : (store ((⟨g, o, none⟩ : Addr).add i) v).run P w = .ok () (w.setRow g (cur.setIfInBounds (o + i) v)) := by
      rw [hadd, run_store P w _ v _ (h1 v (by simp)), hcell]
      simp [hfro, setCell_eq_setRow w g (o + i) cur t fr v hg]
    have ih := run_storeCells_free P g o t fr rest (i + 1) (cur.setIfInBounds (o + i) v) (w.setRow g (cur.setIfInBounds (o + i) v)) (setRow_heap w g cur _ t _ hg) (by simpa using hf) (by simp at hl ⊢; omega) (fun x hx => h1 x (by simp [hx]))
    simp only [storeCells, Sem.run_bind, hst, Result.andThen_ok, ih, setRow_setRow]
    congr 2
    apply Array.ext_getElem?
    intro j
    rw [putCells_get (by simp at hl ⊢; omega), putCells_get (by simpa using hl)]
    simp only [List.length_cons, Array.getElem?_setIfInBounds]
    by_cases h2 : o + (i + 1) ≤ j ∧ j < o + (i + 1) + rest.length
    · rw [if_pos h2, if_pos (by omega)]
      have : j - (o + i) = (j - (o + (i + 1))) + 1 := by omega
      rw [this]; simp
    · rw [if_neg h2]
      by_cases h3 : o + i = j
      · subst h3; simp [hi]
      · rw [if_neg h3, if_neg (by omega)]
/-- behind a slice whose room is not known: the new row of the same class, in place (the model's block is the same one) or anew -/
theorem appendOpen_spec {P B σ H w} (h : HRel P B σ H w) {b e c v vs} (hb : H.bl.get b = some (.row e c v vs false)) (hv : (H.cls c).1 = v)
    {news old : List AV} {us ous : List Value} (hrel : VRelL σ news us) (horel : VRelL σ old ous) (hone : ∀ u ∈ us, u.oneCell' = true) (hoone : ∀ u ∈ ous, u.oneCell' = true) {L : Loc} (hL : σ b = some L) {o : Nat} (ho : o + old.length = vs.length)
    (hold : ∀ i, i < old.length → old[i]? = vs[o + i]?) (vb : Nat) (bl1 : Tr AB)
    (hcase : ((H.cls c).2 = b ∧ vb = v ∧ bl1 = H.bl) ∨ (vb = v + 1 ∧ bl1 = H.bl.set (some (.row e c (v + 1) vs false)) b))
    (H' : AH) (hH' : H' = ⟨bl1.set (some (.row e c vb (old ++ news) false)) H.nx, H.cv.set (some (vb, H.nx)) c, H.nx.succ, H.pk, H.rs⟩)
    (w' : World) (L' : Loc)
    (hw : (∃ cs fr, w.heap[L.b]? = some (.cells cs e fr) ∧ w' = w.setRow L.b (putCells cs (L.o + vs.length) us) ∧ L' = ⟨L.b, L.o + o, L.n, L.s⟩ ∧ L.o + vs.length + us.length ≤ L.n) ∨
      (∃ rest n, w' = { w.alloc (.cells (ous ++ us ++ rest).toArray e) with drawn := n } ∧ L' = ⟨w.heap.size, 0, (ous ++ us ++ rest).length, L.s⟩)) :
    HRel P B (σ.set H.nx L') H' w' ∧ Ext σ H w (σ.set H.nx L') H' w' := by
  subst hH'
  have hnone : σ H.nx = none := h.newS _ (Nat.le_refl _)
  have hle : σ.le (σ.set H.nx L') := Val.le_set L' hnone
  have hbn : b ≠ H.nx := ne_nx_of_bl h hb
  have hkb : H.key b = some (true, c) := by rw [key_row hb, if_pos hv]
  obtain ⟨L0, hL0, hB0, hlt0, cs0, fr0, g1, g2, g3, g4, g5, g6, g7⟩ := h.at_ b _ hb (by simp [hkb])
  have e0 : L0 = L := by rw [hL0] at hL; exact Option.some.inj hL
  subst e0
  have hcb := h.cls b e c v vs false hb
  have hcn : c ≠ H.nx := fun e => by rw [e] at hcb; omega
  have olen := horel.length
  have nlen := hrel.length
  -- the blocks of H', one by one
  have q0 : ∀ t, t ≠ H.nx → t ≠ b → (bl1.set (some (AB.row e c vb (old ++ news) false)) H.nx).get t = H.bl.get t := fun t h1 h2 => by
    rw [Tr.get_set_ne _ _ _ _ h1]
    rcases hcase with ⟨_, _, rfl⟩ | ⟨_, rfl⟩
    · rfl
    · exact Tr.get_set_ne _ _ _ _ h2
  have qb : (bl1.set (some (AB.row e c vb (old ++ news) false)) H.nx).get b = some (.row e c vb vs false) := by
    rw [Tr.get_set_ne _ _ _ _ hbn]
    rcases hcase with ⟨_, rfl, rfl⟩ | ⟨rfl, rfl⟩
    · exact hb
    · exact Tr.get_set_eq _ _ _
  have qn : (bl1.set (some (AB.row e c vb (old ++ news) false)) H.nx).get H.nx = some (.row e c vb (old ++ news) false) := Tr.get_set_eq _ _ _
  have hkn : AH.key ⟨bl1.set (some (.row e c vb (old ++ news) false)) H.nx, H.cv.set (some (vb, H.nx)) c, H.nx.succ, H.pk, H.rs⟩ H.nx = some (true, c) := by simp [AH.key, qn, cls_set_eq]
  have hkb' : AH.key ⟨bl1.set (some (.row e c vb (old ++ news) false)) H.nx, H.cv.set (some (vb, H.nx)) c, H.nx.succ, H.pk, H.rs⟩ b = some (true, c) := by simp [AH.key, qb, cls_set_eq]
  -- the other blocks that count: as before; of the class only where the version stays
  have hko : ∀ t, t ≠ H.nx → t ≠ b → (AH.key ⟨bl1.set (some (.row e c vb (old ++ news) false)) H.nx, H.cv.set (some (vb, H.nx)) c, H.nx.succ, H.pk, H.rs⟩ t).isSome →
      AH.key ⟨bl1.set (some (.row e c vb (old ++ news) false)) H.nx, H.cv.set (some (vb, H.nx)) c, H.nx.succ, H.pk, H.rs⟩ t = H.key t ∧ (H.key t = some (true, c) → (H.cls c).2 = b ∧ vb = v) := by
    intro t h1 h2 hs
    have ht := q0 t h1 h2
    cases hx : H.bl.get t with
    | none => simp [AH.key, ht, hx] at hs
    | some x =>
      cases x with
      | row e1 c1 v1 vs1 ex1 =>
        by_cases hc : c1 = c
        · subst hc
          have hv1 := (h.cls t e1 c1 v1 vs1 ex1 hx).2
          simp [AH.key, ht, hx, cls_set_eq] at hs
          rcases hcase with ⟨a1, a2, a3⟩ | ⟨a1, a2⟩
          · refine ⟨?_, fun _ => ⟨a1, a2⟩⟩
            simp only [AH.key, ht, hx, cls_set_eq]
            rw [hv, a2]
          · omega
        · have e1 : AH.key ⟨bl1.set (some (.row e c vb (old ++ news) false)) H.nx, H.cv.set (some (vb, H.nx)) c, H.nx.succ, H.pk, H.rs⟩ t = H.key t := by
            simp [AH.key, ht, hx, cls_set_ne H _ _ _ hc]
          refine ⟨e1, fun e2 => ?_⟩
          rw [key_row hx] at e2
          split at e2
          · simp at e2; exact absurd e2 hc
          · cases e2
      | map es => simp [AH.key, ht, hx]
      | loop _ _ _ _ _ _ => simp [AH.key, ht, hx]
  have hltk : ∀ t Lt, (H.key t).isSome → σ t = some Lt → Lt.b < w.heap.size := fun t Lt hs hs' => by
    obtain ⟨y, hy⟩ := key_isSome_bl hs
    obtain ⟨L2, r1, _, r3, _⟩ := h.at_ t y hy hs
    rw [r1] at hs'; cases hs'; exact r3
  have hsold : ∀ t Lt, t ≠ H.nx → (σ.set H.nx L') t = some Lt → σ t = some Lt := fun t Lt hne e => by rwa [Val.set_ne _ _ hne] at e
  -- the world: other blocks as before; this block's first cells as before
  have hwsize : w.heap.size ≤ w'.heap.size := by
    rcases hw with ⟨cs, fr, _, rfl, _, _⟩ | ⟨rest, n, rfl, _⟩
    · simp
    · simp
  have hwk : ∀ k, k < w.heap.size → k ≠ L0.b → w'.heap[k]? = w.heap[k]? := fun k hk hne => by
    rcases hw with ⟨cs, fr, _, rfl, _, _⟩ | ⟨rest, n, rfl, _⟩
    · exact setRow_other w L0.b k _ hne
    · exact heap_alloc_old w _ _ hk
  -- a row that lies in this block and ends ahead of the new cells
  have hrow' : ∀ e1 c1 v1 vs1 ex1 L1, L1.b = L0.b → L1.o + vs1.length ≤ L0.o + vs.length → BRel P σ w L1 (.row e1 c1 v1 vs1 ex1) → BRel P (σ.set H.nx L') w' L1 (.row e1 c1 v1 vs1 ex1) := by
    intro e1 c1 v1 vs1 ex1 L1 hbb hend hr
    obtain ⟨cs1, fr1, r1, r2, r3, r4, r5, r6, r7⟩ := hr
    rcases hw with ⟨cs, fr, a1, rfl, _, a4⟩ | ⟨rest, n, rfl, _⟩
    · rw [hbb] at r1
      rw [r1] at a1; cases a1
      rw [r1] at g1; cases g1
      have hfit : L0.o + vs.length + us.length ≤ cs0.size := by omega
      refine ⟨putCells cs0 (L0.o + vs.length) us, fr0, by rw [hbb]; exact setRow_heap w L0.b cs0 _ e fr0 r1, by rw [putCells_size hfit]; exact r2, r3, r4, r5, r6, fun i a ha => ?_⟩
      obtain ⟨u, hu, hr', h1'⟩ := r7 i a ha
      have hi : i < vs1.length := (List.getElem?_eq_some_iff.1 ha).1
      refine ⟨u, ?_, VRel.mono hle _ _ hr', h1'⟩
      rw [putCells_get hfit, if_neg (by omega)]
      exact hu
    · refine BRel.keep (w := w) (x := .row e1 c1 v1 vs1 ex1) hle ?_ ⟨cs1, fr1, r1, r2, r3, r4, r5, r6, r7⟩
      rw [hbb]
      exact heap_alloc_old w _ _ hlt0
  constructor
  · refine ⟨?_, ?_, ?_, ?_, ?_, ?_, ?_, ?_, Nat.le_trans h.hB hwsize, ?_⟩
    rotate_left 8
    · refine h.kept.over rfl rfl (by simp only [Pos.toNat_succ]; omega) (fun r hr => ?_) (fun r hr => ?_) (fun r hr => ?_) (fun r hr t e1 v1 vs1 ex1 hh => ?_)
      · have h1 : r ≠ H.nx := fun e => by have := h.kept.lt r hr; rw [e] at this; omega
        have h2 : r ≠ b := fun e => by have := h.kept.bl r hr; rw [e, hb] at this; cases this
        rw [q0 r h1 h2]; exact h.kept.bl r hr
      · have h1 : r ≠ c := fun e => h.kept.cls r hr _ _ _ _ _ (e ▸ hb)
        simp only [Tr.get_set_ne _ _ _ _ h1]; exact h.kept.cv r hr
      · have h1 : r ≠ H.nx := fun e => by have := h.kept.lt r hr; rw [e] at this; omega
        rw [Val.set_ne _ _ h1]; exact h.kept.val r hr
      · by_cases h1 : t = H.nx
        · subst h1; rw [qn] at hh; cases hh; exact h.kept.cls _ hr _ _ _ _ _ hb
        · by_cases h2 : t = b
          · subst h2; rw [qb] at hh; cases hh; exact h.kept.cls _ hr _ _ _ _ _ hb
          · rw [q0 t h1 h2] at hh; exact h.kept.cls r hr _ _ _ _ _ hh
    · intro t x hx hs
      by_cases h1 : t = H.nx
      · subst h1
        rw [qn] at hx; cases hx
        refine ⟨L', Val.set_eq _ _ _, ?_, ?_, ?_⟩
        · rcases hw with ⟨cs, fr, _, _, rfl, _⟩ | ⟨rest, n, _, rfl⟩
          · exact hB0
          · exact h.hB
        · rcases hw with ⟨cs, fr, _, rfl, rfl, _⟩ | ⟨rest, n, rfl, rfl⟩
          · simpa using hlt0
          · simp
        · rcases hw with ⟨cs, fr, a1, rfl, rfl, a4⟩ | ⟨rest, n, rfl, rfl⟩
          · rw [g1] at a1; cases a1
            have hfit : L0.o + vs.length + us.length ≤ cs0.size := by omega
            refine ⟨putCells cs0 (L0.o + vs.length) us, fr0, setRow_heap w L0.b cs0 _ e fr0 g1, by rw [putCells_size hfit]; exact g2, g3, by simp; omega, by simp, g6, fun i a ha => ?_⟩
            rw [putCells_get hfit]
            by_cases hi : i < old.length
            · rw [List.getElem?_append_left hi, hold i hi] at ha
              obtain ⟨u, hu, hr, h1'⟩ := g7 _ _ ha
              refine ⟨u, ?_, VRel.mono hle _ _ hr, h1'⟩
              rw [if_neg (by simp only; omega)]
              simpa [Nat.add_assoc] using hu
            · rw [List.getElem?_append_right (by omega)] at ha
              obtain ⟨u, hu, hr⟩ := hrel.get ha
              have hi2 := (List.getElem?_eq_some_iff.1 ha).1
              refine ⟨u, ?_, VRel.mono hle _ _ hr, hone u (List.mem_of_getElem? hu)⟩
              rw [if_pos (by simp only; omega), ← hu]
              congr 1; simp only; omega
          · refine ⟨(ous ++ us ++ rest).toArray, (0, 0), heap_alloc_new w _, by simp, fun i _ => by simp, by simp; omega, by simp, g6, fun i a ha => ?_⟩
            have hh := (horel.append hrel).get ha
            obtain ⟨u, hu, hr⟩ := hh
            have hi := (List.getElem?_eq_some_iff.1 hu).1
            refine ⟨u, ?_, VRel.mono hle _ _ hr, by
              rcases List.mem_append.1 (List.mem_of_getElem? hu) with h' | h'
              · exact hoone u h'
              · exact hone u h'⟩
            simp only [List.getElem?_toArray, Nat.zero_add]
            rw [List.getElem?_append_left hi]; exact hu
      · by_cases h2 : t = b
        · subst h2
          rw [qb] at hx; cases hx
          refine ⟨L0, by rw [Val.set_ne _ _ h1]; exact hL0, hB0, Nat.lt_of_lt_of_le hlt0 hwsize, hrow' e c vb vs false L0 rfl (Nat.le_refl _) ⟨cs0, fr0, g1, g2, g3, g4, g5, g6, g7⟩⟩
        · have hbl := q0 t h1 h2
          have hx0 : H.bl.get t = some x := by rw [← hbl]; exact hx
          obtain ⟨k1, k2⟩ := hko t h1 h2 hs
          obtain ⟨Lt, r1, r2, r3, r4⟩ := h.at_ t x hx0 (k1 ▸ hs)
          refine ⟨Lt, by rw [Val.set_ne _ _ h1]; exact r1, r2, Nat.lt_of_lt_of_le r3 hwsize, ?_⟩
          by_cases hbb : Lt.b = L0.b
          · have hkt : H.key t = some (true, c) := by
              obtain ⟨k, hk⟩ := Option.isSome_iff_exists.1 (k1 ▸ hs)
              by_cases hkk : k = (true, c)
              · rw [hk, hkk]
              · exact absurd hbb (h.sep t b k (true, c) Lt L0 hk hkb hkk r1 hL0)
            obtain ⟨e1, v1, vs1, ex1, p1, p2⟩ := key_some_row hkt
            rw [p1] at hx0; cases hx0
            have := h.top t c b Lt L0 _ _ _ _ _ _ _ _ hkt (k2 hkt).1 hkb r1 hL0 hbb p1 hb
            exact hrow' _ _ _ _ _ Lt hbb this r4
          · exact BRel.keep hle (hwk _ r3 hbb) r4
    · -- apart
      have main : ∀ t1 t2 k1 k2 L1 L2, t1 ≠ H.nx → AH.key ⟨bl1.set (some (.row e c vb (old ++ news) false)) H.nx, H.cv.set (some (vb, H.nx)) c, H.nx.succ, H.pk, H.rs⟩ t1 = some k1 →
          AH.key ⟨bl1.set (some (.row e c vb (old ++ news) false)) H.nx, H.cv.set (some (vb, H.nx)) c, H.nx.succ, H.pk, H.rs⟩ t2 = some k2 → k1 ≠ k2 → (σ.set H.nx L') t1 = some L1 → (σ.set H.nx L') t2 = some L2 → L1.b ≠ L2.b := by
        intro t1 t2 k1 k2 L1 L2 n1 e1 e2 hne s1 s2
        have s1' := hsold t1 L1 n1 s1
        have key1 : H.key t1 = some k1 := by
          by_cases hb1 : t1 = b
          · subst hb1; rw [hkb'] at e1; rw [hkb, ← e1]
          · rw [← (hko t1 n1 hb1 (by rw [e1]; rfl)).1]; exact e1
        by_cases n2 : t2 = H.nx
        · subst n2
          rw [hkn] at e2
          rw [Val.set_eq] at s2; cases s2
          rcases hw with ⟨cs, fr, _, _, rfl, _⟩ | ⟨rest, n, _, rfl⟩
          · exact h.sep t1 b k1 (true, c) L1 L0 key1 hkb (fun e => hne (by rw [e, ← Option.some.inj e2])) s1' hL0
          · have := hltk t1 L1 (by rw [key1]; rfl) s1'
            simp only; omega
        · have s2' := hsold t2 L2 n2 s2
          have key2 : H.key t2 = some k2 := by
            by_cases hb1 : t2 = b
            · subst hb1; rw [hkb'] at e2; rw [hkb, ← e2]
            · rw [← (hko t2 n2 hb1 (by rw [e2]; rfl)).1]; exact e2
          exact h.sep t1 t2 k1 k2 L1 L2 key1 key2 hne s1' s2'
      intro t1 t2 k1 k2 L1 L2 e1 e2 hne s1 s2
      by_cases n1 : t1 = H.nx
      · by_cases n2 : t2 = H.nx
        · subst n1; subst n2; rw [e1] at e2; exact absurd (Option.some.inj e2) hne
        · exact (main t2 t1 k2 k1 L2 L1 n2 e2 e1 (Ne.symm hne) s2 s1).symm
      · exact main t1 t2 k1 k2 L1 L2 n1 e1 e2 hne s1 s2
    · intro t ht
      simp only [Pos.toNat_succ] at ht
      have h1 : t ≠ H.nx := fun e => by rw [e] at ht; omega
      have h2 : t ≠ b := fun e => by rw [e] at ht; have := toNat_lt_of_bl h hb; omega
      rw [q0 t h1 h2]; exact h.newB t (by omega)
    · intro t ht
      simp only [Pos.toNat_succ] at ht
      have h1 : t ≠ c := fun e => by rw [e] at ht; omega
      simp only [Tr.get_set_ne _ _ _ _ h1]; exact h.newC t (by omega)
    · intro t ht
      simp only [Pos.toNat_succ] at ht
      have h1 : t ≠ H.nx := fun e => by rw [e] at ht; omega
      rw [Val.set_ne _ _ h1]; exact h.newS t (by omega)
    · intro t e1 c1 v1 vs1 ex1 hx
      simp only [Pos.toNat_succ]
      by_cases h1 : t = H.nx
      · subst h1; rw [qn] at hx; cases hx
        exact ⟨by omega, by rw [cls_set_eq]; exact Nat.le_refl _⟩
      · by_cases h2 : t = b
        · subst h2; rw [qb] at hx; cases hx
          exact ⟨by omega, by rw [cls_set_eq]; exact Nat.le_refl _⟩
        · rw [q0 t h1 h2] at hx
          have hh := h.cls t e1 c1 v1 vs1 ex1 hx
          refine ⟨by omega, ?_⟩
          by_cases hc : c1 = c
          · subst hc; rw [cls_set_eq]
            have : v ≤ vb := by rcases hcase with ⟨_, a2, _⟩ | ⟨a1, _⟩ <;> omega
            simp only; omega
          · rw [cls_set_ne H _ _ _ hc]; exact hh.2
    · intro t c1 hk hc
      by_cases hcc : c1 = c
      · subst hcc; rw [cls_set_eq] at hc; simp only at hc; exact absurd hc.symm hcn
      · rw [cls_set_ne H _ _ _ hcc] at hc
        have h1 : t ≠ H.nx := fun e => by rw [e, hkn] at hk; simp at hk; exact hcc hk.symm
        have h2 : t ≠ b := fun e => by rw [e, hkb'] at hk; simp at hk; exact hcc hk.symm
        rw [(hko t h1 h2 (by rw [hk]; rfl)).1] at hk
        exact h.solo t c1 hk hc
    · intro t1 c1 t L1 Lt e1 v1 vs1 ex1 e2 v2 vs2 ex2 k1 ht k2 s1 s2 hbb p1 p2
      by_cases hcc : c1 = c
      · subst hcc
        rw [cls_set_eq] at ht
        simp only at ht
        subst ht
        rw [qn] at p2; cases p2
        rw [Val.set_eq] at s2; cases s2
        by_cases h1 : t1 = H.nx
        · subst h1; rw [Val.set_eq] at s1; cases s1; rw [qn] at p1; cases p1; exact Nat.le_refl _
        · have s1' := hsold t1 L1 h1 s1
          have inpl : L1.b = L0.b → L1.o + vs1.length ≤ L0.o + vs.length := fun hb' => by
            by_cases h2 : t1 = b
            · subst h2; rw [hL0] at s1'; cases s1'; rw [qb] at p1; cases p1; exact Nat.le_refl _
            · obtain ⟨r1, r2⟩ := hko t1 h1 h2 (by rw [k1]; rfl)
              rw [r1] at k1
              rw [q0 t1 h1 h2] at p1
              exact h.top t1 c1 b L1 L0 _ _ _ _ _ _ _ _ k1 (r2 k1).1 hkb s1' hL0 hb' p1 hb
          rcases hw with ⟨cs, fr, _, _, rfl, _⟩ | ⟨rest, n, _, rfl⟩
          · have := inpl hbb
            simp only [List.length_append]
            omega
          · exfalso
            have : (H.key t1).isSome := by
              by_cases h2 : t1 = b
              · rw [h2, hkb]; rfl
              · rw [← (hko t1 h1 h2 (by rw [k1]; rfl)).1, k1]; rfl
            have := hltk t1 L1 this s1'
            simp only at hbb; omega
      · rw [cls_set_ne H _ _ _ hcc] at ht
        have f : ∀ t', AH.key ⟨bl1.set (some (.row e c vb (old ++ news) false)) H.nx, H.cv.set (some (vb, H.nx)) c, H.nx.succ, H.pk, H.rs⟩ t' = some (true, c1) → t' ≠ H.nx ∧ t' ≠ b := fun t' hk =>
          ⟨fun e => by rw [e, hkn] at hk; simp at hk; exact hcc hk.symm, fun e => by rw [e, hkb'] at hk; simp at hk; exact hcc hk.symm⟩
        obtain ⟨a1, a2⟩ := f t1 k1
        obtain ⟨a3, a4⟩ := f t k2
        rw [(hko t1 a1 a2 (by rw [k1]; rfl)).1] at k1
        rw [(hko t a3 a4 (by rw [k2]; rfl)).1] at k2
        rw [q0 t1 a1 a2] at p1
        rw [q0 t a3 a4] at p2
        exact h.top t1 c1 t L1 Lt _ _ _ _ _ _ _ _ k1 ht k2 (hsold t1 L1 a1 s1) (hsold t Lt a3 s2) hbb p1 p2
  · refine ⟨hle, ?_, ?_, ?_, hwsize, ?_, ?_⟩
    · rcases hw with ⟨cs, fr, _, rfl, _, _⟩ | ⟨rest, n, rfl, _⟩ <;> rfl
    · rcases hw with ⟨cs, fr, _, rfl, _, _⟩ | ⟨rest, n, rfl, _⟩ <;> rfl
    · rcases hw with ⟨cs, fr, _, rfl, _, _⟩ | ⟨rest, n, rfl, _⟩ <;> rfl
    · intro k hk hf
      exact hwk k hk fun e => hf ⟨b, L0, by rw [hkb]; rfl, hL0, e.symm⟩
    · rintro k hk ⟨t, Lt, hs, hLt, e⟩
      by_cases h1 : t = H.nx
      · subst h1
        rw [Val.set_eq] at hLt; cases hLt
        rcases hw with ⟨cs, fr, _, _, rfl, _⟩ | ⟨rest, n, _, rfl⟩
        · exact ⟨b, L0, by rw [hkb]; rfl, hL0, e⟩
        · simp only at e; omega
      · by_cases h2 : t = b
        · subst h2; exact ⟨t, Lt, by rw [hkb]; rfl, hsold t Lt h1 hLt, e⟩
        · exact ⟨t, Lt, by rw [← (hko t h1 h2 hs).1]; exact hs, hsold t Lt h1 hLt, e⟩
end Go.AM
