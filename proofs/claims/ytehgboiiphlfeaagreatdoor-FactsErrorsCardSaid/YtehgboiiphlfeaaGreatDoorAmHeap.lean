/- THE ABSTRACT MACHINE: what a new block, a write, an append, a turn of a map do, there and in the model. -/
import Derived.Laws.CopyRow
import Derived.Laws.AppendOwn
import Derived.Test.YtehgboiiphlfeaaGreatDoorAmSem
namespace Go.AM
open Go

theorem key_row {H : AH} {b e c v vs ex} (h : H.bl.get b = some (.row e c v vs ex)) : H.key b = if (H.cls c).1 = v then some (true, c) else none := by simp [AH.key, h]
theorem key_some_row {H : AH} {b c} (h : H.key b = some (true, c)) : ∃ e v vs ex, H.bl.get b = some (.row e c v vs ex) ∧ (H.cls c).1 = v := by
  unfold AH.key at h
  split at h
  · rename_i e c' v vs ex hb
    split at h
    · rename_i hv; simp at h; subst h; exact ⟨e, v, vs, ex, hb, hv⟩
    · simp at h
  · simp at h
  · simp at h
theorem key_none_of {H : AH} {b} (h : H.bl.get b = none) : H.key b = none := by simp [AH.key, h]
theorem key_isSome_bl {H : AH} {b} (h : (H.key b).isSome) : ∃ x, H.bl.get b = some x := by
  cases hx : H.bl.get b with
  | none => rw [key_none_of hx] at h; simp at h
  | some x => exact ⟨x, rfl⟩

theorem toNat_lt_of_bl {P B σ H w} (h : HRel P B σ H w) {b x} (hb : H.bl.get b = some x) : b.toNat < H.nx.toNat := by
  rcases Nat.lt_or_ge b.toNat H.nx.toNat with h' | h'
  · exact h'
  · rw [h.newB b h'] at hb; cases hb

theorem ne_nx_of_bl {P B σ H w} (h : HRel P B σ H w) {b x} (hb : H.bl.get b = some x) : b ≠ H.nx := fun e => by
  have := toNat_lt_of_bl h hb; rw [e] at this; omega

theorem row?_spec {H : AH} {b e c v vs ex} (h : H.row? b = some (e, c, v, vs, ex)) : H.bl.get b = some (.row e c v vs ex) ∧ (H.cls c).1 = v ∧ H.key b = some (true, c) := by
  unfold AH.row? at h
  split at h
  · rename_i e' c' v' vs' ex' hb
    split at h
    · rename_i hv
      simp only [Option.some.injEq, Prod.mk.injEq] at h
      obtain ⟨rfl, rfl, rfl, rfl, rfl⟩ := h
      have hv' : (H.cls c').1 = v' := Nat.eq_of_beq_eq_true hv
      exact ⟨hb, hv', by simp [AH.key, hb, hv']⟩
    · cases h
  · cases h

theorem slice?_spec {vs : List AV} {o n : Nat} {l : List AV} (h : slice? vs o n = some l) : l.length = n ∧ o + n ≤ vs.length ∨ (n = 0 ∧ l = []) := by
  unfold slice? at h
  dsimp only at h
  split at h
  · rename_i hl
    have hl' : ((vs.drop o).take n).length = n := Nat.eq_of_beq_eq_true hl
    simp at h
    subst h
    simp only [List.length_take, List.length_drop] at hl'
    by_cases hn : n = 0
    · right; subst hn; simp
    · left; simp only [List.length_take, List.length_drop]; omega
  · cases h
theorem slice?_length {vs : List AV} {o n : Nat} {l : List AV} (h : slice? vs o n = some l) : l.length = n := by
  rcases slice?_spec h with ⟨h1, _⟩ | ⟨h1, h2⟩
  · exact h1
  · simp [h1, h2]
theorem slice?_get {vs : List AV} {o n : Nat} {l : List AV} (h : slice? vs o n = some l) (i : Nat) (hi : i < n) : l[i]? = vs[o + i]? := by
  unfold slice? at h
  dsimp only at h
  split at h
  · simp at h; subst h; simp [List.getElem?_take, List.getElem?_drop, hi]
  · cases h

/-- a read -/
theorem read_spec {P B σ H w} (h : HRel P B σ H w) {b o n l} (hr : H.read b o n = some l) :
    ∃ L us, σ b = some L ∧ us.length = n ∧ l.length = n ∧ VRelL σ l us ∧ (∀ u ∈ us, u.oneCell' = true) ∧ (∀ j u, us[j]? = some u → w.cell? ⟨L.b, L.o + o + j, none⟩ = some u) ∧ L.b < w.heap.size := by
  unfold AH.read at hr
  split at hr
  · rename_i e c v vs ex hrow
    obtain ⟨h1, h2, h3⟩ := row?_spec hrow
    obtain ⟨L, hL, _, hlt, cs, fr, g1, g2, g3, g4, g5, g6, g7⟩ := h.at_ b _ h1 (by simp [h3])
    have hlen := slice?_length hr
    rcases slice?_spec hr with ⟨_, hfit⟩ | ⟨hn, hl⟩
    · refine ⟨L, (cs.toList.drop (L.o + o)).take n, hL, ?_, hlen, ?_, ?_, ?_, hlt⟩
      · simp; omega
      · refine VRelL.of_get (by simp; omega) fun i a e => ?_
        have hi : i < n := by
          have := (List.getElem?_eq_some_iff.1 e).1; omega
        rw [slice?_get hr i hi] at e
        obtain ⟨u, hu, hu', _⟩ := g7 _ _ e
        refine ⟨u, ?_, hu'⟩
        rw [List.getElem?_take, if_pos hi, List.getElem?_drop]
        simpa [Nat.add_assoc] using hu
      · intro u hu
        obtain ⟨j, hj⟩ := List.mem_iff_getElem?.1 hu
        rw [List.getElem?_take] at hj
        split at hj
        · rename_i hjn
          rw [List.getElem?_drop] at hj
          obtain ⟨u', hu', _, h1⟩ := g7 (o + j) _ (List.getElem?_eq_getElem (by omega))
          rw [← Nat.add_assoc] at hu'
          have : some u = some u' := by rw [← hj, ← hu']; simp
          rw [Option.some.inj this]; exact h1
        · cases hj
      · intro j u hu
        rw [List.getElem?_take] at hu
        split at hu
        · rw [List.getElem?_drop] at hu
          simp [World.cell?, g1]
          simpa using hu
        · cases hu
    · subst hn; subst hl
      exact ⟨L, [], hL, rfl, rfl, by simp [VRelL], by simp, fun j u hu => by simp at hu, hlt⟩
  · cases hr

theorem putAt_over_get (l : List AV) : ∀ (vs : List AV) (i : Nat), l.length ≤ vs.length → (putAt.over l vs)[i]? = if i < l.length then l[i]? else vs[i]? := by
  induction l with
  | nil => intro vs i _; simp [putAt.over]
  | cons a l ih =>
    intro vs i hl
    cases vs with
    | nil => simp at hl
    | cons x vs =>
      cases i with
      | zero => simp [putAt.over]
      | succ i => simp [putAt.over, ih vs i (by simpa using hl)]
theorem putAt_over_length (l : List AV) : ∀ (vs : List AV), l.length ≤ vs.length → (putAt.over l vs).length = vs.length := by
  induction l with
  | nil => intro vs _; simp [putAt.over]
  | cons a l ih =>
    intro vs hl
    cases vs with
    | nil => simp at hl
    | cons x vs => simp [putAt.over, ih vs (by simpa using hl)]
theorem putAt_get (l : List AV) : ∀ (vs : List AV) (o i : Nat), o + l.length ≤ vs.length → (putAt l vs o)[i]? = if o ≤ i ∧ i < o + l.length then l[i - o]? else vs[i]?
  | vs, 0, i, h => by simp only [putAt, putAt_over_get l vs i (by simpa using h)]; simp
  | [], o + 1, i, h => by simp at h
  | a :: vs, o + 1, 0, h => by simp [putAt]
  | a :: vs, o + 1, i + 1, h => by
    have := putAt_get l vs o i (by simp at h; omega)
    simp only [putAt, List.getElem?_cons_succ, this]
    by_cases hc : o ≤ i ∧ i < o + l.length
    · rw [if_pos hc, if_pos (by omega)]; congr 1; omega
    · rw [if_neg hc, if_neg (by omega)]
theorem putAt_length (l : List AV) : ∀ (vs : List AV) (o : Nat), o + l.length ≤ vs.length → (putAt l vs o).length = vs.length
  | vs, 0, h => by simp only [putAt]; exact putAt_over_length l vs (by simpa using h)
  | [], o + 1, h => by simp at h
  | a :: vs, o + 1, h => by simp [putAt, putAt_length l vs o (by simp at h; omega)]

/-- the model's cells with some put in at place k -/
def putCells (cs : Array Value) (k : Nat) (us : List Value) : Array Value := (cs.toList.take k ++ us ++ cs.toList.drop (k + us.length)).toArray
theorem putCells_size {cs : Array Value} {k : Nat} {us : List Value} (h : k + us.length ≤ cs.size) : (putCells cs k us).size = cs.size := by simp [putCells]; omega
theorem putCells_get {cs : Array Value} {k : Nat} {us : List Value} (h : k + us.length ≤ cs.size) (i : Nat) :
    (putCells cs k us)[i]? = if k ≤ i ∧ i < k + us.length then us[i - k]? else cs[i]? := by
  simp only [putCells, List.getElem?_toArray]
  by_cases h1 : i < k
  · rw [if_neg (by omega), List.append_assoc, List.getElem?_append_left (by simp; omega), List.getElem?_take, if_pos h1]; simp
  · by_cases h2 : i < k + us.length
    · rw [if_pos (by omega), List.append_assoc, List.getElem?_append_right (by simp; omega), List.getElem?_append_left (by simp; omega)]
      congr 1; simp; omega
    · rw [if_neg (by omega), List.getElem?_append_right (by simp; omega), List.getElem?_drop]
      simp
      congr 1; omega

/-- one block of the heap is another one now -/
theorem HRel.over {P B σ H w} (h : HRel P B σ H w) {b : Pos} {x' : AB} {w' : World} {L : Loc} (hL : σ b = some L) (hk : (H.key b).isSome) (H' : AH)
    (hbl : H'.bl = H.bl.set (some x') b) (hnx : H'.nx = H.nx) (hpk : H'.pk = H.pk) (hrs : H'.rs = H.rs) (hkc : ∀ r ∈ H.allr, H'.cv.get r = none) (hxc : ∀ e c v vs ex, x' = .row e c v vs ex → c ∉ H.allr)
    (hos : w'.os = w.os) (htape : w'.tape = w.tape) (hout : w'.output = w.output) (hsize : w'.heap.size = w.heap.size)
    (hw : ∀ k, k ≠ L.b → w'.heap[k]? = w.heap[k]?)
    (hkey : ∀ b', b' ≠ b → (H'.key b').isSome → H'.key b' = H.key b' ∧ H.key b' ≠ H.key b)
    (hx : BRel P σ w' L x')
    (hnc : ∀ b, H.nx.toNat ≤ b.toNat → H'.cv.get b = none)
    (hcls : ∀ b e c v vs ex, H'.bl.get b = some (.row e c v vs ex) → c.toNat < H.nx.toNat ∧ v ≤ (H'.cls c).1)
    (hsolo : ∀ b c, H'.key b = some (true, c) → (H'.cls c).2 = c → b = c)
    (htop : ∀ b c t L Lt e v vs ex e' v' vs' ex', H'.key b = some (true, c) → (H'.cls c).2 = t → H'.key t = some (true, c) → σ b = some L → σ t = some Lt → L.b = Lt.b →
      H'.bl.get b = some (.row e c v vs ex) → H'.bl.get t = some (.row e' c v' vs' ex') → L.o + vs.length ≤ Lt.o + vs'.length) :
    HRel P B σ H' w' ∧ Ext σ H w σ H' w' := by
  obtain ⟨x0, hx0⟩ := key_isSome_bl hk
  obtain ⟨L0, hL0, hB0, hlt0, _⟩ := h.at_ b x0 hx0 hk
  have : L0 = L := by rw [hL0] at hL; exact Option.some.inj hL
  subst this
  have far : ∀ b' L', b' ≠ b → (H'.key b').isSome → σ b' = some L' → L'.b ≠ L0.b := fun b' L' hne hs hs' => by
    obtain ⟨h1, h2⟩ := hkey b' hne hs
    obtain ⟨k, hk'⟩ := Option.isSome_iff_exists.1 (h1 ▸ hs)
    obtain ⟨k0, hk0⟩ := Option.isSome_iff_exists.1 hk
    exact h.sep b' b k k0 L' L0 hk' hk0 (fun e => h2 (by rw [hk', hk0, e])) hs' hL0
  constructor
  · refine ⟨?_, ?_, ?_, ?_, ?_, ?_, hsolo, htop, by rw [hsize]; exact h.hB, h.kept.over hpk hrs (by rw [hnx]; exact Nat.le_refl _) (fun r hr => ?_) hkc h.kept.val (fun r hr b' e v vs ex hh => ?_)⟩
    rotate_left 6
    · have hne : r ≠ b := fun e => by have := h.kept.bl r hr; rw [e, hx0] at this; cases this
      rw [hbl, Tr.get_set_ne _ _ _ _ hne]; exact h.kept.bl r hr
    · by_cases hne : b' = b
      · subst hne
        rw [hbl, Tr.get_set_eq] at hh
        exact hxc e r v vs ex (Option.some.inj hh) hr
      · rw [hbl, Tr.get_set_ne _ _ _ _ hne] at hh; exact h.kept.cls r hr _ _ _ _ _ hh
    · intro b' x hb' hs'
      by_cases hne : b' = b
      · subst hne
        rw [hbl, Tr.get_set_eq] at hb'
        cases hb'
        exact ⟨L0, hL0, hB0, by rw [hsize]; exact hlt0, hx⟩
      · have hb0 : H.bl.get b' = some x := by rw [hbl, Tr.get_set_ne _ _ _ _ hne] at hb'; exact hb'
        obtain ⟨h1, h2⟩ := hkey b' hne hs'
        obtain ⟨L', hL', hB', hlt', hr⟩ := h.at_ b' x hb0 (h1 ▸ hs')
        exact ⟨L', hL', hB', by rw [hsize]; exact hlt', BRel.keep (Val.le_refl σ) (hw _ (far b' L' hne hs' hL')) hr⟩
    · intro b1 b2 k1 k2 L1 L2 e1 e2 hne s1 s2
      by_cases h1 : b1 = b
      · by_cases h2 : b2 = b
        · subst h1; subst h2; rw [e1] at e2; exact absurd (Option.some.inj e2) hne
        · subst h1
          rw [hL0] at s1; cases s1
          exact (far b2 L2 h2 (by rw [e2]; rfl) s2).symm
      · by_cases h2 : b2 = b
        · subst h2
          rw [hL0] at s2; cases s2
          exact far b1 L1 h1 (by rw [e1]; rfl) s1
        · obtain ⟨g1, _⟩ := hkey b1 h1 (by rw [e1]; rfl)
          obtain ⟨g2, _⟩ := hkey b2 h2 (by rw [e2]; rfl)
          exact h.sep b1 b2 k1 k2 L1 L2 (g1 ▸ e1) (g2 ▸ e2) hne s1 s2
    · intro b' hb'
      rw [hnx] at hb'
      have hne : b' ≠ b := fun e => by rw [e] at hb'; have := toNat_lt_of_bl h hx0; omega
      rw [hbl, Tr.get_set_ne _ _ _ _ hne]
      exact h.newB b' hb'
    · intro b' hb'; rw [hnx] at hb'; exact hnc b' hb'
    · intro b' hb'; rw [hnx] at hb'; exact h.newS b' hb'
    · intro b' e c v vs ex hb'; rw [hnx]; exact hcls b' e c v vs ex hb'
  · refine ⟨Val.le_refl σ, hos, htape, hout, by rw [hsize]; exact Nat.le_refl _, ?_, ?_⟩
    · intro k _ hf
      exact hw k fun e => hf ⟨b, L0, hk, hL0, e.symm⟩
    · rintro k _ ⟨b', L', hs', hL', e⟩
      by_cases hne : b' = b
      · subst hne; exact ⟨b', L', hk, hL', e⟩
      · exact ⟨b', L', by rw [← (hkey b' hne hs').1]; exact hs', hL', e⟩

theorem AH.new_fst (H : AH) (x : AB) : (H.new x).1 = H.nm := by unfold AH.new AH.nm; cases H.pk <;> rfl
theorem AH.newRow_fst (H : AH) (e : TypeId) (vs : List AV) (ex : Bool) : (H.newRow e vs ex).1 = H.nm := H.new_fst _
/-- the next new block's name is no block's yet -/
theorem HRel.nm_free {P B σ H w} (h : HRel P B σ H w) : H.nm ∈ H.allr ∨ H.nm = H.nx := by
  unfold AH.nm AH.allr
  cases H.pk with
  | some r => simp
  | none => simp
theorem HRel.nm_val {P B σ H w} (h : HRel P B σ H w) : σ H.nm = none := by
  rcases h.nm_free with e | e
  · exact h.kept.val _ e
  · rw [e]; exact h.newS _ (Nat.le_refl _)
theorem HRel.nm_cv {P B σ H w} (h : HRel P B σ H w) : H.cv.get H.nm = none := by
  rcases h.nm_free with e | e
  · exact h.kept.cv _ e
  · rw [e]; exact h.newC _ (Nat.le_refl _)
theorem HRel.nm_bl {P B σ H w} (h : HRel P B σ H w) : H.bl.get H.nm = none := by
  rcases h.nm_free with e | e
  · exact h.kept.bl _ e
  · rw [e]; exact h.newB _ (Nat.le_refl _)
theorem HRel.nm_lt {P B σ H w} (h : HRel P B σ H w) : H.nm.toNat < H.nx.toNat ∨ (H.pk = none ∧ H.nm = H.nx) := by
  unfold AH.nm
  cases hp : H.pk with
  | some r => exact .inl (h.kept.lt r (by simp [AH.allr, hp]))
  | none => exact .inr ⟨rfl, rfl⟩
theorem AH.new_allr {H : AH} {x : AB} : ∀ r ∈ (H.new x).2.allr, r ∈ H.allr ∧ (H.allr.Nodup → r.toNat < H.nx.toNat → r ≠ H.nm) := by
  intro r hr
  unfold AH.new at hr
  unfold AH.nm
  cases hp : H.pk with
  | some r0 =>
    simp only [hp, AH.allr, List.nil_append] at hr
    refine ⟨by simp only [AH.allr, hp]; exact List.mem_append_right _ hr, fun hn _ => ?_⟩
    simp only [AH.allr, hp, List.singleton_append, List.nodup_cons] at hn
    intro e
    simp only at e
    subst e
    exact hn.1 hr
  | none =>
    simp only [hp, AH.allr, List.nil_append] at hr
    refine ⟨by simp only [AH.allr, hp, List.nil_append]; exact hr, fun _ hl e => ?_⟩
    simp only at e
    rw [e] at hl; omega
theorem HRel.kept_new {P B σ H w} (h : HRel P B σ H w) (x : AB) (L : Loc) (hrow : ∀ e c v vs ex, x = .row e c v vs ex → c = H.nm) : Kept (σ.set H.nm L) (H.new x).2 := by
  have hnew : (H.new x).2.bl = H.bl.set (some x) H.nm ∧ (H.new x).2.cv = H.cv ∧ H.nx.toNat ≤ (H.new x).2.nx.toNat := by
    unfold AH.new AH.nm
    cases hp : H.pk with
    | some r => exact ⟨rfl, rfl, Nat.le_refl _⟩
    | none => simp only [Pos.toNat_succ]; exact ⟨trivial, trivial, by omega⟩
  obtain ⟨nb, nc, nl⟩ := hnew
  have hsub : ∀ r ∈ (H.new x).2.allr, r ∈ H.allr ∧ r ≠ H.nm := fun r hr => ⟨(AH.new_allr r hr).1, (AH.new_allr r hr).2 h.kept.nodup (h.kept.lt r (AH.new_allr r hr).1)⟩
  refine ⟨?_, fun r hr => ?_, fun r hr => ?_, fun r hr => ?_, fun r hr => ?_, fun r hr b e v vs ex hh => ?_⟩
  · have hn := h.kept.nodup
    unfold AH.new
    cases hp : H.pk with
    | some r => simp only [AH.allr, hp, List.singleton_append, List.nodup_cons] at hn; simp only [AH.allr, List.nil_append]; exact hn.2
    | none => simp only [AH.allr, hp, List.nil_append] at hn ⊢; exact hn
  · exact Nat.lt_of_lt_of_le (h.kept.lt r (hsub r hr).1) nl
  · rw [nb, Tr.get_set_ne _ _ _ _ (hsub r hr).2]; exact h.kept.bl r (hsub r hr).1
  · rw [nc]; exact h.kept.cv r (hsub r hr).1
  · rw [Val.set_ne _ _ (hsub r hr).2]; exact h.kept.val r (hsub r hr).1
  · rw [nb] at hh
    by_cases hne : b = H.nm
    · subst hne
      rw [Tr.get_set_eq] at hh
      exact (hsub r hr).2 (hrow e r v vs ex (Option.some.inj hh))
    · rw [Tr.get_set_ne _ _ _ _ hne] at hh
      exact h.kept.cls r (hsub r hr).1 _ _ _ _ _ hh

/-- a new block -/
theorem HRel.new {P B σ H w} (h : HRel P B σ H w) (x : AB) (ob : Obj) (L : Loc) (hb : L.b = w.heap.size)
    (hx : BRel P (σ.set H.nm L) (w.alloc ob) L x) (hrow : ∀ e c v vs ex, x = .row e c v vs ex → c = H.nm ∧ v = 0) :
    HRel P B (σ.set H.nm L) (H.new x).2 (w.alloc ob) ∧ Ext σ H w (σ.set H.nm L) (H.new x).2 (w.alloc ob) := by
  have hnone : σ H.nm = none := h.nm_val
  have hnew : (H.new x).2.bl = H.bl.set (some x) H.nm ∧ (H.new x).2.cv = H.cv ∧ H.nx.toNat ≤ (H.new x).2.nx.toNat ∧ H.nm.toNat < (H.new x).2.nx.toNat := by
    have := h.nm_lt
    unfold AH.new AH.nm at *
    cases hp : H.pk with
    | some r => simp only [hp] at this ⊢; exact ⟨trivial, trivial, Nat.le_refl _, this.resolve_right (by simp)⟩
    | none => simp only [Pos.toNat_succ]; exact ⟨trivial, trivial, by omega, by omega⟩
  obtain ⟨nb, nc, nl, nn⟩ := hnew
  have hle : σ.le (σ.set H.nm L) := Val.le_set L hnone
  have hget : ∀ b, b ≠ H.nm → (H.new x).2.bl.get b = H.bl.get b := fun b hne => by rw [nb, Tr.get_set_ne _ _ _ _ hne]
  have hget0 : (H.new x).2.bl.get H.nm = some x := by rw [nb, Tr.get_set_eq]
  have hcls : ∀ c, (H.new x).2.cls c = H.cls c := fun c => by unfold AH.cls; rw [nc]
  have hkey : ∀ b, b ≠ H.nm → (H.new x).2.key b = H.key b := fun b hne => AH.key_congr (hget b hne) fun c _ => hcls c
  have hcvnx : H.cls H.nm = (0, H.nm) := by simp [AH.cls, h.nm_cv]
  have hold : ∀ b L', b ≠ H.nm → (σ.set H.nm L) b = some L' → σ b = some L' := fun b L' hne e => by rwa [Val.set_ne _ _ hne] at e
  have hlt : ∀ b L', (H.key b).isSome → σ b = some L' → L'.b < w.heap.size := fun b L' hs hs' => by
    obtain ⟨y, hy⟩ := key_isSome_bl hs
    obtain ⟨L2, g1, _, g3, _⟩ := h.at_ b y hy hs
    rw [g1] at hs'; cases hs'; exact g3
  constructor
  · refine ⟨?_, ?_, ?_, ?_, ?_, ?_, ?_, ?_, ?_, ?_⟩
    rotate_left 9
    · exact h.kept_new x L fun e c v vs ex hx => (hrow e c v vs ex hx).1
    · intro b y hy hs
      by_cases hne : b = H.nm
      · subst hne
        rw [hget0] at hy; cases hy
        exact ⟨L, Val.set_eq _ _ _, by rw [hb]; exact h.hB, by rw [hb]; simp, hx⟩
      · rw [hget b hne] at hy
        rw [hkey b hne] at hs
        obtain ⟨L', g1, g2, g3, g4⟩ := h.at_ b y hy hs
        refine ⟨L', by rw [Val.set_ne _ _ hne]; exact g1, g2, by simp; omega, BRel.keep hle ?_ g4⟩
        exact heap_alloc_old w ob _ g3
    · intro b1 b2 k1 k2 L1 L2 e1 e2 hne s1 s2
      by_cases h1 : b1 = H.nm
      · by_cases h2 : b2 = H.nm
        · subst h1; subst h2; rw [e1] at e2; exact absurd (Option.some.inj e2) hne
        · subst h1
          rw [Val.set_eq] at s1; cases s1
          rw [hkey b2 h2] at e2
          have := hlt b2 L2 (by rw [e2]; rfl) (hold b2 L2 h2 s2)
          omega
      · by_cases h2 : b2 = H.nm
        · subst h2
          rw [Val.set_eq] at s2; cases s2
          rw [hkey b1 h1] at e1
          have := hlt b1 L1 (by rw [e1]; rfl) (hold b1 L1 h1 s1)
          omega
        · rw [hkey b1 h1] at e1
          rw [hkey b2 h2] at e2
          exact h.sep b1 b2 k1 k2 L1 L2 e1 e2 hne (hold b1 L1 h1 s1) (hold b2 L2 h2 s2)
    · intro b hb'
      have hne : b ≠ H.nm := fun e => by rw [e] at hb'; omega
      rw [hget b hne]
      exact h.newB b (by omega)
    · intro b hb'
      rw [nc]; exact h.newC b (by omega)
    · intro b hb'
      have hne : b ≠ H.nm := fun e => by rw [e] at hb'; omega
      rw [Val.set_ne _ _ hne]
      exact h.newS b (by omega)
    · intro b e c v vs ex hy
      rw [hcls]
      by_cases hne : b = H.nm
      · subst hne
        rw [hget0] at hy
        obtain ⟨rfl, rfl⟩ := hrow e c v vs ex (Option.some.inj hy)
        exact ⟨by omega, Nat.zero_le _⟩
      · rw [hget b hne] at hy
        obtain ⟨g1, g2⟩ := h.cls b e c v vs ex hy
        exact ⟨by omega, g2⟩
    · intro b c hk hc
      rw [hcls] at hc
      by_cases hne : b = H.nm
      · subst hne
        obtain ⟨e, v, vs, ex, g1, g2⟩ := key_some_row hk
        rw [hget0] at g1
        exact (hrow e c v vs ex (Option.some.inj g1)).1.symm
      · rw [hkey b hne] at hk
        exact h.solo b c hk hc
    · intro b c t L1 Lt e v vs ex e' v' vs' ex' k1 ht k2 s1 s2 hbb g1 g2
      rw [hcls] at ht
      by_cases hne : b = H.nm
      · subst hne
        have hcn : c = H.nm := by
          rw [hget0] at g1
          exact (hrow e c v vs ex (Option.some.inj g1)).1
        rw [hcn, hcvnx] at ht
        simp only at ht
        subst ht
        rw [s1] at s2; cases s2
        rw [g1] at g2; cases g2
        exact Nat.le_refl _
      · by_cases hnt : t = H.nm
        · subst hnt
          rw [Val.set_eq] at s2
          rw [hkey b hne] at k1
          have := hlt b L1 (by rw [k1]; rfl) (hold b L1 hne s1)
          cases s2
          omega
        · rw [hkey b hne] at k1
          rw [hkey t hnt] at k2
          rw [hget b hne] at g1
          rw [hget t hnt] at g2
          exact h.top b c t L1 Lt e v vs ex e' v' vs' ex' k1 ht k2 (hold b L1 hne s1) (hold t Lt hnt s2) hbb g1 g2
    · simp; exact Nat.le_succ_of_le h.hB
  · refine ⟨hle, rfl, rfl, rfl, by simp, ?_, ?_⟩
    · intro k hk _
      exact heap_alloc_old w ob _ hk
    · rintro k hk ⟨b, L', hs, hL', e⟩
      by_cases hne : b = H.nm
      · subst hne
        rw [Val.set_eq] at hL'; cases hL'
        omega
      · exact ⟨b, L', by rw [← hkey b hne]; exact hs, hold b L' hne hL', e⟩

/-- a new row -/
theorem HRel.newRow {P B σ H w} (h : HRel P B σ H w) (e : TypeId) (vs : List AV) (ex : Bool) (us : List Value) (s : Nat)
    (hs : (P.info? e).map (·.size) = some s) (hlen : vs.length ≤ us.length) (hex : ex = true → vs.length = us.length)
    (hv : ∀ (i : Nat) (a : AV), vs[i]? = some a → ∃ u, us[i]? = some u ∧ VRel σ a u ∧ u.oneCell' = true) :
    HRel P B (σ.set H.nm ⟨w.heap.size, 0, us.length, s⟩) (H.newRow e vs ex).2 (w.alloc (.cells us.toArray e)) ∧
    Ext σ H w (σ.set H.nm ⟨w.heap.size, 0, us.length, s⟩) (H.newRow e vs ex).2 (w.alloc (.cells us.toArray e)) := by
  have hnone : σ H.nm = none := h.nm_val
  refine h.new (.row e H.nm 0 vs ex) _ _ rfl ?_ (fun e c v vs ex hx => by cases hx; exact ⟨rfl, rfl⟩)
  refine ⟨us.toArray, (0, 0), ?_, by simp, fun i _ => by simp, by simpa using hlen, by simpa using hex, hs, fun i a ha => ?_⟩
  · exact heap_alloc_new w _
  · obtain ⟨u, hu, hr, h1⟩ := hv i a ha
    exact ⟨u, by simpa using hu, VRel.mono (Val.le_set _ hnone) _ _ hr, h1⟩
end Go.AM
