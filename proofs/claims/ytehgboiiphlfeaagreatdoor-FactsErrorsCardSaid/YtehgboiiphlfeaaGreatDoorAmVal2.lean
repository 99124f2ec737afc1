/- THE ABSTRACT MACHINE: loads, stores, addresses, slices, appends. -/
import Derived.Test.YtehgboiiphlfeaaGreatDoorAmVal
namespace Go.AM
open Go

section
variable {P : Program} {B : Nat} {σ : Val} {H : AH} {w : World} {T : AT} {tm : Array Value} {nt : Nat}

/-- a load -/
theorem loadG_sound (h : HRel P B σ H w) {t : TypeId} {g : Option Nat} (hg : groupOf P t = some g) {x v : AV} (hl : H.loadG g x = some v) {a : Value} (hx : VRel σ x a) :
    ∃ b o u, a = .pointer (some ⟨b, o, none⟩) ∧ (loadVar t ⟨b, o, none⟩).run P w = .ok u w ∧ VRel σ v u := by
  unfold AH.loadG at hl
  split at hl
  · rename_i b o
    simp only [VRel] at hx
    obtain ⟨L, hL, rfl⟩ := hx
    obtain ⟨hagg, hsz⟩ := run_group (w := w) hg
    refine ⟨L.b, L.o + o, ?_⟩
    split at hl
    · split at hl
      · rename_i v' hr
        simp at hl; subst hl
        obtain ⟨L', us, hL', e1, e2, e3, e4, e5, _⟩ := read_spec h hr
        rw [hL] at hL'; cases hL'
        simp only [VRelL] at e3
        obtain ⟨u, r, rfl, hu, rfl⟩ := e3
        refine ⟨u, rfl, ?_, hu⟩
        have := e5 0 u (by simp)
        simp only [Nat.add_zero] at this
        simp [loadVar, hagg, this]
      · cases hl
    · rename_i n
      split at hl
      · rename_i l hr
        simp at hl; subst hl
        obtain ⟨L', us, hL', e1, e2, e3, e4, e5, _⟩ := read_spec h hr
        rw [hL] at hL'; cases hL'
        refine ⟨.agg us.toArray, rfl, ?_, ?_⟩
        · have hs := hsz n rfl
          have hc : (loadCells ⟨L.b, L.o + o, none⟩ us.length).run P w = .ok us.toArray w := run_loadCells_list (P := P) w ⟨L.b, L.o + o, none⟩ us fun j u hu => by rw [Addr.add_mid]; exact e5 j u hu
          rw [e1] at hc
          simp [loadVar, hagg, hs, hc]
        · simp only [VRel]
          exact ⟨us.toArray, rfl, by simpa using e4, by simpa using e3⟩
      · cases hl
  · cases hl

/-- a store -/
theorem store_sound (h : HRel P B σ H w) {t : TypeId} {n : Nat} (hn : sizeOf? P t = some n) {b : Pos} {o : Nat} {y : AV} {c : List AV} {H' : AH} (hc : cellsOf y = some c) (hl : Nat.beq c.length n = true)
    (hw : H.write b o c = some H') {a u : Value} (hx : VRel σ (.ptr b o) a) (hy : VRel σ y u) :
    ∃ w', (Instr.storeAt t a u).run P w = .ok () w' ∧ HRel P B σ H' w' ∧ Ext σ H w σ H' w' := by
  simp only [VRel] at hx
  obtain ⟨L, hL, rfl⟩ := hx
  obtain ⟨kr, k1⟩ := cells_rel hc hy
  obtain ⟨L', cs, e, fr, hL', g1, g2, g3, g4, g5, _⟩ := write_spec h hw kr k1
  rw [hL] at hL'; cases hL'
  have hst := run_storeCells_free P L.b (L.o + o) e fr u.cells.toList 0 cs w g1 g2 (by simpa using g3) k1
  have hsz : u.cells.size = n := by
    have := size_cells kr hl
    simpa using this
  refine ⟨_, ?_, g4, g5⟩
  simp only [Nat.add_zero] at hst
  simp [Instr.storeAt, Instr.sureAddr, storeVar, run_size (w := w) hn, hsz, hst]
where
  size_cells {σ : Val} {n : Nat} {c : List AV} {vs : List Value} (h : VRelL σ c vs) (hb : Nat.beq c.length n = true) : vs.length = n := by
    rw [h.length]; exact Nat.eq_of_beq_eq_true hb

theorem asIntOf_int (k : IntKind) (n : Int) : (asIntOf (.int k n)).run P w = .ok (k, n) w := by simp [asIntOf]

/-- a bound of a slice expression -/
theorem bound_some {x : AV} {most n : Nat} (h : bound? 0 most (some x) = some n) {a : Value} (hx : VRel σ x a) (code : BoundsCode) : n ≤ most ∧ (Instr.sliceBound a most code).run P w = .ok n w := by
  simp only [bound?] at h
  split at h
  · rename_i m hm
    split at h
    · rename_i hle
      simp at h; subst h
      obtain ⟨k, rfl⟩ := asNat?_spec hm hx
      have := Nat.le_of_ble_eq_true hle
      refine ⟨this, ?_⟩
      have hc : (0 : Int) ≤ (m : Int) ∧ (m : Int) ≤ (most : Int) := ⟨by omega, by omega⟩
      simp [Instr.sliceBound, asIntOf_int, hc]
    · cases h
  · cases h

theorem bound_dflt {dflt dflt' most : Nat} {x : AV} : bound? dflt most (some x) = bound? dflt' most (some x) := rfl

/-- what is known of an operand that may be missing -/
def ORel (σ : Val) : Option AV → Option Value → Prop
  | none, none => True
  | some a, some v => VRel σ a v
  | _, _ => False

theorem axo_rel (hT : TRel σ T tm) (hn : tm.size = nt) (hb : nt < 1000000000) {x : Option Operand} {a : Option AX} (h : axoOf nt x = some a) : ORel σ (evo T a) (x.map (opv tm)) := by
  cases x with
  | none => simp [axoOf] at h; subst h; simp [evo, ORel]
  | some x =>
    simp only [axoOf] at h
    cases hx : axOf nt x with
    | none => simp [hx] at h
    | some a' => simp [hx] at h; subst h; simpa [evo, ORel] using ax_rel hT hn hb hx

/-- x[lo:hi] of a slice, or x[lo:hi:mx] -/
theorem slice_sound {t e : TypeId} {sz : Nat} (ht : elemOf? P t = some (e, sz)) {x v : AV} {lo hi mx : Option AV} (hv : sliceA sz x lo hi mx = some v) {a : Value} {lo' hi' mx' : Option Value}
    (hx : VRel σ x a) (hlo : ORel σ lo lo') (hhi : ORel σ hi hi') (hmx : ORel σ mx mx') :
    ∃ u, (Instr.sliceAt t a lo' hi' mx').run P w = .ok u w ∧ VRel σ v u := by
  unfold elemOf? at ht
  cases hu : P.underlying t with
  | none => simp [hu] at ht
  | some d =>
    cases d <;> simp [hu] at ht
    rename_i e'
    cases hsz : sizeOf? P e' with
    | none => simp [hsz] at ht
    | some n0 =>
      simp only [hsz] at ht
      split at ht
      · cases ht
      · rename_i hn0
        simp at ht
        obtain ⟨rfl, rfl⟩ := ht
        have hu' := run_underlying hu w
        have hsz' := run_size (w := w) hsz
        -- the model's way, once the bounds are known
        have key : ∀ (base : Option Addr) (len cap l h m : Nat), (Instr.sliceBounds true len cap lo' hi' mx').run P w = .ok (l, h, m) w →
            (Instr.sliceAt t (.slice base len cap) lo' hi' mx').run P w = .ok (.slice (if m = l then base else base.map (·.add (l * n0))) (h - l) (m - l)) w := by
          intro base len cap l h m hb
          simp [Instr.sliceAt, Instr.slice, hu', hb, hsz']
        unfold sliceA at hv
        split at hv
        · rename_i b o n c s ex
          split at hv
          · cases hv
          rename_i hss
          simp only [VRel] at hx
          obtain ⟨L, xo, cap, hL, rfl, h1, h2, h3, h4, h5, h6⟩ := hx
          have hLs : s = n0 := Nat.eq_of_beq_eq_true (by simpa using hss)
          -- the result
          have res : ∀ (l h m : Nat) (m' : Nat) (ex' : Bool), l ≤ h → h ≤ m' → m' ≤ m → m ≤ cap → (ex' = true → m = m') →
              VRel σ (.slc b (o + l * n0) (h - l) (m' - l) n0 ex') (.slice (if m = l then some ⟨L.b, xo, none⟩ else (some (⟨L.b, xo, none⟩ : Addr)).map (·.add (l * n0))) (h - l) (m - l)) := by
            intro l h m m' ex' e1 e2 e3 e4 e5
            simp only [VRel]
            refine ⟨L, if m = l then xo else xo + l * n0, m - l, hL, ?_, by omega, by omega, fun hx => by have := e5 hx; omega, ?_, ?_, hLs ▸ h6⟩
            · split
              · rfl
              · simp [Addr.add_mid]
            · intro hne
              rw [if_neg (by omega), h4 (by omega)]; omega
            · have : l * s + (m - l) * s ≤ cap * s := by rw [← Nat.add_mul]; exact Nat.mul_le_mul_right _ (by omega)
              subst hLs; omega
          split at hv
          · -- no third index
            cases mx' with
            | some _ => simp [ORel] at hmx
            | none =>
              split at hv
              · cases hv
              · rename_i h hh
                split at hv
                · cases hv
                · rename_i l hl
                  simp at hv; subst hv
                  have hhc : h ≤ c ∧ (match hi' with | some v => Instr.sliceBound v cap .sliceAcap | none => pure n : Sem Nat).run P w = .ok h w := by
                    cases hi with
                    | none => cases hi' with
                      | none => simp [bound?] at hh; subst hh; exact ⟨h1, by simp⟩
                      | some _ => simp [ORel] at hhi
                    | some xh => cases hi' with
                      | none => simp [ORel] at hhi
                      | some vh =>
                        simp only [ORel] at hhi
                        obtain ⟨g1, _⟩ := bound_some (P := P) (w := w) (bound_dflt ▸ hh) hhi .sliceAcap
                        simp only [bound?] at hh
                        split at hh
                        · rename_i m hm
                          split at hh
                          · simp at hh; subst hh
                            refine ⟨g1, ?_⟩
                            obtain ⟨k, rfl⟩ := asNat?_spec hm hhi
                            have hc : (0 : Int) ≤ (m : Int) ∧ (m : Int) ≤ (cap : Int) := ⟨by omega, by omega⟩
                            simp [Instr.sliceBound, asIntOf_int, hc]
                          · cases hh
                        · cases hh
                  have hlc : l ≤ h ∧ (match lo' with | some v => Instr.sliceBound v h .sliceB | none => pure 0 : Sem Nat).run P w = .ok l w := by
                    cases lo with
                    | none => cases lo' with
                      | none => simp [bound?] at hl; subst hl; exact ⟨Nat.zero_le _, by simp⟩
                      | some _ => simp [ORel] at hlo
                    | some xl => cases lo' with
                      | none => simp [ORel] at hlo
                      | some vl => simp only [ORel] at hlo; exact bound_some hl hlo .sliceB
                  have hb : (Instr.sliceBounds true n cap lo' hi' none).run P w = .ok (l, h, cap) w := by
                    have a1 := hhc.2
                    have a2 := hlc.2
                    cases hi' <;> cases lo' <;> simp [Instr.sliceBounds] at a1 a2 ⊢ <;> simp_all
                  exact ⟨_, key _ n cap l h cap hb, res l h cap c ex hlc.1 hhc.1 h2 (Nat.le_refl _) h3⟩
          · -- a third index
            rename_i xm
            cases mx' with
            | none => simp [ORel] at hmx
            | some vm =>
              simp only [ORel] at hmx
              split at hv
              · cases hv
              · rename_i m hm
                split at hv
                · cases hv
                · rename_i xh
                  cases hi' with
                  | none => simp [ORel] at hhi
                  | some vh =>
                    split at hv
                    · cases hv
                    · rename_i h hh
                      split at hv
                      · cases hv
                      · rename_i l hl
                        simp at hv; subst hv
                        have hmc : m ≤ c ∧ (Instr.sliceBound vm cap .slice3Acap).run P w = .ok m w := by
                          simp only [bound?] at hm
                          split at hm
                          · rename_i q hq
                            split at hm
                            · rename_i hle
                              simp at hm; subst hm
                              have := Nat.le_of_ble_eq_true hle
                              refine ⟨this, ?_⟩
                              obtain ⟨k, rfl⟩ := asNat?_spec hq hmx
                              have hc : (0 : Int) ≤ (q : Int) ∧ (q : Int) ≤ (cap : Int) := ⟨by omega, by omega⟩
                              simp [Instr.sliceBound, asIntOf_int, hc]
                            · cases hm
                          · cases hm
                        simp only [ORel] at hhi
                        obtain ⟨g1, g2⟩ := bound_some (P := P) (w := w) (bound_dflt ▸ hh) hhi .slice3B
                        have hlc : l ≤ h ∧ (match lo' with | some v => Instr.sliceBound v h .slice3C | none => pure 0 : Sem Nat).run P w = .ok l w := by
                          cases lo with
                          | none => cases lo' with
                            | none => simp [bound?] at hl; subst hl; exact ⟨Nat.zero_le _, by simp⟩
                            | some _ => simp [ORel] at hlo
                          | some xl => cases lo' with
                            | none => simp [ORel] at hlo
                            | some vl => simp only [ORel] at hlo; exact bound_some hl hlo .slice3C
                        have hb : (Instr.sliceBounds true n cap lo' (some vh) (some vm)).run P w = .ok (l, h, m) w := by
                          have a1 := hmc.2
                          have a2 := hlc.2
                          cases lo' <;> simp [Instr.sliceBounds] at a1 a2 ⊢ <;> simp_all
                        exact ⟨_, key _ n cap l h m hb, res l h m m true hlc.1 g1 (Nat.le_refl _) (by omega) (fun _ => rfl)⟩
        · -- of nil
          split at hv
          · -- a third index
            rename_i xm
            simp only [VRel] at hx
            subst hx
            cases mx' with
            | none => simp [ORel] at hmx
            | some vm =>
              simp only [ORel] at hmx
              split at hv
              · cases hv
              · rename_i xh
                cases hi' with
                | none => simp [ORel] at hhi
                | some vh =>
                  simp only [ORel] at hhi
                  split at hv
                  · cases hv
                  · rename_i m hm
                    split at hv
                    · cases hv
                    · rename_i h hh
                      split at hv
                      · cases hv
                      · rename_i l hl
                        simp at hv; subst hv
                        obtain ⟨m1, m2⟩ := bound_some (P := P) (w := w) hm hmx .slice3Acap
                        obtain ⟨g1, g2⟩ := bound_some (P := P) (w := w) hh hhi .slice3B
                        have em : m = 0 := by omega
                        have eh : h = 0 := by omega
                        subst em; subst eh
                        have hlc : l = 0 ∧ (match lo' with | some v => Instr.sliceBound v 0 .slice3C | none => pure 0 : Sem Nat).run P w = .ok 0 w := by
                          cases lo with
                          | none => cases lo' with
                            | none => simp [bound?] at hl; exact ⟨hl.symm, by simp⟩
                            | some _ => simp [ORel] at hlo
                          | some xl => cases lo' with
                            | none => simp [ORel] at hlo
                            | some vl =>
                              simp only [ORel] at hlo
                              obtain ⟨k1, k2⟩ := bound_some (P := P) (w := w) hl hlo .slice3C
                              have : l = 0 := by omega
                              subst this
                              exact ⟨rfl, k2⟩
                        have hb : (Instr.sliceBounds true 0 0 lo' (some vh) (some vm)).run P w = .ok (0, 0, 0) w := by
                          have a2 := hlc.2
                          cases lo' <;> simp [Instr.sliceBounds] at m2 g2 a2 ⊢ <;> simp_all
                        exact ⟨_, key none 0 0 0 0 0 hb, by simp [VRel]⟩
          · split at hv
            · rename_i h l hh hl
              simp at hv; subst hv
              simp only [VRel] at hx
              subst hx
              cases mx' with
              | some _ => simp [ORel] at hmx
              | none =>
                have hhc : h = 0 ∧ (match hi' with | some v => Instr.sliceBound v 0 .sliceAcap | none => pure 0 : Sem Nat).run P w = .ok 0 w := by
                  cases hi with
                  | none => cases hi' with
                    | none => simp [bound?] at hh; exact ⟨hh.symm, by simp⟩
                    | some _ => simp [ORel] at hhi
                  | some xh => cases hi' with
                    | none => simp [ORel] at hhi
                    | some vh =>
                      simp only [ORel] at hhi
                      obtain ⟨g1, g2⟩ := bound_some (P := P) (w := w) hh hhi .sliceAcap
                      have : h = 0 := by omega
                      subst this
                      exact ⟨rfl, g2⟩
                have hlc : l = 0 ∧ (match lo' with | some v => Instr.sliceBound v 0 .sliceB | none => pure 0 : Sem Nat).run P w = .ok 0 w := by
                  cases lo with
                  | none => cases lo' with
                    | none => simp [bound?] at hl; exact ⟨hl.symm, by simp⟩
                    | some _ => simp [ORel] at hlo
                  | some xl => cases lo' with
                    | none => simp [ORel] at hlo
                    | some vl =>
                      simp only [ORel] at hlo
                      obtain ⟨g1, g2⟩ := bound_some (P := P) (w := w) hl hlo .sliceB
                      have : l = 0 := by omega
                      subst this
                      exact ⟨rfl, g2⟩
                have hb : (Instr.sliceBounds true 0 0 lo' hi' none).run P w = .ok (0, 0, 0) w := by
                  have a1 := hhc.2
                  have a2 := hlc.2
                  cases hi' <;> cases lo' <;> simp [Instr.sliceBounds] at a1 a2 ⊢ <;> simp_all
                exact ⟨_, key none 0 0 0 0 0 hb, by simp [VRel]⟩
            · cases hv
        · cases hv
end
end Go.AM
