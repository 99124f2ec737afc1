/- THE ABSTRACT MACHINE: each operation that is no call, against the model's. -/
import Derived.Deep.MidRow
import Derived.Laws.Tables
import Derived.Great.BuildSlice
import Derived.Test.YtehgboiiphlfeaaGreatDoorAmWrite
namespace Go.AM
open Go

def opv (tm : Array Value) : Operand → Value
  | .tmp t => tm.getD t undef
  | .const v => v
  | .global g => .pointer (some ⟨g, 0, none⟩)
  | .func f => .func (.func f) #[] #[]
theorem eval_eq (fr : Frame) : fr.eval = opv fr.tmps := by funext x; cases x <;> rfl

/-! ### constants -/
mutual
theorem avOf_rel (σ : Val) : ∀ (v : Value) (a : AV), avOf v = some a → VRel σ a v
  | .bool b, a, h => by simp [avOf] at h; subst h; simp [VRel]
  | .int k n, a, h => by simp [avOf] at h; subst h; simp [VRel]
  | .string s, a, h => by simp only [avOf, Option.some.injEq] at h; subst h; simp only [VRel]; exact ⟨s, rfl, rfl⟩
  | .pointer none, a, h => by simp [avOf] at h; subst h; simp [VRel]
  | .pointer (some _), a, h => by simp [avOf] at h
  | .slice none 0 0, a, h => by simp [avOf] at h; subst h; simp [VRel]
  | .slice none (_ + 1) _, a, h => by simp [avOf] at h
  | .slice none 0 (_ + 1), a, h => by simp [avOf] at h
  | .slice (some _) _ _, a, h => by simp [avOf] at h
  | .map none, a, h => by simp [avOf] at h; subst h; simp [VRel]
  | .map (some _), a, h => by simp [avOf] at h
  | .nilFunc, a, h => by simp [avOf] at h; subst h; simp [VRel]
  | .nilIface, a, h => by simp [avOf] at h; subst h; simp [VRel]
  | .agg ⟨cs⟩, a, h => by
    simp only [avOf] at h
    split at h
    · rename_i hall
      cases hs : avsOf cs with
      | none => simp [hs] at h
      | some l =>
        simp [hs] at h
        subst h
        simp only [VRel]
        refine ⟨⟨cs⟩, rfl, fun u hu => ?_, avsOf_rel σ cs l hs⟩
        have := List.all_eq_true.1 hall u hu
        cases u <;> simp_all [Value.oneCell', one1]
    · cases h
  | .tuple ⟨cs⟩, a, h => by
    simp only [avOf] at h
    cases hs : avsOf cs with
    | none => simp [hs] at h
    | some l =>
      simp [hs] at h
      subst h
      simp only [VRel]
      exact ⟨⟨cs⟩, rfl, avsOf_rel σ cs l hs⟩
  | .float _ _, a, h => by simp [avOf] at h
  | .complex _ _ _, a, h => by simp [avOf] at h
  | .chan _, a, h => by simp [avOf] at h
  | .func _ _ _, a, h => by simp [avOf] at h
  | .iface _ _, a, h => by simp [avOf] at h
theorem avsOf_rel (σ : Val) : ∀ (vs : List Value) (l : List AV), avsOf vs = some l → VRelL σ l vs
  | [], l, h => by simp [avsOf] at h; subst h; simp [VRelL]
  | v :: r, l, h => by
    simp only [avsOf] at h
    split at h
    · rename_i a l' h1 h2
      simp at h; subst h
      simp only [VRelL]
      exact ⟨v, r, rfl, avOf_rel σ v a h1, avsOf_rel σ r l' h2⟩
    · cases h
end

/-- what is known of the slots tells what is known of the operands -/
theorem ax_rel {σ T tm nt} (hT : TRel σ T tm) (hn : tm.size = nt) (hb : nt < 1000000000) {x : Operand} {a : AX} (h : axOf nt x = some a) : VRel σ (a.ev T) (opv tm x) := by
  cases x with
  | tmp t =>
    simp only [axOf, slot] at h
    split at h
    · rename_i ht
      simp at h; subst h
      have := hT (Pos.ofSlot t)
      rw [Pos.toNat_ofSlot (by omega)] at this
      simpa [opv] using this
    · simp at h
  | const v =>
    simp only [axOf] at h
    cases hv : avOf v with
    | none => simp [hv] at h
    | some a' => simp [hv] at h; subst h; simpa [AX.ev, opv] using avOf_rel σ v a' hv
  | global g => simp [axOf] at h
  | func f => simp [axOf] at h; subst h; simp only [AX.ev, opv, VRel]; exact ⟨#[], rfl, by simp [VRelL]⟩

theorem axs_rel {σ T tm nt} (hT : TRel σ T tm) (hn : tm.size = nt) (hb : nt < 1000000000) : ∀ {xs : List Operand} {as : List AX}, axsOf nt xs = some as → VRelL σ (evs T as) (xs.map (opv tm))
  | [], as, h => by simp [axsOf] at h; subst h; simp [evs, VRelL]
  | x :: xs, as, h => by
    simp only [axsOf] at h
    split at h
    · rename_i a l h1 h2
      simp at h; subst h
      simp only [evs, List.map_cons, VRelL]
      exact ⟨_, _, rfl, ax_rel hT hn hb h1, axs_rel hT hn hb h2⟩
    · cases h

/-! ### what the model's words give -/
section
variable {P : Program} {w : World}
theorem run_typeInfo' {t i} (h : P.info? t = some i) : (typeInfo t).run P w = .ok i w := by simp [typeInfo, h]
theorem info_of_size {t n} (h : sizeOf? P t = some n) : ∃ i, P.info? t = some i ∧ i.size = n := by
  unfold sizeOf? at h
  cases hi : P.info? t with
  | none => simp [hi] at h
  | some i => simp [hi] at h; exact ⟨i, rfl, h⟩
theorem run_size {t n} (h : sizeOf? P t = some n) : (sizeOf t).run P w = .ok n w := by
  obtain ⟨i, hi, rfl⟩ := info_of_size h
  simp [sizeOf, run_typeInfo' hi]
theorem run_group {t g} (h : groupOf P t = some g) : (isAgg t).run P w = .ok g.isSome w ∧ ∀ n, g = some n → (sizeOf t).run P w = .ok n w := by
  unfold groupOf at h
  cases hu : P.underlying t with
  | none => simp [hu] at h
  | some d =>
    have hu' := run_underlying hu w
    cases d <;> simp [hu] at h <;> (try (obtain ⟨n, hn, rfl⟩ := h)) <;> (try subst h) <;> refine ⟨by simp [isAgg, hu'], fun m hm => ?_⟩ <;> (try cases hm) <;> exact run_size hn
theorem zero_run {t z} (h : zeroOf P t = some z) : ∃ v, (zeroValue t).run P w = .ok v w ∧ ∀ σ, VRel σ z v := by
  unfold zeroOf at h
  cases hi : P.info? t with
  | none => simp [hi] at h
  | some i =>
    cases hz : i.zero with
    | none => simp [hi, hz] at h
    | some v => simp [hi, hz] at h; exact ⟨v, by simp [zeroValue, run_typeInfo' hi, hz], fun σ => avOf_rel σ v z h⟩
theorem oneCell_of_one1 {v : Value} (h : one1 v = true) : v.oneCell' = true := by cases v <;> simp_all [Value.oneCell', one1]
theorem zeros_run {t z} (h : zerosOf P t = some z) : ∃ v, (zeroValue t).run P w = .ok v w ∧ (∀ σ, VRelL σ z v.cells.toList) ∧ (∀ u ∈ v.cells.toList, u.oneCell' = true) := by
  unfold zerosOf at h
  cases hi : P.info? t with
  | none => simp [hi] at h
  | some i =>
    cases hz : i.zero with
    | none => simp [hi, hz] at h
    | some v =>
      simp only [hi, hz, Option.bind_some] at h
      split at h
      · rename_i ha
        exact ⟨v, by simp [zeroValue, run_typeInfo' hi, hz], fun σ => avsOf_rel σ _ z h, fun u hu => oneCell_of_one1 (List.all_eq_true.1 ha u hu)⟩
      · cases h
end

/-- the cells of a value -/
theorem cells_rel {σ a c v} (h : cellsOf a = some c) (hr : VRel σ a v) : VRelL σ c v.cells.toList ∧ ∀ u ∈ v.cells.toList, u.oneCell' = true := by
  cases a with
  | agg l =>
    simp only [cellsOf, Option.some.injEq] at h
    subst h
    simp only [VRel] at hr
    obtain ⟨vs, rfl, h1, h2⟩ := hr
    exact ⟨by simpa [Value.cells] using h2, by simpa [Value.cells] using h1⟩
  | unk => simp [cellsOf] at h
  | tup l => simp [cellsOf] at h
  | _ =>
    simp only [cellsOf, Option.some.injEq] at h
    subst h
    have hr' := hr
    simp only [VRel] at hr'
    first
      | (subst hr'; exact ⟨by simpa [Value.cells, VRelL] using hr, by simp [Value.cells, Value.oneCell']⟩)
      | (obtain ⟨_, _, _, _, rfl, _⟩ := hr'; exact ⟨by simpa [Value.cells, VRelL] using hr, by simp [Value.cells, Value.oneCell']⟩)
      | (obtain ⟨_, rfl, _⟩ := hr'; exact ⟨by simpa [Value.cells, VRelL] using hr, by simp [Value.cells, Value.oneCell']⟩)
      | (obtain ⟨_, _, rfl⟩ := hr'; exact ⟨by simpa [Value.cells, VRelL] using hr, by simp [Value.cells, Value.oneCell']⟩)

/-- an operation's outcome -/
def Gives (P : Program) (B : Nat) (σ : Val) (H : AH) (w : World) (r : Result Next) (v : AV) (H' : AH) : Prop :=
  ∃ σ' u w', (r = .ok (.value u) w' ∨ (r = .ok .skip w' ∧ u = undef)) ∧ HRel P B σ' H' w' ∧ Ext σ H w σ' H' w' ∧ VRel σ' v u

theorem Gives.here {P B σ H w} (h : HRel P B σ H w) {r : Result Next} {u : Value} {v : AV} (hr : r = .ok (.value u) w) (hv : VRel σ v u) : Gives P B σ H w r v H :=
  ⟨σ, u, w, .inl hr, h, Ext.refl _ _ _, hv⟩

theorem bool_of {σ b v} (h : VRel σ (.bool b) v) : v = .bool b := by simpa only [VRel] using h
theorem int_of {σ k n v} (h : VRel σ (.int k n) v) : v = .int k n := by simpa only [VRel] using h
theorem str_of {σ l v} (h : VRel σ (.str l) v) : ∃ s : ByteArray, v = .string s ∧ s.data.toList.map (·.toNat) = l := by simpa only [VRel] using h

theorem wrapA_eq (k : IntKind) (n : Int) : wrapA k n = k.wrap n := by
  cases k <;> simp [wrapA, IntKind.wrap, IntKind.bits, IntKind.signed]

theorem asNat?_spec {σ a n v} (h : asNat? a = some n) (hr : VRel σ a v) : ∃ k, v = .int k n := by
  cases a with
  | int k m =>
    simp only [asNat?] at h
    split at h
    · rename_i hm
      have := int_of hr
      subst this
      simp at h; subst h
      exact ⟨k, by congr 1; omega⟩
    · cases h
  | _ => simp [asNat?] at h
end Go.AM
