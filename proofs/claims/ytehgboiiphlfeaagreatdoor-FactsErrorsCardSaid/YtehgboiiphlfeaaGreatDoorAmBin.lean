/- THE ABSTRACT MACHINE: operators on two values. -/
import Derived.Laws.Strings
import Derived.Laws.Strings2
import Derived.Laws.Cover1
import Derived.Laws.StructEq
import Derived.Test.YtehgboiiphlfeaaGreatDoorAmOps
namespace Go.AM
open Go

theorem kEq_iff {j k : IntKind} : kEq j k = true ↔ j = k := by simp [kEq]
theorem beq_intEq (a b : Int) : (a == b) = intEq a b := by by_cases h : a = b <;> simp [intEq, h]
theorem bne_intEq (a b : Int) : (a != b) = !intEq a b := by simp only [bne, beq_intEq]

/-! ### strings as lists of numbers -/
def bytesN (s : ByteArray) : List Nat := s.data.toList.map (·.toNat)

theorem toNat_inj8 {a b : UInt8} : a.toNat = b.toNat ↔ a = b := UInt8.toNat_inj
theorem strEq_map : ∀ (x y : List UInt8), strEq (x.map (·.toNat)) (y.map (·.toNat)) = (x == y)
  | [], [] => by simp [strEq]
  | [], _ :: _ => by simp [strEq]
  | _ :: _, [] => by simp [strEq]
  | a :: x, b :: y => by
    simp only [List.map_cons, strEq, strEq_map x y]
    by_cases h : a = b
    · subst h; simp
    · have h' : a.toNat ≠ b.toNat := fun e => h (toNat_inj8.1 e)
      have : Nat.beq a.toNat b.toNat = false := by
        cases hb : Nat.beq a.toNat b.toNat with
        | false => rfl
        | true => exact absurd (Nat.eq_of_beq_eq_true hb) h'
      simp [this, h]
theorem strLt_map : ∀ (x y : List UInt8), strLt (x.map (·.toNat)) (y.map (·.toNat)) = Op.bytesLess x y
  | _, [] => by cases ‹List UInt8› <;> simp [strLt, Op.bytesLess]
  | [], _ :: _ => by simp [strLt, Op.bytesLess]
  | a :: x, b :: y => by
    simp only [List.map_cons, strLt, Op.bytesLess, strLt_map x y]
    by_cases h1 : a < b
    · have : Nat.blt a.toNat b.toNat = true := by rw [Nat.blt]; exact Nat.ble_eq_true_of_le (UInt8.lt_iff_toNat_lt.1 h1)
      simp [this, h1]
    · have h1' : ¬ a.toNat < b.toNat := fun e => h1 (UInt8.lt_iff_toNat_lt.2 e)
      have : Nat.blt a.toNat b.toNat = false := by
        cases hb : Nat.blt a.toNat b.toNat with
        | false => rfl
        | true => exact absurd (Nat.le_of_ble_eq_true hb) h1'
      by_cases h2 : a = b
      · subst h2; simp [this, Nat.beq_refl]
      · have h' : a.toNat ≠ b.toNat := fun e => h2 (toNat_inj8.1 e)
        have hq : Nat.beq a.toNat b.toNat = false := by
          cases hb : Nat.beq a.toNat b.toNat with
          | false => rfl
          | true => exact absurd (Nat.eq_of_beq_eq_true hb) h'
        simp [this, hq, h1, h2]

/-- of two lists of bytes: less, or equal, or greater -/
theorem bytesLess_or : ∀ (x y : List UInt8), (Op.bytesLess x y || x == y) = !Op.bytesLess y x
  | [], [] => by simp [Op.bytesLess]
  | [], _ :: _ => by simp [Op.bytesLess]
  | _ :: _, [] => by simp [Op.bytesLess]
  | a :: x, b :: y => by
    have ih := bytesLess_or x y
    simp only [Op.bytesLess]
    by_cases h1 : a < b
    · have h2 : ¬ b < a := by rw [UInt8.lt_iff_toNat_lt] at h1 ⊢; omega
      have h3 : a ≠ b := fun e => by rw [e, UInt8.lt_iff_toNat_lt] at h1; omega
      simp [h1, h2, h3, Ne.symm h3]
    · by_cases h2 : b < a
      · have h3 : a ≠ b := fun e => by rw [e, UInt8.lt_iff_toNat_lt] at h2; omega
        simp [h1, h2, h3, Ne.symm h3]
      · have h3 : a = b := by
          apply toNat_inj8.1
          rw [UInt8.lt_iff_toNat_lt] at h1 h2
          omega
        subst h3
        simpa [h1] using ih

section
variable {P : Program} {w : World} {σ : Val}

theorem eqGuard_other {op : BinOp} (h : op ≠ .eql) (h' : op ≠ .neq) (t : TypeId) (X Y : Operand) (a b : Value) : (eqGuard op t X Y a b).run P w = .ok () w := by
  cases op <;> simp_all [eqGuard]

theorem modN_eq (k : IntKind) : modN k = 2 ^ k.bits := by cases k <;> rfl
theorem bitsN_eq (k : IntKind) : bitsN k = k.bits := by cases k <;> rfl
theorem ubits_eq (k : IntKind) (a : Int) : (a % 2 ^ k.bits).toNat = ubits k a := by
  rw [ubits, modN_eq, Int.natCast_pow]; rfl
/-- shifts -/
theorem shift_bin {op j a b v} (h : shiftV op j a b = some v) (k : IntKind) (t : TypeId) (X Y : Operand) :
    ∃ u, (do eqGuard op t X Y (.int j a) (.int k b); binOp op t (.int j a) (.int k b) : Sem Value).run P w = .ok u w ∧ VRel σ v u := by
  unfold shiftV at h
  split at h
  · cases h
  · rename_i hb
    cases op <;> simp only [reduceCtorEq] at h
    case shl => cases h; exact ⟨_, by simp [eqGuard, binOp, Op.shift, hb]; rfl, by simp only [VRel, wrapA_eq, bitsN_eq, Int.natCast_pow]; rfl⟩
    case shr => cases h; exact ⟨_, by simp [eqGuard, binOp, Op.shift, hb]; rfl, by simp only [VRel, bitsN_eq, Int.natCast_pow]; rfl⟩
/-- whole numbers -/
theorem int_bin {op k a b v} (h : ibin op k a b = some v) (t : TypeId) (X Y : Operand) :
    ∃ u, (do eqGuard op t X Y (.int k a) (.int k b); binOp op t (.int k a) (.int k b) : Sem Value).run P w = .ok u w ∧ VRel σ v u := by
  cases op <;> simp only [ibin] at h
  case quo =>
    split at h
    · cases h
    · rename_i hb
      simp at h; subst h
      have : b ≠ 0 := by simpa [intEq] using hb
      exact ⟨_, by simp [eqGuard, binOp, Op.intDiv, this]; rfl, by simp [VRel, wrapA_eq]⟩
  case rem =>
    split at h
    · cases h
    · rename_i hb
      simp at h; subst h
      have : b ≠ 0 := by simpa [intEq] using hb
      exact ⟨_, by simp [eqGuard, binOp, Op.intDiv, this]; rfl, by simp [VRel]⟩
  case eql => cases h; exact ⟨.bool (a == b), by simp [eqGuard, binOp, Op.intCmp], by simp only [VRel, beq_intEq]⟩
  case neq => cases h; exact ⟨.bool (a != b), by simp [eqGuard, binOp, Op.intCmp], by simp only [VRel, bne_intEq]⟩
  case lss => cases h; exact ⟨.bool (decide (a < b)), by simp [eqGuard, binOp, Op.intCmp], by simp only [VRel]⟩
  case leq => cases h; exact ⟨.bool (decide (a ≤ b)), by simp [eqGuard, binOp, Op.intCmp], by simp only [VRel]⟩
  case gtr => cases h; exact ⟨.bool (decide (b < a)), by simp [eqGuard, binOp, Op.intCmp], by simp only [VRel]⟩
  case geq => cases h; exact ⟨.bool (decide (b ≤ a)), by simp [eqGuard, binOp, Op.intCmp], by simp only [VRel]⟩
  case add => cases h; exact ⟨.int k (k.wrap (a + b)), by simp [eqGuard, binOp, Op.intArith], by simp only [VRel, wrapA_eq]⟩
  case sub => cases h; exact ⟨.int k (k.wrap (a - b)), by simp [eqGuard, binOp, Op.intArith], by simp only [VRel, wrapA_eq]⟩
  case mul => cases h; exact ⟨.int k (k.wrap (a * b)), by simp [eqGuard, binOp, Op.intArith], by simp only [VRel, wrapA_eq]⟩
  case and => cases h; exact ⟨_, by simp [eqGuard, binOp, Op.intBits]; rfl, by simp only [VRel, wrapA_eq]; rw [ubits_eq, ubits_eq]; rfl⟩
  case or => cases h; exact ⟨_, by simp [eqGuard, binOp, Op.intBits]; rfl, by simp only [VRel, wrapA_eq]; rw [ubits_eq, ubits_eq]; rfl⟩
  case xor => cases h; exact ⟨_, by simp [eqGuard, binOp, Op.intBits]; rfl, by simp only [VRel, wrapA_eq]; rw [ubits_eq, ubits_eq]; rfl⟩
  case andNot => cases h; exact ⟨_, by simp [eqGuard, binOp, Op.intBits]; rfl, by simp only [VRel, wrapA_eq]; rw [ubits_eq, ubits_eq, modN_eq]; rfl⟩
  all_goals cases h

/-- strings -/
theorem str_bin {op} {s1 s2 : ByteArray} {v} (h : sbin op (bytesN s1) (bytesN s2) = some v) (t : TypeId) (X Y : Operand) :
    ∃ u, (do eqGuard op t X Y (.string s1) (.string s2); binOp op t (.string s1) (.string s2) : Sem Value).run P w = .ok u w ∧ VRel σ v u := by
  have e1 : strEq (bytesN s1) (bytesN s2) = (s1.data.toList == s2.data.toList) := strEq_map s1.data.toList s2.data.toList
  have l1 : strLt (bytesN s1) (bytesN s2) = Op.bytesLess s1.data.toList s2.data.toList := strLt_map s1.data.toList s2.data.toList
  have l2 : strLt (bytesN s2) (bytesN s1) = Op.bytesLess s2.data.toList s1.data.toList := strLt_map s2.data.toList s1.data.toList
  have t1 := ByteArray.toList_eq s1
  have t2 := ByteArray.toList_eq s2
  have b1 := bytesLess_or s1.data.toList s2.data.toList
  cases op <;> simp only [sbin, e1, l1, l2] at h
  case add =>
    by_cases hle : Nat.ble ((bytesN s1).length + (bytesN s2).length) 1000000000 = true
    · rw [if_pos hle] at h
      simp at h; subst h
      have hle' : s1.size + s2.size ≤ 1000000000 := by
        have := Nat.le_of_ble_eq_true hle
        have e1 : (bytesN s1).length = s1.size := by unfold bytesN; rw [List.length_map, Array.length_toList]; rfl
        have e2 : (bytesN s2).length = s2.size := by unfold bytesN; rw [List.length_map, Array.length_toList]; rfl
        rw [e1, e2] at this
        exact this
      have hmax : ¬ (((s1.size + s2.size : Nat) : Int) > IntKind.i64.max) := by
        have : IntKind.i64.max = 9223372036854775807 := by decide
        rw [this]; omega
      refine ⟨.string (s1 ++ s2), ?_, ?_⟩
      · have e : Op.stringOp .add s1 s2 = pure (.string (s1 ++ s2)) := by unfold Op.stringOp; exact if_neg hmax
        have g : (eqGuard .add t X Y (.string s1) (.string s2)).run P w = .ok () w := by simp [eqGuard]
        rw [Sem.run_bind, g, Result.andThen_ok, binOp_string_add, e]
        rfl
      · simp only [VRel]
        exact ⟨_, rfl, by simp [bytesN]⟩
    · rw [if_neg hle] at h; cases h
  case eql => cases h; exact ⟨.bool (s1.data.toList == s2.data.toList), by simp only [eqGuard, binOp, Op.stringOp, t1, t2]; simp, by simp only [VRel]⟩
  case neq => cases h; exact ⟨.bool (!(s1.data.toList == s2.data.toList)), by simp only [eqGuard, binOp, Op.stringOp, t1, t2]; simp, by simp only [VRel]⟩
  case lss => cases h; exact ⟨.bool (Op.bytesLess s1.data.toList s2.data.toList), by simp only [eqGuard, binOp, Op.stringOp, t1, t2]; simp, by simp only [VRel]⟩
  case geq => cases h; exact ⟨.bool (!Op.bytesLess s1.data.toList s2.data.toList), by simp only [eqGuard, binOp, Op.stringOp, t1, t2]; simp, by simp only [VRel]⟩
  case leq => cases h; exact ⟨.bool (!Op.bytesLess s2.data.toList s1.data.toList), by simp only [eqGuard, binOp, Op.stringOp, t1, t2, b1]; simp, by simp only [VRel]⟩
  case gtr => cases h; exact ⟨.bool (Op.bytesLess s2.data.toList s1.data.toList), by simp only [eqGuard, binOp, Op.stringOp, t1, t2, b1]; simp, by simp only [VRel]⟩
  all_goals cases h
end
end Go.AM
