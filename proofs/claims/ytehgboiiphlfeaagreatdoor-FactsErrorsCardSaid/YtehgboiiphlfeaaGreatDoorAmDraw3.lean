/- THE ABSTRACT MACHINE: a run beside one block more, of a name that is kept: the same run. -/
import Derived.Test.YtehgboiiphlfeaaGreatDoorAmDraw1
namespace Go.AM
open Go

def erase (r : Pos) : Option Pos → Option Pos
  | some p => if p.beq r then none else some p
  | none => none
def plusBl (r : Pos) (x : Option AB) (t : Tr AB) : Tr AB := match x with | some x => t.set (some x) r | none => t
/-- a block more -/
def AH.plus (H : AH) (r : Pos) (x : Option AB) : AH := { H with bl := plusBl r x H.bl, rs := H.rs.map fun f => f.map (erase r) }
/-- the name is no block's, and no next block's -/
structure Off (r : Pos) (H : AH) : Prop where
  bl : H.bl.get r = none
  lt : r.toNat < H.nx.toNat
  pk : H.pk ≠ some r

section
variable {r : Pos} {x : Option AB} {H H' : AH} {T : AT}

theorem plusBl_get {t : Tr AB} {b : Pos} (h : b ≠ r) : (plusBl r x t).get b = t.get b := by
  cases x with
  | none => rfl
  | some x => exact Tr.get_set_ne _ _ _ _ h
theorem plusBl_set {t : Tr AB} {b : Pos} {y : Option AB} (h : b ≠ r) : (plusBl r x t).set y b = plusBl r x (t.set y b) := by
  cases x with
  | none => rfl
  | some x => exact Tr.set_comm _ _ _ _ _ h
theorem Off.ne (h : Off r H) {b : Pos} {y : AB} (hb : H.bl.get b = some y) : b ≠ r := fun e => by rw [e, h.bl] at hb; cases hb
theorem Off.nm (h : Off r H) : H.nm ≠ r := by
  unfold AH.nm
  cases hp : H.pk with
  | some p => exact fun e => h.pk (by rw [hp]; exact congrArg some e)
  | none => intro e; have := h.lt; simp only at e; rw [e] at this; omega
theorem Off.nx (h : Off r H) : H.nx ≠ r := fun e => by have := h.lt; rw [e] at this; omega
theorem bl_plus (h : Off r H) {b : Pos} {y : AB} (hb : H.bl.get b = some y) : (H.plus r x).bl.get b = some y := by
  show (plusBl r x H.bl).get b = _
  rw [plusBl_get (h.ne hb)]; exact hb
theorem cls_plus (c : Pos) : (H.plus r x).cls c = H.cls c := rfl
theorem row_plus (h : Off r H) {b : Pos} {y : TypeId × Pos × Nat × List AV × Bool} (hb : H.row? b = some y) : (H.plus r x).row? b = some y := by
  unfold AH.row? at hb ⊢
  cases hg : H.bl.get b with
  | none => rw [hg] at hb; cases hb
  | some z =>
    rw [bl_plus h hg]
    rw [hg] at hb
    exact hb
theorem read_plus (h : Off r H) {b : Pos} {o n : Nat} {l : List AV} (hb : H.read b o n = some l) : (H.plus r x).read b o n = some l := by
  unfold AH.read at hb ⊢
  cases hr : H.row? b with
  | none => rw [hr] at hb; cases hb
  | some y => rw [row_plus h hr]; rw [hr] at hb; exact hb
theorem loadG_plus (h : Off r H) {g : Option Nat} {a v : AV} (hv : H.loadG g a = some v) : (H.plus r x).loadG g a = some v := by
  unfold AH.loadG at hv ⊢
  cases a <;> try (simp at hv; done)
  rename_i b o
  cases g with
  | none =>
    simp only at hv ⊢
    cases hr : H.read b o 1 with
    | none => rw [hr] at hv; cases hv
    | some l => rw [read_plus h hr]; rw [hr] at hv; exact hv
  | some n =>
    simp only at hv ⊢
    cases hr : H.read b o n with
    | none => rw [hr] at hv; cases hv
    | some l => rw [read_plus h hr]; rw [hr] at hv; exact hv
theorem elems_plus (h : Off r H) {sz : Nat} {a : AV} {y : Nat × List AV} (hv : H.elems sz a = some y) : (H.plus r x).elems sz a = some y := by
  unfold AH.elems at hv ⊢
  cases a <;> try (simp at hv; done)
  case nils => exact hv
  case slc b o n c s ex =>
    simp only at hv ⊢
    cases hr : H.read b o (n * sz) with
    | none => rw [hr] at hv; cases hv
    | some l => rw [read_plus h hr]; rw [hr] at hv; exact hv
  case str s => exact hv
theorem lookE_plus (h : Off r H) {ek : EK} {a i : AV} {y : Option AV} (hv : H.lookE ek a i = some y) : (H.plus r x).lookE ek a i = some y := by
  unfold AH.lookE at hv ⊢
  cases a <;> try (simp at hv; done)
  case nilm => exact hv
  case map b =>
    simp only at hv ⊢
    cases hg : H.bl.get b with
    | none => rw [hg] at hv; cases hv
    | some z => rw [bl_plus h hg]; rw [hg] at hv; exact hv

/-- what an operation leaves: the same names are kept -/
structure Left (r : Pos) (H H' : AH) : Prop where
  off : Off r H'
  rs : H'.rs = H.rs
  pk : H.pk = none → H'.pk = none
theorem Left.refl (h : Off r H) : Left r H H := ⟨h, rfl, id⟩
theorem Left.trans {H2 : AH} (h : Left r H H') (h' : Left r H' H2) : Left r H H2 := ⟨h'.off, h'.rs.trans h.rs, fun e => h'.pk (h.pk e)⟩

theorem plus_mk {bl : Tr AB} {cv : Tr (Nat × Pos)} {nx : Pos} : (AH.plus { H with bl := bl, cv := cv, nx := nx } r x) = { H.plus r x with bl := plusBl r x bl, cv := cv, nx := nx } := rfl

theorem write_plus (h : Off r H) {b : Pos} {o : Nat} {l : List AV} (hw : H.write b o l = some H') : (H.plus r x).write b o l = some (H'.plus r x) ∧ Left r H H' := by
  unfold AH.write at hw ⊢
  cases hr : H.row? b with
  | none => rw [hr] at hw; cases hw
  | some y =>
    obtain ⟨e, c, v, vs, ex⟩ := y
    rw [row_plus h hr]
    rw [hr] at hw
    simp only at hw ⊢
    have hb : ∃ z, H.bl.get b = some z := by
      unfold AH.row? at hr
      cases hg : H.bl.get b with
      | none => rw [hg] at hr; cases hr
      | some z => exact ⟨z, rfl⟩
    obtain ⟨z, hz⟩ := hb
    have hne := h.ne hz
    have off : ∀ (y : AB) (cv : Tr (Nat × Pos)), Left r H { H with bl := H.bl.set (some y) b, cv := cv } := fun y cv => ⟨⟨by show (H.bl.set (some y) b).get r = none; rw [Tr.get_set_ne _ _ _ _ (Ne.symm hne)]; exact h.bl, h.lt, h.pk⟩, rfl, id⟩
    have e1 : ∀ (y : AB) (cv : Tr (Nat × Pos)), ({ H.plus r x with bl := (H.plus r x).bl.set (some y) b, cv := cv } : AH) = AH.plus { H with bl := H.bl.set (some y) b, cv := cv } r x := fun y cv => by
      show AH.mk ((plusBl r x H.bl).set (some y) b) _ _ _ _ = _
      rw [plusBl_set hne]; rfl
    split at hw
    · rename_i hc
      rw [if_pos hc]
      split at hw
      · rename_i hc2
        rw [if_pos hc2]
        split at hw
        · rename_i hc3
          rw [if_pos (show (AH.cls (H.plus r x) c).2.beq b = true from hc3)]
          cases hw
          exact ⟨congrArg some (e1 _ H.cv), off _ H.cv⟩
        · rename_i hc3
          rw [if_neg (show ¬ (AH.cls (H.plus r x) c).2.beq b = true from hc3)]
          cases hw
          exact ⟨congrArg some (e1 _ _), off _ _⟩
      · rename_i hc2
        rw [if_neg hc2]
        show (match H.cv.get b with | some _ => none | none => _) = _ ∧ _
        split at hw
        · cases hw
        · rename_i hcv
          cases hw
          rw [hcv]
          exact ⟨congrArg some (e1 _ _), off _ _⟩
    · cases hw

theorem new_plus (h : Off r H) (y : AB) : (H.plus r x).new y = ((H.new y).1, (H.new y).2.plus r x) ∧ Left r H (H.new y).2 := by
  have hn := h.nm
  obtain ⟨bl, cv, nx, pk, rs⟩ := H
  cases pk with
  | some p =>
    simp only [AH.nm] at hn
    refine ⟨?_, ⟨?_, h.lt, by simp [AH.new]⟩, rfl, fun e => by cases e⟩
    · show (p, AH.mk ((plusBl r x bl).set (some y) p) _ _ _ _) = _
      rw [plusBl_set hn]; rfl
    · show (bl.set (some y) p).get r = none
      rw [Tr.get_set_ne _ _ _ _ (Ne.symm hn)]; exact h.bl
  | none =>
    simp only [AH.nm] at hn
    refine ⟨?_, ⟨?_, ?_, by simp [AH.new]⟩, rfl, fun _ => rfl⟩
    · show (nx, AH.mk ((plusBl r x bl).set (some y) nx) _ _ _ _) = _
      rw [plusBl_set hn]; rfl
    · show (bl.set (some y) nx).get r = none
      rw [Tr.get_set_ne _ _ _ _ (Ne.symm hn)]; exact h.bl
    · show r.toNat < nx.succ.toNat
      have : r.toNat < nx.toNat := h.lt
      rw [Pos.toNat_succ]; omega
theorem newRow_plus (h : Off r H) (e : TypeId) (vs : List AV) (ex : Bool) : (H.plus r x).newRow e vs ex = ((H.newRow e vs ex).1, (H.newRow e vs ex).2.plus r x) ∧ Left r H (H.newRow e vs ex).2 := new_plus h _

theorem append_plus (h : Off r H) {e sz b o n c ex m news v} (hv : H.append e sz b o n c ex m news = some (v, H')) : (H.plus r x).append e sz b o n c ex m news = some (v, H'.plus r x) ∧ Left r H H' := by
  unfold AH.append at hv ⊢
  cases hr : H.row? b with
  | none => rw [hr] at hv; cases hv
  | some y =>
    obtain ⟨e', cl, v0, vs, exr⟩ := y
    rw [row_plus h hr]
    rw [hr] at hv
    simp only at hv ⊢
    have hb : ∃ z, H.bl.get b = some z := by
      unfold AH.row? at hr
      cases hg : H.bl.get b with
      | none => rw [hg] at hr; cases hr
      | some z => exact ⟨z, rfl⟩
    obtain ⟨z, hz⟩ := hb
    have hne := h.ne hz
    have hnx := h.nx
    split at hv
    · cases hv
    · rename_i c1
      rw [if_neg c1]
      split at hv
      · cases hv
      · rename_i old hold
        split at hv
        · rename_i c2
          rw [if_pos c2]
          split at hv
          · rename_i H2 hw
            obtain ⟨w1, w2⟩ := write_plus (x := x) h hw
            rw [w1]
            cases hv
            exact ⟨rfl, w2⟩
          · cases hv
        · rename_i c2
          rw [if_neg c2]
          split at hv
          · rename_i c3
            rw [if_pos c3]
            obtain ⟨w1, w2⟩ := newRow_plus (x := x) h e (old ++ news) false
            rw [w1]
            cases hv
            exact ⟨rfl, w2⟩
          · rename_i c3
            rw [if_neg c3]
            split at hv
            · cases hv
            · rename_i c4
              rw [if_neg c4]
              split at hv
              · cases hv
              · rename_i c5
                rw [if_neg c5]
                split at hv
                · rename_i c6
                  rw [if_pos (show (AH.cls (H.plus r x) cl).2.beq b = true from c6)]
                  cases hv
                  refine ⟨?_, ⟨?_, by simp only [Pos.toNat_succ]; have := h.lt; omega, h.pk⟩, rfl, id⟩
                  · show some (_, AH.mk ((plusBl r x H.bl).set _ H.nx) _ _ _ _) = _
                    rw [plusBl_set hnx]; rfl
                  · show (H.bl.set _ H.nx).get r = none
                    rw [Tr.get_set_ne _ _ _ _ (Ne.symm hnx)]; exact h.bl
                · rename_i c6
                  rw [if_neg (show ¬ (AH.cls (H.plus r x) cl).2.beq b = true from c6)]
                  cases hv
                  refine ⟨?_, ⟨?_, by simp only [Pos.toNat_succ]; have := h.lt; omega, h.pk⟩, rfl, id⟩
                  · show some (_, AH.mk (((plusBl r x H.bl).set _ b).set _ H.nx) _ _ _ _) = _
                    rw [plusBl_set hne, plusBl_set hnx]; rfl
                  · show ((H.bl.set _ b).set _ H.nx).get r = none
                    rw [Tr.get_set_ne _ _ _ _ (Ne.symm hnx), Tr.get_set_ne _ _ _ _ (Ne.symm hne)]; exact h.bl

theorem appendTo_plus (h : Off r H) {e sz by_ a m news v} (hv : H.appendTo e sz by_ a m news = some (v, H')) : (H.plus r x).appendTo e sz by_ a m news = some (v, H'.plus r x) ∧ Left r H H' := by
  unfold AH.appendTo at hv ⊢
  cases a <;> try (simp at hv; done)
  case nils =>
    simp only at hv ⊢
    split at hv
    · rename_i c1
      rw [if_pos c1]; cases hv; exact ⟨rfl, Left.refl h⟩
    · rename_i c1
      rw [if_neg c1]
      split at hv
      · rename_i c2
        rw [if_pos c2]
        obtain ⟨w1, w2⟩ := newRow_plus (x := x) h e news false
        rw [w1]; cases hv; exact ⟨rfl, w2⟩
      · cases hv
  case slc b o n c s ex =>
    simp only at hv ⊢
    split at hv
    · cases hv
    · rename_i c1
      rw [if_neg c1]
      split at hv
      · rename_i c2
        rw [if_pos c2]; cases hv; exact ⟨rfl, Left.refl h⟩
      · rename_i c2
        rw [if_neg c2]
        split at hv
        · rename_i c3
          rw [if_pos c3]
          exact append_plus h hv
        · cases hv
theorem copyTo_plus (h : Off r H) {sz a m news v} (hv : H.copyTo sz a m news = some (v, H')) : (H.plus r x).copyTo sz a m news = some (v, H'.plus r x) ∧ Left r H H' := by
  unfold AH.copyTo at hv ⊢
  cases a <;> try (simp at hv; done)
  case nils => simp only at hv ⊢; cases hv; exact ⟨rfl, Left.refl h⟩
  case slc b o n c s ex =>
    simp only at hv ⊢
    split at hv
    · rename_i H2 hw
      obtain ⟨w1, w2⟩ := write_plus (x := x) h hw
      rw [w1]; cases hv; exact ⟨rfl, w2⟩
    · cases hv

theorem map_plus (h : Off r H) {b : Pos} {es es' : List (AV × AV)} (hb : H.bl.get b = some (.map es)) : ({ H.plus r x with bl := (H.plus r x).bl.set (some (.map es')) b } : AH) = AH.plus { H with bl := H.bl.set (some (.map es')) b } r x ∧ Left r H { H with bl := H.bl.set (some (.map es')) b } := by
  have hne := h.ne hb
  refine ⟨?_, ⟨?_, h.lt, h.pk⟩, rfl, id⟩
  · show AH.mk ((plusBl r x H.bl).set _ b) _ _ _ _ = _
    rw [plusBl_set hne]; rfl
  · show (H.bl.set _ b).get r = none
    rw [Tr.get_set_ne _ _ _ _ (Ne.symm hne)]; exact h.bl

theorem val_plus (h : Off r H) {op : AI} {v : AV} (hv : AM.val T H op = some (v, H')) : AM.val T (H.plus r x) op = some (v, H'.plus r x) ∧ Left r H H' := by
  by_cases h0 : op.cls = 0 ∧ ∀ g b e i, op ≠ .gd g b e i
  · have e1 := val_0 (T := T) (H := H) h0.1 h0.2 (H.plus r x)
    have e2 := val_0 (T := T) (H := H) h0.1 h0.2 H
    rw [hv] at e1 e2
    simp only [Option.map_some, Option.some.injEq, Prod.mk.injEq, true_and] at e1 e2
    subst e2
    exact ⟨e1, Left.refl h⟩
  · cases op <;> try (exact absurd ⟨rfl, by intros; simp⟩ h0)
    case alloc d e z =>
      simp only [AM.val] at hv ⊢
      obtain ⟨w1, w2⟩ := newRow_plus (x := x) h e z true
      rw [w1]; cases hv; exact ⟨rfl, w2⟩
    case box d e n y =>
      simp only [AM.val] at hv ⊢
      split at hv
      · rename_i c hc
        split at hv
        · rename_i c1
          obtain ⟨w1, w2⟩ := newRow_plus (x := x) h e c true
          rw [if_pos c1, w1]; cases hv; exact ⟨rfl, w2⟩
        · cases hv
      · cases hv
    case bslc d e sz len z ps =>
      simp only [AM.val] at hv ⊢
      split at hv
      · rename_i c hc
        obtain ⟨w1, w2⟩ := newRow_plus (x := x) h e c true
        rw [w1]; cases hv; exact ⟨rfl, w2⟩
      · cases hv
    case load d g y =>
      simp only [AM.val] at hv ⊢
      split at hv
      · rename_i u hu
        rw [loadG_plus h hu]; cases hv; exact ⟨rfl, Left.refl h⟩
      · cases hv
    case store n y z =>
      simp only [AM.val] at hv ⊢
      split at hv
      · rename_i b o hb
        split at hv
        · rename_i c hc
          split at hv
          · rename_i c1
            split at hv
            · rename_i H2 hw
              obtain ⟨w1, w2⟩ := write_plus (x := x) h hw
              rw [if_pos c1, w1]; cases hv; exact ⟨rfl, w2⟩
            · cases hv
          · cases hv
        · cases hv
      · cases hv
    case mkmap d =>
      simp only [AM.val] at hv ⊢
      obtain ⟨w1, w2⟩ := new_plus (x := x) h (.map [])
      rw [w1]; cases hv; exact ⟨rfl, w2⟩
    case mkslc d e sz by_ z l c =>
      simp only [AM.val] at hv ⊢
      split at hv
      · rename_i n m hn hm
        split at hv
        · rename_i c1
          obtain ⟨w1, w2⟩ := newRow_plus (x := x) h e ((List.replicate m z).flatten) true
          rw [if_pos c1, w1]; cases hv; exact ⟨rfl, w2⟩
        · cases hv
      · cases hv
    case look d ek z y i ok =>
      simp only [AM.val] at hv ⊢
      split at hv
      · cases hv
      · rename_i c1
        rw [if_neg c1]
        split at hv
        · rename_i u hu
          rw [lookE_plus h hu]; cases hv; exact ⟨rfl, Left.refl h⟩
        · rename_i hu
          rw [lookE_plus h hu]; cases hv; exact ⟨rfl, Left.refl h⟩
        · cases hv
    case mset ek m k u =>
      simp only [AM.val] at hv ⊢
      split at hv
      · cases hv
      · rename_i c1
        rw [if_neg c1]
        split at hv
        · rename_i b hb
          split at hv
          · rename_i es hes
            rw [bl_plus h hes]
            simp only
            split at hv
            · rename_i es' hes'
              obtain ⟨w1, w2⟩ := map_plus (x := x) (es' := es') h hes
              rw [w1]; cases hv; exact ⟨rfl, w2⟩
            · cases hv
          · cases hv
        · cases hv
    case mdel d ek m k =>
      simp only [AM.val] at hv ⊢
      split at hv
      · cases hv
      · rename_i c1
        rw [if_neg c1]
        split at hv
        · cases hv; exact ⟨rfl, Left.refl h⟩
        · rename_i b hb
          split at hv
          · rename_i es hes
            rw [bl_plus h hes]
            simp only
            split at hv
            · rename_i es' hes'
              obtain ⟨w1, w2⟩ := map_plus (x := x) (es' := es') h hes
              rw [w1]; cases hv; exact ⟨rfl, w2⟩
            · cases hv
          · cases hv
        · cases hv
    case len d k y =>
      simp only [AM.val] at hv ⊢
      split at hv <;> first
        | (cases hv; exact ⟨rfl, Left.refl h⟩)
        | (cases hv; done)
        | (split at hv
           · rename_i es hes
             rw [bl_plus h hes]; cases hv; exact ⟨rfl, Left.refl h⟩
           · cases hv)
    case app d e sz by_ y z =>
      simp only [AM.val] at hv ⊢
      split at hv
      · cases hv
      · rename_i m news hm
        rw [elems_plus h hm]
        exact appendTo_plus h hv
    case copy d sz y z =>
      simp only [AM.val] at hv ⊢
      split at hv
      · cases hv
      · rename_i m news hm
        rw [elems_plus h hm]
        exact copyTo_plus h hv
    case clear d z y =>
      simp only [AM.val] at hv ⊢
      split at hv
      · cases hv; exact ⟨rfl, Left.refl h⟩
      · cases hv; exact ⟨rfl, Left.refl h⟩
      · rename_i b o n c s ex hb
        split at hv
        · rename_i c1
          rw [if_pos c1]; cases hv; exact ⟨rfl, Left.refl h⟩
        · rename_i c1
          rw [if_neg c1]
          split at hv
          · rename_i H2 hw
            obtain ⟨w1, w2⟩ := write_plus (x := x) h hw
            rw [w1]; cases hv; exact ⟨rfl, w2⟩
          · cases hv
      · cases hv
    case call d f args => simp [AM.val] at hv
    case gd g b d i => simp [AM.val] at hv
    case chk d i => simp [AM.val] at hv
end
end Go.AM
