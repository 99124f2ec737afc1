/- THE ABSTRACT MACHINE, ARRANGED FOR THE KERNEL: blocks. -/
import Derived.Test.YtehgboiiphlfeaaGreatDoorAmFast
namespace Go.AM.F
open Go Go.AM

noncomputable def posEq (p : Pos) : Pos → Bool :=
  Pos.rec (motive := fun _ => Pos → Bool) (fun q => Pos.rec (motive := fun _ => Bool) true (fun _ _ => false) (fun _ _ => false) q)
    (fun _ ih q => Pos.rec (motive := fun _ => Bool) false (fun q _ => ih q) (fun _ _ => false) q)
    (fun _ ih q => Pos.rec (motive := fun _ => Bool) false (fun _ _ => false) (fun q _ => ih q) q) p
theorem posEq_eq : ∀ p q, posEq p q = p.beq q
  | .h, .h => rfl
  | .h, .o _ => rfl
  | .h, .i _ => rfl
  | .o _, .h => rfl
  | .o p, .o q => posEq_eq p q
  | .o _, .i _ => rfl
  | .i _, .h => rfl
  | .i _, .o _ => rfl
  | .i p, .i q => posEq_eq p q
noncomputable def succF (p : Pos) : Pos := Pos.rec (motive := fun _ => Pos) (.o .h) (fun p _ => .i p) (fun _ ih => .o ih) p
theorem succF_eq : ∀ p, succF p = p.succ
  | .h => rfl
  | .o _ => rfl
  | .i p => congrArg Pos.o (succF_eq p)

noncomputable def clsF (H : AH) (c : Pos) : Nat × Pos := Option.rec (motive := fun _ => Nat × Pos) (0, c) (fun x => x) (trGet c H.cv)
theorem clsF_eq (H c) : clsF H c = H.cls c := by
  unfold clsF AH.cls; rw [trGet_eq]; cases H.cv.get c <;> rfl

noncomputable def rowF (H : AH) (b : Pos) (k : TypeId → Pos → Nat → List AV → Bool → R) : R :=
  match trGet b H.bl with
  | some (.row e c v vs ex) => Bool.rec (motive := fun _ => R) .bad (k e c v vs ex) (Nat.beq (clsF H c).1 v)
  | _ => .bad
def handR (o : Option (TypeId × Pos × Nat × List AV × Bool)) (k : TypeId → Pos → Nat → List AV → Bool → R) : R :=
  match o with | some (e, c, v, vs, ex) => k e c v vs ex | none => .bad
theorem rowF_eq (H b k) : rowF H b k = handR (H.row? b) k := by
  unfold rowF AH.row?
  rw [trGet_eq]
  cases H.bl.get b with
  | none => rfl
  | some x =>
    cases x with
    | row e c v vs ex =>
      simp only [clsF_eq]
      cases Nat.beq (H.cls c).1 v <;> rfl
    | map es => rfl
    | loop _ _ _ _ _ _ => rfl

noncomputable def dropF {β : Type} (o : Nat) : List β → List β :=
  Nat.rec (motive := fun _ => List β → List β) (fun l => l) (fun _ ih l => List.rec (motive := fun _ => List β) [] (fun _ t _ => ih t) l) o
theorem dropF_eq {β : Type} : ∀ (o : Nat) (l : List β), dropF o l = l.drop o
  | 0, _ => rfl
  | _ + 1, [] => rfl
  | o + 1, _ :: l => dropF_eq o l
noncomputable def takeF {β : Type} (o : Nat) : List β → List β :=
  Nat.rec (motive := fun _ => List β → List β) (fun _ => []) (fun _ ih l => List.rec (motive := fun _ => List β) [] (fun x t _ => x :: ih t) l) o
theorem takeF_eq {β : Type} : ∀ (o : Nat) (l : List β), takeF o l = l.take o
  | 0, _ => rfl
  | _ + 1, [] => rfl
  | o + 1, x :: l => congrArg (x :: ·) (takeF_eq o l)
def handL (o : Option (List AV)) (k : List AV → R) : R := match o with | some l => k l | none => .bad
/-- just n -/
noncomputable def takeX (n : Nat) : List AV → (List AV → R) → R :=
  Nat.rec (motive := fun _ => List AV → (List AV → R) → R) (fun _ k => k []) (fun _ ih l k => List.rec (motive := fun _ => R) .bad (fun x t _ => ih t (fun r => k (x :: r))) l) n
theorem takeX_eq : ∀ (n : Nat) (l : List AV) (k : List AV → R), takeX n l k = if Nat.beq (l.take n).length n then k (l.take n) else .bad
  | 0, _, _ => rfl
  | n + 1, [], k => rfl
  | n + 1, x :: l, k => by
    show takeX n l (fun r => k (x :: r)) = _
    rw [takeX_eq n l]
    rfl
theorem takeX_slice (vs : List AV) (o n : Nat) (k : List AV → R) : takeX n (dropF o vs) k = handL (slice? vs o n) k := by
  rw [takeX_eq, dropF_eq]
  unfold slice?
  dsimp only
  cases Nat.beq ((vs.drop o).take n).length n <;> rfl

noncomputable def nthF (o : Nat) : List AV → (AV → R) → R :=
  Nat.rec (motive := fun _ => List AV → (AV → R) → R) (fun l k => List.rec (motive := fun _ => R) .bad (fun x _ _ => k x) l) (fun _ ih l k => List.rec (motive := fun _ => R) .bad (fun _ t _ => ih t k) l) o
theorem nthF_get : ∀ (o : Nat) (l : List AV) (k : AV → R), nthF o l k = handV (nthV l o) k
  | 0, [], _ => rfl
  | 0, _ :: _, _ => rfl
  | _ + 1, [], _ => rfl
  | o + 1, _ :: l, k => nthF_get o l k
theorem nthF_slice : ∀ (o : Nat) (l : List AV) (k : AV → R), nthF o l k = handL (slice? l o 1) (fun l => match l with | [v] => k v | _ => .bad)
  | 0, [], _ => rfl
  | 0, _ :: _, _ => rfl
  | _ + 1, [], _ => rfl
  | o + 1, _ :: l, k => nthF_slice o l k

noncomputable def readF (H : AH) (b : Pos) (o n : Nat) (k : List AV → R) : R := rowF H b (fun _ _ _ vs _ => takeX n (dropF o vs) k)
theorem readF_eq (H b o n k) : readF H b o n k = handL (H.read b o n) k := by
  unfold readF AH.read
  rw [rowF_eq]
  cases H.row? b with
  | none => rfl
  | some x => obtain ⟨e, c, v, vs, ex⟩ := x; exact takeX_slice vs o n k
noncomputable def loadF (H : AH) (g : Option Nat) (x : AV) (k : AV → R) : R :=
  match x with
  | .ptr b o => Option.rec (motive := fun _ => R) (rowF H b (fun _ _ _ vs _ => nthF o vs k)) (fun n => readF H b o n (fun l => k (.agg l))) g
  | _ => .bad
theorem loadF_eq (H g x k) : loadF H g x k = handV (H.loadG g x) k := by
  cases x
  case ptr b o =>
    cases g with
    | none =>
      show rowF H b (fun _ _ _ vs _ => nthF o vs k) = _
      rw [rowF_eq]
      simp only [AH.loadG, AH.read]
      cases H.row? b with
      | none => rfl
      | some x =>
        obtain ⟨e, c, v, vs, ex⟩ := x
        show nthF o vs k = handV (match slice? vs o 1 with | some [v] => some v | _ => none) k
        rw [nthF_slice]
        cases slice? vs o 1 with
        | none => rfl
        | some l =>
          cases l with
          | nil => rfl
          | cons a l => cases l <;> rfl
    | some n =>
      show readF H b o n (fun l => k (.agg l)) = _
      rw [readF_eq]
      simp only [AH.loadG]
      cases H.read b o n <;> rfl
  all_goals rfl

noncomputable def overF (vs : List AV) : List AV → List AV :=
  List.rec (motive := fun _ => List AV → List AV) (fun old => old) (fun v _ ih old => List.rec (motive := fun _ => List AV) [] (fun _ t _ => v :: ih t) old) vs
theorem overF_eq : ∀ vs old, overF vs old = putAt.over vs old
  | [], _ => rfl
  | _ :: _, [] => rfl
  | v :: vs, _ :: old => congrArg (v :: ·) (overF_eq vs old)
noncomputable def putAtF (vs : List AV) (o : Nat) : List AV → List AV :=
  Nat.rec (motive := fun _ => List AV → List AV) (fun old => overF vs old) (fun _ ih old => List.rec (motive := fun _ => List AV) [] (fun a t _ => a :: ih t) old) o
theorem putAtF_eq (vs : List AV) : ∀ (o : Nat) (old : List AV), putAtF vs o old = putAt vs old o
  | 0, old => by show overF vs old = _; rw [overF_eq]; cases old <;> rfl
  | _ + 1, [] => rfl
  | o + 1, a :: old => congrArg (a :: ·) (putAtF_eq vs o old)

def handH (o : Option AH) (k : AH → R) : R := match o with | some H => k H | none => .bad
noncomputable def writeF (H : AH) (b : Pos) (o : Nat) (l : List AV) (k : AH → R) : R :=
  rowF H b (fun e c v vs ex => Bool.rec (motive := fun _ => R) .bad
    (Bool.rec (motive := fun _ => R)
      (match trGet b H.cv with
        | some _ => .bad
        | none => k ⟨trSet (some (.row e b 0 (putAtF l o vs) ex)) b H.bl, trSet (some (Nat.succ v, c)) c H.cv, H.nx, H.pk, H.rs⟩)
      (Bool.rec (motive := fun _ => R) (k ⟨trSet (some (.row e c (Nat.succ v) (putAtF l o vs) ex)) b H.bl, trSet (some (Nat.succ v, b)) c H.cv, H.nx, H.pk, H.rs⟩)
        (k ⟨trSet (some (.row e c v (putAtF l o vs) ex)) b H.bl, H.cv, H.nx, H.pk, H.rs⟩) (posEq (clsF H c).2 b)) (posEq c b))
    (Nat.ble (Nat.add o (lenF l)) (lenF vs)))
theorem writeF_eq (H b o l k) : writeF H b o l k = handH (H.write b o l) k := by
  unfold writeF AH.write
  rw [rowF_eq]
  cases H.row? b with
  | none => rfl
  | some x =>
    obtain ⟨e, c, v, vs, ex⟩ := x
    simp only [handR, lenF_eq, posEq_eq, clsF_eq, trGet_eq, trSet_eq, putAtF_eq]
    show Bool.rec (motive := fun _ => R) _ _ (Nat.ble (o + l.length) vs.length) = _
    cases Nat.ble (o + l.length) vs.length with
    | false => rfl
    | true =>
      simp only [if_true]
      cases c.beq b with
      | true =>
        simp only [if_true]
        cases (H.cls c).2.beq b <;> rfl
      | false =>
        simp only [Bool.false_eq_true, if_false]
        cases H.cv.get b <;> rfl

/-- a new block -/
noncomputable def newF (H : AH) (x : Pos → AB) (k : Pos → AH → R) : R :=
  AH.rec (motive := fun _ => R) (fun bl cv nx pk rs => Option.rec (motive := fun _ => R) (k nx ⟨trSet (some (x nx)) nx bl, cv, succF nx, none, rs⟩) (fun r => k r ⟨trSet (some (x r)) r bl, cv, nx, none, rs⟩) pk) H
theorem newF_eq (H x k) : newF H x k = k (H.new (x H.nm)).1 (H.new (x H.nm)).2 := by
  cases H with
  | mk bl cv nx pk rs =>
    cases pk with
    | none =>
      show k nx ⟨trSet (some (x nx)) nx bl, cv, succF nx, none, rs⟩ = _
      rw [trSet_eq, succF_eq]; rfl
    | some r =>
      show k r ⟨trSet (some (x r)) r bl, cv, nx, none, rs⟩ = _
      rw [trSet_eq]; rfl
noncomputable def newRowF (H : AH) (e : TypeId) (vs : List AV) (ex : Bool) (k : Pos → AH → R) : R := newF H (fun nx => .row e nx 0 vs ex) k
theorem newRowF_eq (H e vs ex k) : newRowF H e vs ex k = k (H.newRow e vs ex).1 (H.newRow e vs ex).2 := newF_eq H _ k

noncomputable def appendF (H : AH) (e : TypeId) (sz : Nat) (b : Pos) (o n c : Nat) (ex : Bool) (m : Nat) (news : List AV) (k : AV → AH → R) : R :=
  rowF H b (fun e' cl v vs exr => Bool.rec (motive := fun _ => R) .bad
    (takeX (Nat.mul n sz) (dropF o vs) (fun old =>
      Bool.rec (motive := fun _ => R)
        (Bool.rec (motive := fun _ => R)
          (Bool.rec (motive := fun _ => R)
            (Bool.rec (motive := fun _ => R) .bad
              (Bool.rec (motive := fun _ => R)
                (AH.rec (motive := fun _ => R) (fun bl cv nx pk rs => Prod.rec (motive := fun _ => R) (fun v0 _ => k (.slc nx 0 (Nat.add n m) (Nat.add n m) sz false)
                  ⟨trSet (some (.row e cl (Nat.succ v0) (appF old news) false)) nx (trSet (some (.row e cl (Nat.succ v0) vs exr)) b bl), trSet (some (Nat.succ v0, nx)) cl cv, succF nx, pk, rs⟩) (clsF H cl)) H)
                (AH.rec (motive := fun _ => R) (fun bl cv nx pk rs => Prod.rec (motive := fun _ => R) (fun v0 _ => k (.slc nx 0 (Nat.add n m) (Nat.add n m) sz false)
                  ⟨trSet (some (.row e cl v (appF old news) false)) nx bl, trSet (some (v0, nx)) cl cv, succF nx, pk, rs⟩) (clsF H cl)) H)
                (posEq (clsF H cl).2 b))
              (Nat.beq (Nat.add o (Nat.mul n sz)) (lenF vs)))
            .bad exr)
          (newRowF H e (appF old news) false (fun b' H => k (.slc b' 0 (Nat.add n m) (Nat.add n m) sz false) H)) ex)
        (writeF H b (Nat.add o (Nat.mul n sz)) news (fun H => k (.slc b o (Nat.add n m) c sz ex) H)) (Nat.ble (Nat.add n m) c)))
    (Nat.beq e' e))
theorem appendF_eq (H e sz b o n c ex m news k) : appendF H e sz b o n c ex m news k = andThen (H.append e sz b o n c ex m news) k := by
  unfold appendF AH.append
  rw [rowF_eq]
  cases H.row? b with
  | none => rfl
  | some x =>
    obtain ⟨e', cl, v, vs, exr⟩ := x
    simp only [handR]
    cases Nat.beq e' e with
    | false => rfl
    | true =>
      simp only [takeX_slice, Bool.not_true, Bool.false_eq_true, if_false]
      show handL (slice? vs o (n * sz)) _ = _
      cases slice? vs o (n * sz) with
      | none => rfl
      | some old =>
        simp only [handL]
        show Bool.rec (motive := fun _ => R) _ _ (Nat.ble (n + m) c) = _
        cases Nat.ble (n + m) c with
        | true =>
          simp only [if_true, writeF_eq]
          show handH (H.write b (o + n * sz) news) _ = _
          cases H.write b (o + n * sz) news <;> rfl
        | false =>
          simp only [Bool.false_eq_true, if_false]
          cases ex with
          | true => simp only [if_true, newRowF_eq, appF_eq]; rfl
          | false =>
            simp only [Bool.false_eq_true, if_false]
            cases exr with
            | true => rfl
            | false =>
              simp only [Bool.false_eq_true, if_false, lenF_eq]
              show Bool.rec (motive := fun _ => R) _ _ (Nat.beq (o + n * sz) vs.length) = _
              cases Nat.beq (o + n * sz) vs.length with
              | false => rfl
              | true =>
                simp only [Bool.not_true, Bool.false_eq_true, if_false, posEq_eq, clsF_eq, trSet_eq, succF_eq, appF_eq]
                cases H with
                | mk bl cv nx pk rs =>
                  cases (AH.cls ⟨bl, cv, nx, pk, rs⟩ cl) with
                  | mk v0 top => cases top.beq b <;> rfl

noncomputable def byteCellsF (l : List Nat) : List AV := List.rec (motive := fun _ => List AV) [] (fun b _ ih => .int .u8 (Int.ofNat b) :: ih) l
theorem byteCellsF_eq : ∀ l, byteCellsF l = byteCells l
  | [] => rfl
  | b :: l => congrArg (AV.int .u8 (Int.ofNat b) :: ·) (byteCellsF_eq l)
def handN (o : Option (Nat × List AV)) (k : Nat → List AV → R) : R := match o with | some (m, l) => k m l | none => .bad
noncomputable def elemsF (H : AH) (sz : Nat) (x : AV) (k : Nat → List AV → R) : R :=
  match x with
  | .nils => k 0 []
  | .slc b o n _ _ _ => readF H b o (Nat.mul n sz) (fun l => k n l)
  | .str s => Bool.rec (motive := fun _ => R) .bad (k (lenF s) (byteCellsF s)) (Nat.beq sz 1)
  | _ => .bad
theorem elemsF_eq (H sz x k) : elemsF H sz x k = handN (H.elems sz x) k := by
  cases x
  case nils => rfl
  case slc b o n c s ex =>
    show readF H b o (n * sz) (fun l => k n l) = _
    rw [readF_eq]; simp only [AH.elems]
    cases H.read b o (n * sz) <;> rfl
  case str s =>
    show Bool.rec (motive := fun _ => R) R.bad (k (lenF s) (byteCellsF s)) (Nat.beq sz 1) = _
    rw [lenF_eq, byteCellsF_eq]; simp only [AH.elems]
    cases Nat.beq sz 1 <;> rfl
  all_goals rfl

noncomputable def appendToF (H : AH) (e : TypeId) (sz by_ : Nat) (x : AV) (m : Nat) (news : List AV) (k : AV → AH → R) : R :=
  match x with
  | .nils => Bool.rec (motive := fun _ => R) (Bool.rec (motive := fun _ => R) .bad (Bool.rec (motive := fun _ => R) .bad (newRowF H e news false (fun b H => k (.slc b 0 m m sz false) H)) (Nat.ble (Nat.mul m by_) 1073741824)) (Nat.ble m 1073741824)) (k .nils H) (Nat.beq m 0)
  | .slc b o n c s ex => Bool.rec (motive := fun _ => R) .bad (Bool.rec (motive := fun _ => R) (Bool.rec (motive := fun _ => R) .bad (Bool.rec (motive := fun _ => R) .bad (appendF H e sz b o n c ex m news k) (Nat.ble (Nat.mul (Nat.add n m) by_) 1073741824)) (Nat.ble (Nat.add n m) 1073741824)) (k (.slc b o n c s ex) H) (Nat.beq m 0)) (Nat.beq s sz)
  | _ => .bad
theorem appendToF_eq (H e sz by_ x m news k) : appendToF H e sz by_ x m news k = andThen (H.appendTo e sz by_ x m news) k := by
  cases x
  case nils =>
    simp only [appendToF, AH.appendTo, newRowF_eq]
    show Bool.rec (motive := fun _ => R) _ _ (Nat.beq m 0) = _
    cases Nat.beq m 0 with
    | true => rfl
    | false =>
      simp only [Bool.false_eq_true, if_false]
      cases Nat.ble m 1073741824 with
      | false => rfl
      | true =>
        show Bool.rec (motive := fun _ => R) _ _ (Nat.ble (m * by_) 1073741824) = _
        cases Nat.ble (m * by_) 1073741824 <;> rfl
  case slc b o n c s ex =>
    simp only [appendToF, AH.appendTo, appendF_eq]
    cases Nat.beq s sz with
    | false => rfl
    | true =>
      simp only [Bool.not_true, Bool.false_eq_true, if_false]
      cases Nat.beq m 0 with
      | true => rfl
      | false =>
        simp only [Bool.false_eq_true, if_false]
        show Bool.rec (motive := fun _ => R) _ _ (Nat.ble (n + m) 1073741824) = _
        cases Nat.ble (n + m) 1073741824 with
        | false => rfl
        | true =>
          show Bool.rec (motive := fun _ => R) _ _ (Nat.ble ((n + m) * by_) 1073741824) = _
          cases Nat.ble ((n + m) * by_) 1073741824 <;> rfl
  all_goals rfl

noncomputable def asNatF (v : AV) (k : Nat → R) : R :=
  match v with
  | .int _ n => Int.rec (motive := fun _ => R) (fun m => k m) (fun _ => .bad) n
  | _ => .bad
def handM (o : Option Nat) (k : Nat → R) : R := match o with | some m => k m | none => .bad
theorem asNatF_eq (v k) : asNatF v k = handM (asNat? v) k := by
  cases v
  case int j n =>
    cases n with
    | ofNat m =>
      have : (0 : Int) ≤ Int.ofNat m := by simp only [Int.ofNat_eq_natCast]; omega
      simp only [asNat?, this, if_true]; rfl
    | negSucc m =>
      have : ¬ (0 : Int) ≤ Int.negSucc m := by omega
      simp only [asNat?, this, if_false]; rfl
  all_goals rfl
noncomputable def boundF (dflt most : Nat) (o : Option AV) (k : Nat → R) : R :=
  Option.rec (motive := fun _ => R) (k dflt) (fun v => asNatF v (fun n => Bool.rec (motive := fun _ => R) .bad (k n) (Nat.ble n most))) o
theorem boundF_eq (d m o k) : boundF d m o k = handM (bound? d m o) k := by
  cases o with
  | none => rfl
  | some v =>
    show asNatF v _ = _
    rw [asNatF_eq]
    simp only [bound?]
    cases asNat? v with
    | none => rfl
    | some n => simp only [handM]; cases Nat.ble n m <;> rfl

noncomputable def sliceF (sz : Nat) (x : AV) (lo hi mx : Option AV) (q : AV → R) : R :=
  match x with
  | .slc b o n c s ex => Bool.rec (motive := fun _ => R) .bad
      (Option.rec (motive := fun _ => R) (boundF n c hi (fun h => boundF 0 h lo (fun l => q (.slc b (Nat.add o (Nat.mul l sz)) (Nat.sub h l) (Nat.sub c l) sz ex))))
        (fun _ => boundF c c mx (fun m => Option.rec (motive := fun _ => R) .bad (fun _ => boundF n m hi (fun h => boundF 0 h lo (fun l => q (.slc b (Nat.add o (Nat.mul l sz)) (Nat.sub h l) (Nat.sub m l) sz true)))) hi)) mx) (Nat.beq s sz)
  | .nils => Option.rec (motive := fun _ => R) (boundF 0 0 hi (fun _ => boundF 0 0 lo (fun _ => q .nils))) (fun _ => Option.rec (motive := fun _ => R) .bad (fun _ => boundF 0 0 mx (fun _ => boundF 0 0 hi (fun _ => boundF 0 0 lo (fun _ => q .nils)))) hi) mx
  | _ => .bad
theorem sliceF_eq (sz x lo hi mx q) : sliceF sz x lo hi mx q = handV (sliceA sz x lo hi mx) q := by
  cases x
  case slc b o n c s ex =>
    simp only [sliceF, sliceA]
    cases Nat.beq s sz with
    | false => rfl
    | true =>
      simp only [Bool.not_true, Bool.false_eq_true, if_false]
      cases mx with
      | none =>
        simp only [boundF_eq]
        cases bound? n c hi with
        | none => rfl
        | some h =>
          simp only [handM]
          cases bound? 0 h lo <;> rfl
      | some v =>
        simp only [boundF_eq]
        cases bound? c c (some v) with
        | none => rfl
        | some m =>
          simp only [handM]
          cases hi with
          | none => rfl
          | some u =>
            simp only []
            cases bound? n m (some u) with
            | none => rfl
            | some h =>
              simp only []
              cases bound? 0 h lo <;> rfl
  case nils =>
    simp only [sliceF, sliceA]
    cases mx with
    | some v =>
      cases hi with
      | none => rfl
      | some u =>
        simp only [boundF_eq]
        cases bound? 0 0 (some v) with
        | none => rfl
        | some _ =>
          simp only [handM]
          cases bound? 0 0 (some u) with
          | none => rfl
          | some _ =>
            simp only []
            cases bound? 0 0 lo <;> rfl
    | none =>
      simp only [boundF_eq]
      cases bound? 0 0 hi with
      | none => rfl
      | some _ =>
        simp only [handM]
        cases bound? 0 0 lo <;> rfl
  all_goals rfl
end Go.AM.F
