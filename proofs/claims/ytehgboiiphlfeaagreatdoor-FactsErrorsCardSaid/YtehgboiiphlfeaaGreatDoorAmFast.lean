/- THE ABSTRACT MACHINE, ARRANGED FOR THE KERNEL: the same run, each step by closed arms of recursors, in continuations. -/
import Derived.Test.YtehgboiiphlfeaaGreatDoorAmSound5
namespace Go.AM.F
open Go Go.AM

variable {α : Type}

noncomputable def trGet (p : Pos) : Tr α → Option α :=
  Pos.rec (motive := fun _ => Tr α → Option α)
    (fun t => Tr.rec (motive := fun _ => Option α) none (fun _ v _ _ _ => v) t)
    (fun _ ih t => Tr.rec (motive := fun _ => Option α) none (fun l _ _ _ _ => ih l) t)
    (fun _ ih t => Tr.rec (motive := fun _ => Option α) none (fun _ _ r _ _ => ih r) t) p
theorem trGet_eq : ∀ (p : Pos) (t : Tr α), trGet p t = t.get p
  | .h, .lf => rfl
  | .h, .nd .. => rfl
  | .o _, .lf => rfl
  | .o p, .nd l _ _ => trGet_eq p l
  | .i _, .lf => rfl
  | .i p, .nd _ _ r => trGet_eq p r

noncomputable def trSet (x : Option α) (p : Pos) : Tr α → Tr α :=
  Pos.rec (motive := fun _ => Tr α → Tr α)
    (fun t => Tr.rec (motive := fun _ => Tr α) (.nd .lf x .lf) (fun l _ r _ _ => .nd l x r) t)
    (fun _ ih t => Tr.rec (motive := fun _ => Tr α) (.nd (ih .lf) none .lf) (fun l v r _ _ => .nd (ih l) v r) t)
    (fun _ ih t => Tr.rec (motive := fun _ => Tr α) (.nd .lf none (ih .lf)) (fun l v r _ _ => .nd l v (ih r)) t) p
theorem trSet_eq (x : Option α) : ∀ (p : Pos) (t : Tr α), trSet x p t = t.set x p
  | .h, .lf => rfl
  | .h, .nd .. => rfl
  | .o p, .lf => congrArg (fun u => Tr.nd u none .lf) (trSet_eq x p .lf)
  | .o p, .nd l v r => congrArg (fun u => Tr.nd u v r) (trSet_eq x p l)
  | .i p, .lf => congrArg (fun u => Tr.nd .lf none u) (trSet_eq x p .lf)
  | .i p, .nd l v r => congrArg (fun u => Tr.nd l v u) (trSet_eq x p r)

noncomputable def evF (T : AT) (x : AX) : AV :=
  AX.rec (motive := fun _ => AV) (fun p => Option.rec (motive := fun _ => AV) .unk (fun v => v) (trGet p T)) (fun v => v) x
theorem evF_eq (T : AT) (x : AX) : evF T x = x.ev T := by
  cases x with
  | t p => simp only [evF, AX.ev, trGet_eq]; cases T.get p <;> rfl
  | c v => rfl

noncomputable def evsF (T : AT) (l : List AX) : List AV := List.rec (motive := fun _ => List AV) [] (fun x _ ih => evF T x :: ih) l
theorem evsF_eq (T : AT) : ∀ l, evsF T l = evs T l
  | [] => rfl
  | x :: l => by show evF T x :: evsF T l = _; rw [evF_eq, evsF_eq T l]; rfl

abbrev K := AT → AH → R
abbrev Call := AV → List AV → AH → (AV → AH → R) → R
/-- what a call gives, handed on -/
def andThen (o : Option (AV × AH)) (k : AV → AH → R) : R := match o with | some (v, H) => k v H | none => .bad
def CallIs (cF : Call) (c : AV → List AV → AH → Option (AV × AH)) : Prop := ∀ f a H k, cF f a H k = andThen (c f a H) k

noncomputable def put (d : Pos) (v : AV) (T : AT) : AT := trSet (some v) d T
theorem put_eq (d v T) : put d v T = AT.put T d v := trSet_eq _ _ _
noncomputable def putO (d : Option Pos) (v : AV) (T : AT) : AT := Option.rec (motive := fun _ => AT) T (fun d => put d v T) d
theorem putO_eq (d v T) : putO d v T = AM.putO T d v := by cases d with | none => rfl | some d => exact put_eq d v T

/-! ### numbers -/
def kIdx : IntKind → Nat
  | .i64 => 0 | .u64 => 1 | .i32 => 2 | .u32 => 3 | .i16 => 4 | .u16 => 5 | .i8 => 6 | .u8 => 7
def kEqF (j k : IntKind) : Bool := Nat.beq (kIdx j) (kIdx k)
theorem kEqF_eq (j k) : kEqF j k = kEq j k := by cases j <;> cases k <;> rfl
/-- numbers below this are their own -/
def lim : IntKind → Nat
  | .i64 => 9223372036854775808 | .u64 => 18446744073709551616 | .i32 => 2147483648 | .u32 => 4294967296 | .i16 => 32768 | .u16 => 65536 | .i8 => 128 | .u8 => 256
noncomputable def wrapN (k : IntKind) (n : Nat) : Int := Bool.rec (motive := fun _ => Int) (wrapA k (Int.ofNat n)) (Int.ofNat n) (Nat.blt n (lim k))
theorem wrapN_eq (k n) : wrapN k n = wrapA k (Int.ofNat n) := by
  unfold wrapN
  cases h : Nat.blt n (lim k) with
  | false => rfl
  | true =>
    rw [Nat.blt_eq] at h
    show Int.ofNat n = _
    simp only [Int.ofNat_eq_natCast]
    cases k <;> simp only [lim] at h <;> simp only [wrapA] <;> (first | (split <;> omega) | omega)
noncomputable def wrapF (k : IntKind) (n : Int) : Int := Int.rec (motive := fun _ => Int) (fun m => wrapN k m) (fun m => wrapA k (Int.negSucc m)) n
theorem wrapF_eq (k n) : wrapF k n = wrapA k n := by cases n with | ofNat m => exact wrapN_eq k m | negSucc m => rfl

noncomputable def addF (k : IntKind) (a b : Int) : AV :=
  Int.rec (motive := fun _ => AV) (fun m => Int.rec (motive := fun _ => AV) (fun n => .int k (wrapN k (Nat.add m n))) (fun n => .int k (wrapF k (Int.ofNat m + Int.negSucc n))) b) (fun m => .int k (wrapF k (Int.negSucc m + b))) a
theorem addF_eq (k a b) : addF k a b = .int k (wrapA k (a + b)) := by
  cases a with
  | ofNat m => cases b with
    | ofNat n => exact congrArg _ (wrapN_eq k _)
    | negSucc n => exact congrArg _ (wrapF_eq k _)
  | negSucc m => exact congrArg _ (wrapF_eq k _)
noncomputable def subN (k : IntKind) (m n : Nat) : AV := Bool.rec (motive := fun _ => AV) (.int k (wrapF k (Int.ofNat m - Int.ofNat n))) (.int k (wrapN k (Nat.sub m n))) (Nat.ble n m)
noncomputable def subF (k : IntKind) (a b : Int) : AV :=
  Int.rec (motive := fun _ => AV) (fun m => Int.rec (motive := fun _ => AV) (fun n => subN k m n) (fun n => .int k (wrapF k (Int.ofNat m - Int.negSucc n))) b) (fun m => .int k (wrapF k (Int.negSucc m - b))) a
theorem subF_eq (k a b) : subF k a b = .int k (wrapA k (a - b)) := by
  cases a with
  | ofNat m => cases b with
    | ofNat n =>
      show subN k m n = _
      unfold subN
      cases h : Nat.ble n m with
      | false => exact congrArg _ (wrapF_eq k _)
      | true =>
        refine congrArg _ ((wrapN_eq k _).trans (congrArg _ ?_))
        have := Nat.le_of_ble_eq_true h
        show Int.ofNat (m - n) = Int.ofNat m - Int.ofNat n
        simp only [Int.ofNat_eq_natCast]; omega
    | negSucc n => exact congrArg _ (wrapF_eq k _)
  | negSucc m => exact congrArg _ (wrapF_eq k _)
noncomputable def mulF (k : IntKind) (a b : Int) : AV :=
  Int.rec (motive := fun _ => AV) (fun m => Int.rec (motive := fun _ => AV) (fun n => .int k (wrapN k (Nat.mul m n))) (fun n => .int k (wrapF k (Int.ofNat m * Int.negSucc n))) b) (fun m => .int k (wrapF k (Int.negSucc m * b))) a
theorem mulF_eq (k a b) : mulF k a b = .int k (wrapA k (a * b)) := by
  cases a with
  | ofNat m => cases b with
    | ofNat n => exact congrArg _ (wrapN_eq k _)
    | negSucc n => exact congrArg _ (wrapF_eq k _)
  | negSucc m => exact congrArg _ (wrapF_eq k _)
noncomputable def ltF (a b : Int) : Bool :=
  Int.rec (motive := fun _ => Bool) (fun m => Int.rec (motive := fun _ => Bool) (fun n => Nat.blt m n) (fun _ => false) b) (fun m => Int.rec (motive := fun _ => Bool) (fun _ => true) (fun n => Nat.blt n m) b) a
theorem blt_dec (m n : Nat) : Nat.blt m n = decide (m < n) := by
  cases h : Nat.blt m n with
  | true => rw [Nat.blt_eq] at h; simp [h]
  | false => have : ¬ m < n := fun h2 => by have h3 : Nat.blt m n = true := by { rw [Nat.blt_eq]; exact h2 }; rw [h3] at h; cases h
             simp [this]
theorem ltF_eq (a b) : ltF a b = decide (a < b) := by
  cases a with
  | ofNat m => cases b with
    | ofNat n => show Nat.blt m n = _; rw [blt_dec]; simp only [Int.ofNat_eq_natCast, Int.ofNat_lt]
    | negSucc n => show false = _; symm; simp only [decide_eq_false_iff_not, Int.ofNat_eq_natCast]; omega
  | negSucc m => cases b with
    | ofNat n => show true = _; symm; simp only [decide_eq_true_eq, Int.ofNat_eq_natCast]; omega
    | negSucc n => show Nat.blt n m = _; rw [blt_dec]; congr 1; apply propext; omega
noncomputable def leF (a b : Int) : Bool := Bool.rec (motive := fun _ => Bool) true false (ltF b a)
theorem leF_eq (a b) : leF a b = decide (a ≤ b) := by
  unfold leF; rw [ltF_eq]
  by_cases h : b < a
  · have : ¬ a ≤ b := by omega
    simp [h]
  · have : a ≤ b := by omega
    simp [h, this]
noncomputable def eqF (a b : Int) : Bool :=
  Int.rec (motive := fun _ => Bool) (fun m => Int.rec (motive := fun _ => Bool) (fun n => Nat.beq m n) (fun _ => false) b) (fun m => Int.rec (motive := fun _ => Bool) (fun _ => false) (fun n => Nat.beq m n) b) a
theorem beq_dec (m n : Nat) : Nat.beq m n = decide (m = n) := by
  cases h : Nat.beq m n with
  | true => simp [Nat.eq_of_beq_eq_true h]
  | false => have : ¬ m = n := fun h2 => by subst h2; rw [Nat.beq_refl] at h; cases h
             simp [this]
theorem eqF_eq (a b) : eqF a b = intEq a b := by
  unfold intEq
  cases a with
  | ofNat m => cases b with
    | ofNat n => show Nat.beq m n = _; rw [beq_dec]; simp only [Int.ofNat_eq_natCast, Int.ofNat_inj]
    | negSucc n => rfl
  | negSucc m => cases b with
    | ofNat n => rfl
    | negSucc n => show Nat.beq m n = _; rw [beq_dec]; congr 1; apply propext; constructor <;> intro h <;> omega
noncomputable def notB (b : Bool) : Bool := Bool.rec (motive := fun _ => Bool) true false b
theorem notB_eq (b) : notB b = !b := by cases b <;> rfl

/-- arithmetic, handed on -/
noncomputable def quoF (k : IntKind) (a b : Int) (q : AV → R) : R := Bool.rec (motive := fun _ => R) (q (.int k (wrapF k (Int.rec (motive := fun _ => Int) (fun m => Int.rec (motive := fun _ => Int) (fun n => Int.ofNat (Nat.div m n)) (fun n => (Int.ofNat m).tdiv (Int.negSucc n)) b) (fun m => (Int.negSucc m).tdiv b) a)))) .bad (eqF b 0)
noncomputable def remF (k : IntKind) (a b : Int) (q : AV → R) : R := Bool.rec (motive := fun _ => R) (q (.int k (Int.rec (motive := fun _ => Int) (fun m => Int.rec (motive := fun _ => Int) (fun n => Int.ofNat (Nat.mod m n)) (fun n => (Int.ofNat m).tmod (Int.negSucc n)) b) (fun m => (Int.negSucc m).tmod b) a))) .bad (eqF b 0)
def handV (o : Option AV) (q : AV → R) : R := match o with | some v => q v | none => .bad
theorem quoF_eq (k a b q) : quoF k a b q = handV (ibin .quo k a b) q := by
  unfold quoF ibin
  rw [eqF_eq]
  cases intEq b 0 with
  | true => rfl
  | false =>
    show q _ = q _
    congr 2
    rw [wrapF_eq]; congr 1
    cases a with
    | ofNat m => cases b with
      | ofNat n => rfl
      | negSucc n => rfl
    | negSucc m => rfl
theorem remF_eq (k a b q) : remF k a b q = handV (ibin .rem k a b) q := by
  unfold remF ibin
  rw [eqF_eq]
  cases intEq b 0 with
  | true => rfl
  | false =>
    show q _ = q _
    congr 2
    cases a with
    | ofNat m => cases b with
      | ofNat n => rfl
      | negSucc n => rfl
    | negSucc m => rfl

/-! ### strings -/
noncomputable def strEqF (a : List Nat) : List Nat → Bool :=
  List.rec (motive := fun _ => List Nat → Bool) (fun b => List.rec (motive := fun _ => Bool) true (fun _ _ _ => false) b)
    (fun x _ ih b => List.rec (motive := fun _ => Bool) false (fun y m _ => Bool.rec (motive := fun _ => Bool) false (ih m) (Nat.beq x y)) b) a
theorem strEqF_eq : ∀ a b, strEqF a b = strEq a b
  | [], [] => rfl
  | [], _ :: _ => rfl
  | _ :: _, [] => rfl
  | x :: a, y :: b => by
    show Bool.rec (motive := fun _ => Bool) false (strEqF a b) (Nat.beq x y) = (Nat.beq x y && strEq a b)
    rw [strEqF_eq a b]; cases Nat.beq x y <;> rfl
noncomputable def strLtF (a : List Nat) : List Nat → Bool :=
  List.rec (motive := fun _ => List Nat → Bool) (fun b => List.rec (motive := fun _ => Bool) false (fun _ _ _ => true) b)
    (fun x _ ih b => List.rec (motive := fun _ => Bool) false (fun y m _ => Bool.rec (motive := fun _ => Bool) (Bool.rec (motive := fun _ => Bool) false (ih m) (Nat.beq x y)) true (Nat.blt x y)) b) a
theorem strLtF_eq : ∀ a b, strLtF a b = strLt a b
  | [], [] => rfl
  | [], _ :: _ => rfl
  | _ :: _, [] => rfl
  | x :: a, y :: b => by
    show Bool.rec (motive := fun _ => Bool) (Bool.rec (motive := fun _ => Bool) false (strLtF a b) (Nat.beq x y)) true (Nat.blt x y) = _
    rw [strLtF_eq a b]
    simp only [strLt]
    cases Nat.blt x y <;> cases Nat.beq x y <;> rfl
noncomputable def lenF {β : Type} (l : List β) : Nat := List.rec (motive := fun _ => Nat) 0 (fun _ _ ih => Nat.succ ih) l
theorem lenF_eq {β : Type} : ∀ l : List β, lenF l = l.length
  | [] => rfl
  | _ :: l => congrArg Nat.succ (lenF_eq l)
noncomputable def appF {β : Type} (a b : List β) : List β := List.rec (motive := fun _ => List β) b (fun x _ ih => x :: ih) a
theorem appF_eq {β : Type} : ∀ a b : List β, appF a b = a ++ b
  | [], _ => rfl
  | x :: a, b => congrArg (x :: ·) (appF_eq a b)

/-- the operations on numbers -/
noncomputable def ibinF (op : BinOp) (k : IntKind) (a b : Int) (q : AV → R) : R :=
  match op with
  | .add => q (addF k a b)
  | .sub => q (subF k a b)
  | .mul => q (mulF k a b)
  | .quo => quoF k a b q
  | .rem => remF k a b q
  | .eql => q (.bool (eqF a b))
  | .neq => q (.bool (notB (eqF a b)))
  | .lss => q (.bool (ltF a b))
  | .leq => q (.bool (leF a b))
  | .gtr => q (.bool (ltF b a))
  | .geq => q (.bool (leF b a))
  | op => handV (ibin op k a b) q
theorem ibinF_eq (op k a b q) : ibinF op k a b q = handV (ibin op k a b) q := by
  cases op
  case add => exact congrArg q (addF_eq k a b)
  case sub => exact congrArg q (subF_eq k a b)
  case mul => exact congrArg q (mulF_eq k a b)
  case quo => exact quoF_eq k a b q
  case rem => exact remF_eq k a b q
  case eql => exact congrArg (fun x => q (.bool x)) (eqF_eq a b)
  case neq => exact congrArg (fun x => q (.bool x)) ((notB_eq _).trans (congrArg _ (eqF_eq a b)))
  case lss => exact congrArg (fun x => q (.bool x)) (ltF_eq a b)
  case leq => exact congrArg (fun x => q (.bool x)) (leF_eq a b)
  case gtr => exact congrArg (fun x => q (.bool x)) (ltF_eq b a)
  case geq => exact congrArg (fun x => q (.bool x)) (leF_eq b a)
  all_goals rfl
noncomputable def sbinF (op : BinOp) (a b : List Nat) (q : AV → R) : R :=
  match op with
  | .add => Bool.rec (motive := fun _ => R) .bad (q (.str (appF a b))) (Nat.ble (Nat.add (lenF a) (lenF b)) 1000000000)
  | .eql => q (.bool (strEqF a b))
  | .neq => q (.bool (notB (strEqF a b)))
  | .lss => q (.bool (strLtF a b))
  | .gtr => q (.bool (strLtF b a))
  | .leq => q (.bool (notB (strLtF b a)))
  | .geq => q (.bool (notB (strLtF a b)))
  | _ => .bad
theorem sbinF_eq (op a b q) : sbinF op a b q = handV (sbin op a b) q := by
  cases op
  case add =>
    show Bool.rec (motive := fun _ => R) R.bad (q (.str (appF a b))) (Nat.ble (Nat.add (lenF a) (lenF b)) 1000000000) = _
    rw [lenF_eq, lenF_eq, appF_eq]
    show Bool.rec (motive := fun _ => R) R.bad (q (.str (a ++ b))) (Nat.ble (a.length + b.length) 1000000000) = _
    simp only [sbin]
    cases Nat.ble (a.length + b.length) 1000000000 <;> rfl
  case eql => exact congrArg (fun x => q (.bool x)) (strEqF_eq a b)
  case neq => exact congrArg (fun x => q (.bool x)) ((notB_eq _).trans (congrArg _ (strEqF_eq a b)))
  case lss => exact congrArg (fun x => q (.bool x)) (strLtF_eq a b)
  case gtr => exact congrArg (fun x => q (.bool x)) (strLtF_eq b a)
  case leq => exact congrArg (fun x => q (.bool x)) ((notB_eq _).trans (congrArg _ (strLtF_eq b a)))
  case geq => exact congrArg (fun x => q (.bool x)) ((notB_eq _).trans (congrArg _ (strLtF_eq a b)))
  all_goals rfl
noncomputable def binI (op : BinOp) (j : IntKind) (a : Int) (y : AV) (q : AV → R) : R :=
  match y with
  | .int k b => Bool.rec (motive := fun _ => R) (Bool.rec (motive := fun _ => R) .bad (ibinF op j a b q) (kEqF j k)) (handV (shiftV op j a b) q) (isShift op)
  | _ => .bad
noncomputable def binS (op : BinOp) (a : List Nat) (y : AV) (q : AV → R) : R :=
  match y with
  | .str b => sbinF op a b q
  | _ => .bad
noncomputable def binF (op : BinOp) (x y : AV) (q : AV → R) : R :=
  match x with
  | .int j a => binI op j a y q
  | .str a => binS op a y q
  | _ => .bad
theorem binF_eq (op x y q) : binF op x y q = handV (binV op x y) q := by
  cases x
  case int j a =>
    cases y
    case int k b =>
      show Bool.rec (motive := fun _ => R) (Bool.rec (motive := fun _ => R) R.bad (ibinF op j a b q) (kEqF j k)) (handV (shiftV op j a b) q) (isShift op) = handV (if isShift op then shiftV op j a b else if kEq j k then ibin op j a b else none) q
      rw [kEqF_eq, ibinF_eq]
      cases isShift op <;> cases kEq j k <;> rfl
    all_goals rfl
  case str a =>
    cases y
    case str b => exact sbinF_eq op a b q
    all_goals rfl
  all_goals rfl
end Go.AM.F
