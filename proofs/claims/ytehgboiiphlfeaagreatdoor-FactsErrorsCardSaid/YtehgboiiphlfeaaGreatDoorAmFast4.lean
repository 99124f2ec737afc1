/- THE ABSTRACT MACHINE, ARRANGED FOR THE KERNEL: calls and code; closed runs as one bool. -/
import Derived.Test.YtehgboiiphlfeaaGreatDoorAmFast3
namespace Go.AM.F
open Go Go.AM

noncomputable def putArgsF (ps : List Pos) : List AV → AT → (AT → R) → R :=
  List.rec (motive := fun _ => List AV → AT → (AT → R) → R) (fun vs T k => List.rec (motive := fun _ => R) (k T) (fun _ _ _ => .bad) vs)
    (fun p _ ih vs T k => List.rec (motive := fun _ => R) .bad (fun v vs _ => ih vs (put p v T) k) vs) ps
def handT (o : Option AT) (k : AT → R) : R := match o with | some T => k T | none => .bad
theorem putArgsF_eq : ∀ ps vs T k, putArgsF ps vs T k = handT (putArgs T ps vs) k
  | [], [], _, _ => rfl
  | [], _ :: _, _, _ => rfl
  | _ :: _, [], _, _ => rfl
  | p :: ps, v :: vs, T, k => by
    show putArgsF ps vs (put p v T) k = _
    rw [put_eq, putArgsF_eq ps vs]; rfl

noncomputable def resLF (T : AT) (H : AH) (l : List (Pos × Option (Option Nat))) : (List AV → R) → R :=
  List.rec (motive := fun _ => (List AV → R) → R) (fun k => k [])
    (fun p _ ih k => Prod.rec (motive := fun _ => R) (fun d g => Option.rec (motive := fun _ => R) (ih (fun l => k (evF T (.t d) :: l))) (fun g => loadF H g (evF T (.t d)) (fun v => ih (fun l => k (v :: l)))) g) p) l
theorem resLF_eq (T H) : ∀ l k, resLF T H l k = handL (resultL T H l) k
  | [], _ => rfl
  | (d, g) :: l, k => by
    cases g with
    | none =>
      show resLF T H l (fun l => k (evF T (.t d) :: l)) = _
      rw [resLF_eq T H l, evF_eq]
      simp only [resultL]
      cases resultL T H l <;> rfl
    | some g =>
      show loadF H g (evF T (.t d)) (fun v => resLF T H l (fun l => k (v :: l))) = _
      rw [evF_eq, loadF_eq]
      simp only [resLF_eq T H l, resultL]
      cases H.loadG g ((AX.t d).ev T) with
      | none => rfl
      | some v => simp only [handV]; cases resultL T H l <;> rfl
noncomputable def tupF (l : List AV) : AV := List.rec (motive := fun _ => AV) (.tup l) (fun v t _ => List.rec (motive := fun _ => AV) v (fun _ _ _ => .tup l) t) l
noncomputable def resF (T : AT) (H : AH) (l : List (Pos × Option (Option Nat))) (k : AV → R) : R := resLF T H l (fun l => k (tupF l))
theorem resF_eq (T H l k) : resF T H l k = handV (results T H l) k := by
  unfold resF results
  rw [resLF_eq]
  cases resultL T H l with
  | none => rfl
  | some l =>
    cases l with
    | nil => rfl
    | cons a l => cases l <;> rfl

/-- a function's end -/
noncomputable def finF (res : List (Pos × Option (Option Nat))) (r : R) (k : AV → AH → R) : R :=
  R.rec (motive := fun _ => R) .bad (fun T H => resF T H res (fun v => k v H)) (fun _ _ _ => .bad) (fun T H => resF T H res (fun v => k v H)) r

noncomputable def yldF (run : AC → AT → AH → R) (b : Pos) (args : List AV) (H : AH) (k : AV → AH → R) : R :=
  match trGet b H.bl with
  | some (.loop .ready none T0 ps asg body) => putArgsF ps args T0 (fun T1 =>
      match run asg T1 H with
      | .fin T1 H => match trGet b H.bl with
        | some (.loop .ready none T0' ps' asg' body') =>
          match jumpOf (run body T1 ⟨trSet (some (.loop .busy none T0' ps' asg' body')) b H.bl, H.cv, H.nx, H.pk, H.rs⟩) with
          | some (j, H) => match trGet b H.bl with
            | some (.loop .busy _ T0' ps' asg' body') => match j with
              | none => k (.bool true) ⟨trSet (some (.loop .ready none T0' ps' asg' body')) b H.bl, H.cv, H.nx, H.pk, H.rs⟩
              | some j => k (.bool false) ⟨trSet (some (.loop .done (some j) T0' ps' asg' body')) b H.bl, H.cv, H.nx, H.pk, H.rs⟩
            | _ => .bad
          | none => .bad
        | _ => .bad
      | _ => .bad)
  | _ => .bad

noncomputable def callF (run : AC → AT → AH → R) (tab : FuncId → Option CF) (ext : FuncId → List AV → Option AV) : Call := fun f args H k =>
  match f with
  | .fn g cap => Option.rec (motive := fun _ => R)
      (Option.rec (motive := fun _ => R) .bad (fun v => k v H) (ext g (appF args cap)))
      (fun cf => CF.rec (motive := fun _ => R) (fun ps res body => putArgsF ps (appF args cap) .lf (fun T0 => finF res (run body T0 H) k)) cf) (tab g)
  | .yld b => yldF run b args H k
  | _ => .bad

theorem yldF_eq (run tab ext b args H k) : yldF run b args H k = andThen (callWith run tab ext (.yld b) args H) k := by
  simp only [yldF, callWith, trGet_eq, trSet_eq, putArgsF_eq]
  cases H.bl.get b with
  | none => rfl
  | some x =>
    cases x with
    | row _ _ _ _ _ => rfl
    | map _ => rfl
    | loop s j T00 ps0 asg0 body0 =>
      cases s <;> cases j <;> try rfl
      simp only []
      cases putArgs T00 ps0 args with
      | none => rfl
      | some T1 =>
        simp only [handT]
        cases run asg0 T1 H <;> try rfl
        rename_i T1 H
        simp only []
        cases H.bl.get b with
        | none => rfl
        | some x =>
          cases x with
          | row _ _ _ _ _ => rfl
          | map _ => rfl
          | loop s j T0 ps asg body =>
            cases s <;> cases j <;> try rfl
            simp only []
            cases jumpOf (run body0 T1 ⟨H.bl.set (some (.loop .busy none T0 ps asg body)) b, H.cv, H.nx, H.pk, H.rs⟩) with
            | none => rfl
            | some p =>
              obtain ⟨j, H⟩ := p
              simp only []
              cases H.bl.get b with
              | none => rfl
              | some x =>
                cases x with
                | row _ _ _ _ _ => rfl
                | map _ => rfl
                | loop s j' T0 ps asg body => cases s <;> cases j <;> rfl

theorem callF_eq (run tab ext) : CallIs (callF run tab ext) (callWith run tab ext) := by
  intro f args H k
  cases f <;> try rfl
  case fn g cap =>
    simp only [callF, callWith, appF_eq]
    cases tab g with
    | none => simp only []; cases ext g (args ++ cap) <;> rfl
    | some cf =>
      obtain ⟨ps, res, body⟩ := cf
      simp only [putArgsF_eq]
      cases putArgs .lf ps (args ++ cap) with
      | none => rfl
      | some T0 =>
        simp only [handT]
        cases run body T0 H with
        | bad => rfl
        | ex _ _ _ => rfl
        | fin T H =>
          show resF T H res (fun v => k v H) = _
          rw [resF_eq]; simp only []; cases results T H res <;> rfl
        | ret T H =>
          show resF T H res (fun v => k v H) = _
          rw [resF_eq]; simp only []; cases results T H res <;> rfl
  case yld b => exact yldF_eq run tab ext b args H k

noncomputable def namesF (m : Nat) : Pos → List (Option Pos) := Nat.rec (motive := fun _ => Pos → List (Option Pos)) (fun _ => []) (fun _ ih p => some p :: ih (succF p)) m
theorem namesF_eq : ∀ m p, namesF m p = names m p
  | 0, _ => rfl
  | m + 1, p => by show some p :: namesF m (succF p) = _; rw [succF_eq, namesF_eq m]; rfl
noncomputable def skipF (m : Nat) : Pos → Pos := Nat.rec (motive := fun _ => Pos → Pos) (fun p => p) (fun _ ih p => ih (succF p)) m
theorem skipF_eq : ∀ m p, skipF m p = skip m p
  | 0, _ => rfl
  | m + 1, p => by show skipF m (succF p) = _; rw [succF_eq, skipF_eq m]; rfl
noncomputable def dOp (q : Option Nat) (i : AI) : Step := fun c T H k => match q with
  | none => stepF i c T H k
  | some q => match H.arm q with
    | some H => stepF i c T H (fun T H => k T ⟨H.bl, H.cv, H.nx, none, H.rs⟩)
    | none => .bad
noncomputable def dChk (i : AI) : Step := fun _ T H k => Bool.rec (motive := fun _ => R) .bad (k T H) (chkOk T H i)
noncomputable def dStep (d : DI) : Step := DI.rec (motive := fun _ => Step) dOp dChk d
theorem dStep_eq {cF c} (hc : CallIs cF c) (d T H k) : dStep d cF T H k = contK (execD1 c d T H) k := by
  cases d with
  | chk i =>
    show Bool.rec (motive := fun _ => R) R.bad (k T H) (chkOk T H i) = _
    simp only [execD1]
    cases chkOk T H i <;> rfl
  | op q i =>
    show dOp q i cF T H k = _
    cases q with
    | none => exact stepF_eq hc i T H k
    | some q =>
      simp only [dOp, execD1]
      cases H.arm q with
      | none => rfl
      | some H1 =>
        simp only [stepF_eq hc]
        cases exec1 c i T H1 <;> rfl
noncomputable def dopsF (cF : Call) (l : List DI) : AT → AH → R :=
  List.rec (motive := fun _ => AT → AH → R) (fun T H => .fin T H) (fun i _ ih T H => dStep i cF T H ih) l
theorem dopsF_eq {cF c} (hc : CallIs cF c) : ∀ l T H, dopsF cF l T H = execD c l T H
  | [], _, _ => rfl
  | i :: l, T, H => by
    show dStep i cF T H (dopsF cF l) = _
    rw [dStep_eq hc]
    simp only [execD]
    cases execD1 c i T H with
    | none => rfl
    | some p => obtain ⟨T, H⟩ := p; exact dopsF_eq hc l T H
noncomputable def cDops (cF : Call) (m : Nat) (l : List DI) : AT → AH → R := fun T H =>
  AH.rec (motive := fun _ => R) (fun bl cv nx pk rs => Option.rec (motive := fun _ => R)
    (R.rec (motive := fun _ => R) .bad (fun T H => .fin T ⟨H.bl, H.cv, H.nx, H.pk, H.rs.tail⟩) (fun _ _ _ => .bad) (fun _ _ => .bad) (dopsF cF l T ⟨bl, cv, skipF m nx, none, namesF m nx :: rs⟩))
    (fun _ => .bad) pk) H

abbrev Run := AC → AT → AH → R
noncomputable def cOps (cF : Call) (l : List AI) : AT → AH → R := opsF cF l
noncomputable def cSeq (run : Run) (a b : AC) : AT → AH → R := fun T H => R.rec (motive := fun _ => R) .bad (fun T H => run b T H) (fun id T H => .ex id T H) (fun T H => .ret T H) (run a T H)
noncomputable def cCond (run : Run) (x : AX) (a b : AC) : AT → AH → R := fun T H => match evF T x with
  | .bool z => Bool.rec (motive := fun _ => R) (run b T H) (run a T H) z
  | _ => .bad
noncomputable def cBlock (run : Run) (id : Nat) (a : AC) : AT → AH → R := fun T H => R.rec (motive := fun _ => R) .bad (fun T H => .fin T H) (fun j T H => Bool.rec (motive := fun _ => R) (.ex j T H) (.fin T H) (Nat.beq j id)) (fun T H => .ret T H) (run a T H)
noncomputable def cLoop (run : Run) (a : AC) : AT → AH → R := fun T H => R.rec (motive := fun _ => R) .bad (fun T H => run (.loop a) T H) (fun id T H => .ex id T H) (fun T H => .ret T H) (run a T H)
noncomputable def cRng (cF : Call) (run : Run) (f : AX) (ps : List Pos) (asg body : AC) : AT → AH → R := fun T H =>
  newF H (fun _ => .loop .ready none T ps asg body) (fun b H1 => cF (evF T f) [.yld b] H1 (fun _ H' => match trGet b H'.bl with
    | some (.loop s j _ _ _ _) => match s with
      | .busy => .bad
      | _ => match j with
        | none => .fin T ⟨trSet none b H'.bl, H'.cv, H'.nx, H'.pk, H'.rs⟩
        | some c => match c with
          | .exit id => run (.exit id) T ⟨trSet none b H'.bl, H'.cv, H'.nx, H'.pk, H'.rs⟩
          | .ret => run .ret T ⟨trSet none b H'.bl, H'.cv, H'.nx, H'.pk, H'.rs⟩
          | _ => .bad
    | _ => .bad))
noncomputable def acF (cF : Call) (run : Run) (c : AC) : AT → AH → R :=
  AC.rec (motive := fun _ => AT → AH → R) (fun T H => .fin T H) (fun l => cOps cF l) (fun m l => cDops cF m l) (fun a b _ _ => cSeq run a b) (fun x a b _ _ => cCond run x a b) (fun id a _ => cBlock run id a) (fun a _ => cLoop run a)
    (fun id T H => .ex id T H) (fun T H => .ret T H) (fun f ps asg body _ _ => cRng cF run f ps asg body) c
noncomputable def execF (tab : FuncId → Option CF) (ext : FuncId → List AV → Option AV) (n : Nat) : Run :=
  Nat.rec (motive := fun _ => Run) (fun _ _ _ => .bad) (fun _ ih c => acF (callF ih tab ext) ih c) n

theorem execF_eq (tab ext) : ∀ n c T H, execF tab ext n c T H = exec tab ext n c T H
  | 0, _, _, _ => rfl
  | n + 1, c, T, H => by
    have ih : execF tab ext n = exec tab ext n := by funext c T H; exact execF_eq tab ext n c T H
    show acF (callF (execF tab ext n) tab ext) (execF tab ext n) c T H = _
    rw [ih]
    have hc := callF_eq (exec tab ext n) tab ext
    cases c with
    | skip => rfl
    | ops l => exact opsF_eq hc l T H
    | dops m l =>
      cases H with
      | mk bl cv nx pk rs =>
        cases pk with
        | some p => rfl
        | none =>
          show R.rec (motive := fun _ => R) R.bad (fun T H => .fin T ⟨H.bl, H.cv, H.nx, H.pk, H.rs.tail⟩) (fun _ _ _ => .bad) (fun _ _ => .bad) (dopsF (callF (exec tab ext n) tab ext) l T ⟨bl, cv, skipF m nx, none, namesF m nx :: rs⟩) = _
          rw [dopsF_eq hc, skipF_eq, namesF_eq]
          simp only [exec, AH.reserve]
          cases execD (callWith (exec tab ext n) tab ext) l T ⟨bl, cv, skip m nx, none, names m nx :: rs⟩ <;> rfl
    | seq a b =>
      show R.rec (motive := fun _ => R) R.bad (fun T H => exec tab ext n b T H) (fun id T H => .ex id T H) (fun T H => .ret T H) (exec tab ext n a T H) = _
      simp only [exec]; cases exec tab ext n a T H <;> rfl
    | cond x a b =>
      show cCond (exec tab ext n) x a b T H = _
      simp only [cCond, evF_eq, exec]
      cases x.ev T <;> try rfl
      rename_i z; cases z <;> rfl
    | block id a =>
      show cBlock (exec tab ext n) id a T H = _
      simp only [cBlock, exec]
      cases exec tab ext n a T H <;> try rfl
      rename_i j T H
      simp only []; cases Nat.beq j id <;> rfl
    | loop a =>
      show cLoop (exec tab ext n) a T H = _
      simp only [cLoop, exec]
      cases exec tab ext n a T H <;> rfl
    | exit id => rfl
    | ret => rfl
    | rng f ps asg body =>
      show cRng (callF (exec tab ext n) tab ext) (exec tab ext n) f ps asg body T H = _
      simp only [cRng, newF_eq, AH.new_fst, exec, evF_eq, trGet_eq, trSet_eq]
      rw [hc]
      show andThen (callWith (exec tab ext n) tab ext (f.ev T) [.yld H.nm] (H.new (.loop .ready none T ps asg body)).2) _ = _
      cases callWith (exec tab ext n) tab ext (f.ev T) [.yld H.nm] (H.new (.loop .ready none T ps asg body)).2 with
      | none => rfl
      | some p =>
        obtain ⟨v, H'⟩ := p
        simp only [andThen]
        cases H'.bl.get H.nm with
        | none => rfl
        | some x =>
          cases x with
          | row _ _ _ _ _ => rfl
          | map _ => rfl
          | loop s j _ _ _ _ =>
            cases s <;> cases j <;> try rfl
            all_goals (rename_i c _ _ _ _; cases c <;> rfl)

/-! ### tables of functions: search trees -/
inductive BT where
  | lf | nd (l : BT) (g : Nat) (cf : CF) (r : BT)
noncomputable def BT.find (t : BT) (g : Nat) : Option CF :=
  BT.rec (motive := fun _ => Option CF) none (fun _ h cf _ il ir => Bool.rec (motive := fun _ => Option CF) (Bool.rec (motive := fun _ => Option CF) ir il (Nat.blt g h)) (some cf) (Nat.beq g h)) t
def BT.Goods (P : Program) : BT → Prop
  | .lf => True
  | .nd l g cf r => BT.Goods P l ∧ Good P g cf ∧ BT.Goods P r
theorem BT.find_good {P : Program} : ∀ {t : BT}, t.Goods P → ∀ g cf, t.find g = some cf → Good P g cf
  | .lf, _, g, cf, h => by simp [BT.find] at h
  | .nd l h0 c r, ⟨hl, hm, hr⟩, g, cf, h => by
    have e : (BT.nd l h0 c r).find g = Bool.rec (motive := fun _ => Option CF) (Bool.rec (motive := fun _ => Option CF) (r.find g) (l.find g) (Nat.blt g h0)) (some c) (Nat.beq g h0) := rfl
    rw [e] at h
    cases hb : Nat.beq g h0 with
    | true =>
      rw [hb] at h
      simp only [Option.some.injEq] at h
      subst h
      rw [Nat.eq_of_beq_eq_true hb]; exact hm
    | false =>
      rw [hb] at h
      cases hl2 : Nat.blt g h0 with
      | true => rw [hl2] at h; exact BT.find_good hl g cf h
      | false => rw [hl2] at h; exact BT.find_good hr g cf h

/-- how strings are held against each other -/
noncomputable def cmpF (k : Nat) (g : Nat) (args : List AV) : Option AV :=
  Bool.rec (motive := fun _ => Option AV) none
    (match args with
    | [.str a, .str b] => some (.int .i64 (Bool.rec (motive := fun _ => Int) (Bool.rec (motive := fun _ => Int) 1 0 (strEqF a b)) (-1) (strLtF a b)))
    | _ => none) (Nat.beq g k)
theorem cmpF_eq (k g args) : cmpF k g args = cmpA k g args := by
  unfold cmpF cmpA
  cases Nat.beq g k with
  | false => rfl
  | true =>
    simp only [if_true]
    split
    · rename_i a b
      show some (AV.int .i64 _) = some (AV.int .i64 (if strLt a b = true then -1 else if strEq a b = true then 0 else 1))
      rw [strLtF_eq, strEqF_eq]
      cases strLt a b <;> cases strEq a b <;> rfl
    · rename_i h
      split
      · rename_i a b; exact absurd rfl (h a b)
      · rfl
end Go.AM.F
