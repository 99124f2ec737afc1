/- THE ABSTRACT MACHINE: the model's steps, for a frame of any kind. -/
import Derived.Calls
import Derived.Test.YtehgboiiphlfeaaGreatDoorAmAll
namespace Go.AM
open Go

/-- a frame that runs -/
def at_ (fr : Frame) (tm : Array Value) (df : List Deferred) (todo : List Item) : Frame := { fr with tmps := tm, defers := df, todo := todo, mode := .run }
theorem at_eval (fr : Frame) (tm df todo) : (at_ fr tm df todo).eval = opv tm := eval_eq _

section
variable {P : Program} {fr : Frame} {tm : Array Value} {df : List Deferred} {k : List Item} {cs : List Frame} {w w' : World}

theorem s_skip : step P (lone (at_ fr tm df (.code .skip :: k)) cs w) = .next (lone (at_ fr tm df k) cs w) := step_lone_go (by simp [stepG, stepG.exec, at_])
theorem s_inBlock {id : Nat} : step P (lone (at_ fr tm df (.inBlock id :: k)) cs w) = .next (lone (at_ fr tm df k) cs w) := step_lone_go (by simp [stepG, stepG.exec, at_])
theorem s_inScope {b : Code} : step P (lone (at_ fr tm df (.inScope b :: k)) cs w) = .next (lone (at_ fr tm df k) cs w) := step_lone_go (by simp [stepG, stepG.exec, at_])
theorem s_seq {x y : Code} : step P (lone (at_ fr tm df (.code (.seq x y) :: k)) cs w) = .next (lone (at_ fr tm df (.code x :: .code y :: k)) cs w) := step_lone_go (by simp [stepG, stepG.exec, at_])
theorem s_cond {c : Operand} {x y : Code} {t : Bool} (h : opv tm c = .bool t) : step P (lone (at_ fr tm df (.code (.cond c x y) :: k)) cs w) = .next (lone (at_ fr tm df (.code (if t then x else y) :: k)) cs w) :=
  step_lone_go (by
    have := at_eval fr tm df (.code (.cond c x y) :: k)
    simp only [at_] at this
    simp [stepG, stepG.exec, at_, this, h])
theorem s_block {id : Nat} {c : Code} : step P (lone (at_ fr tm df (.code (.block id c) :: k)) cs w) = .next (lone (at_ fr tm df (.code c :: .inBlock id :: k)) cs w) := step_lone_go (by simp [stepG, stepG.exec, at_])
theorem s_loop {c : Code} : step P (lone (at_ fr tm df (.code (.loop c) :: k)) cs w) = .next (lone (at_ fr tm df (.code c :: .inLoop c :: k)) cs w) := step_lone_go (by simp [stepG, stepG.exec, at_])
theorem s_inLoop {c : Code} : step P (lone (at_ fr tm df (.inLoop c :: k)) cs w) = .next (lone (at_ fr tm df (.code c :: .inLoop c :: k)) cs w) := step_lone_go (by simp [stepG, stepG.exec, at_])
theorem s_scope {c : Code} : step P (lone (at_ fr tm df (.code (.scope c) :: k)) cs w) = .next (lone (at_ fr tm df (.code c :: .inScope c :: k)) cs w) := step_lone_go (by simp [stepG, stepG.exec, at_])
theorem s_exit {id : Nat} {k' : List Item} (h : exitTo id k = some k') : step P (lone (at_ fr tm df (.code (.exit id) :: k)) cs w) = .next (lone (at_ fr tm df k') cs w) := step_lone_go (by simp [stepG, stepG.exec, at_, h])
theorem s_ret (hr : fr.roundOf = none) : step P (lone (at_ fr tm df (.code .ret :: k)) cs w) = .next (lone { at_ fr tm df (.code .ret :: k) with mode := .returning } cs w) := step_lone_go (by simp [stepG, stepG.exec, at_, hr])
theorem s_end (hr : fr.roundOf = none) : step P (lone (at_ fr tm df []) cs w) = .next (lone { at_ fr tm df [] with mode := .returning } cs w) := step_lone_go (by simp [stepG, stepG.exec, at_, hr])

theorem s_region {id : Nat} {ops : Array Oper} : step P (lone (at_ fr tm df (.code (.region id ops false) :: k)) cs w) = .next (lone (at_ fr tm df (.inRegion ops (List.range ops.size) :: k)) cs w) := step_lone_go (by simp [stepG, stepG.exec, at_])
theorem s_region_draw {id : Nat} {ops : Array Oper} : step P (lone (at_ fr tm df (.code (.region id ops true) :: k)) cs w) =
    .next (lone (at_ fr tm df (.inRegion ops (Region.schedule (P.follows .mixedOrders) ops (w.tape w.drawn (.order fr.fn id))) :: k)) cs { w with drawn := w.drawn + 1 }) :=
  step_lone_go (by simp [stepG, stepG.exec, at_, choose, Sem.run, Question.forced, Question.cut])
theorem s_region_end {ops : Array Oper} : step P (lone (at_ fr tm df (.inRegion ops [] :: k)) cs w) = .next (lone (at_ fr tm df k) cs w) := step_lone_go (by simp [stepG, stepG.exec, at_])

/-- the slots with one put in -/
def putT (tm : Array Value) (d : Option Tmp) (v : Value) : Array Value :=
  match d with
  | some d => tm.setIfInBounds d v
  | none => tm
theorem putT_size (tm : Array Value) (d : Option Tmp) (v : Value) : (putT tm d v).size = tm.size := by cases d <;> simp [putT]

theorem finish_at {ops : Array Oper} {i : Nat} {rest : List Nat} (v : Value) : (at_ fr tm df (.inRegion ops (i :: rest) :: k)).finish v = at_ fr (putT tm ((ops[i]?).bind (·.dst)) v) df (.inRegion ops rest :: k) := by
  cases h : (ops[i]?).bind (·.dst) <;> simp [Frame.finish, at_, putT, h]

theorem s_op_skip {ops : Array Oper} {i : Nat} {rest : List Nat} (h : ((ops[i]?).map (Region.wanted · (yielded ops tm))).getD false = false) :
    step P (lone (at_ fr tm df (.inRegion ops (i :: rest) :: k)) cs w) = .next (lone (at_ fr (putT tm ((ops[i]?).bind (·.dst)) undef) df (.inRegion ops rest :: k)) cs w) := by
  rw [← finish_at]
  exact step_lone_go (by simp [stepG, stepG.exec, at_, h])

theorem stepG_op {ops : Array Oper} {i : Nat} {rest : List Nat} {o : Oper} (ho : ops[i]? = some o) (hw : Region.wanted o (yielded ops tm) = true) (hd : ∀ c, o.op ≠ .defer c) :
    stepG P true { frame := at_ fr tm df (.inRegion ops (i :: rest) :: k), callers := cs, status := .running, dying := none } w =
      stepG.apply P true (at_ fr tm df (.inRegion ops (i :: rest) :: k)) cs none (execOp (opv tm) o) w := by
  have he := at_eval fr tm df (.inRegion ops (i :: rest) :: k)
  have hoper : (at_ fr tm df (.inRegion ops (i :: rest) :: k)).oper? = some o := by simp [Frame.oper?, at_, ho]
  have h1 : stepG P true { frame := at_ fr tm df (.inRegion ops (i :: rest) :: k), callers := cs, status := .running, dying := none } w = stepG.oper P true (at_ fr tm df (.inRegion ops (i :: rest) :: k)) cs none w := by
    simp [stepG, stepG.exec, at_, ho, hw]
  rw [h1]
  unfold stepG.oper
  rw [hoper]
  dsimp only
  split
  · rename_i l c hl hc
    exact absurd hc (hd c)
  · rw [he]

theorem s_op_value {ops : Array Oper} {i : Nat} {rest : List Nat} {o : Oper} (ho : ops[i]? = some o) (hw : Region.wanted o (yielded ops tm) = true) (hd : ∀ c, o.op ≠ .defer c) {u : Value}
    (hr : (execOp (opv tm) o).run P w = .ok (.value u) w' ∨ ((execOp (opv tm) o).run P w = .ok .skip w' ∧ u = undef)) :
    step P (lone (at_ fr tm df (.inRegion ops (i :: rest) :: k)) cs w) = .next (lone (at_ fr (putT tm o.dst u) df (.inRegion ops rest :: k)) cs w') := by
  have hf := finish_at (fr := fr) (tm := tm) (df := df) (k := k) (ops := ops) (i := i) (rest := rest) u
  rw [ho, Option.bind_some] at hf
  rw [← hf]
  refine step_lone_go ?_
  rw [stepG_op ho hw hd]
  rcases hr with hr | ⟨hr, rfl⟩
  · simp [stepG.apply, Sem.runT_eq, hr]
  · simp [stepG.apply, Sem.runT_eq, hr]

theorem s_op_enter {ops : Array Oper} {i : Nat} {rest : List Nat} {o : Oper} (ho : ops[i]? = some o) (hw : Region.wanted o (yielded ops tm) = true) (hd : ∀ c, o.op ≠ .defer c) {f : FuncId} {args : Array Value}
    (hr : (execOp (opv tm) o).run P w = .ok (.enter f args) w') :
    step P (lone (at_ fr tm df (.inRegion ops (i :: rest) :: k)) cs w) = .next (lone (Frame.enter P f args .normal) (at_ fr tm df (.inRegion ops (i :: rest) :: k) :: cs) w') := by
  refine step_lone_go ?_
  rw [stepG_op ho hw hd]
  first
    | (simp [stepG.apply, Sem.runT_eq, hr]; done)
    | (simp [stepG.apply, Sem.runT_eq, hr]; simp [at_])

theorem s_op_round {ops : Array Oper} {i : Nat} {rest : List Nat} {o : Oper} (ho : ops[i]? = some o) (hw : Region.wanted o (yielded ops tm) = true) (hd : ∀ c, o.op ≠ .defer c) {l : Nat} {f : FuncId} {t : Array Value} {a b : Code}
    (hr : (execOp (opv tm) o).run P w = .ok (.round l f t a b) w') :
    step P (lone (at_ fr tm df (.inRegion ops (i :: rest) :: k)) cs w) = .next (lone (Frame.round l f t a b .normal) (at_ fr tm df (.inRegion ops (i :: rest) :: k) :: cs) w') := by
  refine step_lone_go ?_
  rw [stepG_op ho hw hd]
  first
    | (simp [stepG.apply, Sem.runT_eq, hr]; done)
    | (simp [stepG.apply, Sem.runT_eq, hr]; simp [at_])

/-! ### rounds of a loop over a function -/
theorem s_beginRound {l : Nat} (hl : fr.roundOf = some l) (h : (Instr.beginRound l).run P w = .ok () w') : step P (lone (at_ fr tm df (.beginRound :: k)) cs w) = .next (lone (at_ fr tm df k) cs w') :=
  step_lone_go (by simp [stepG, stepG.exec, at_, hl, stepG.apply, Sem.runT_eq, h, Frame.finish])

/-- how a round is left: at its end, by a return, by a jump out of it -/
theorem s_leave {l : Nat} {td : List Item} {jump : Option Code} (hl : fr.roundOf = some l) (hk : fr.kind = .normal)
    (htd : (td = [] ∧ jump = none) ∨ (∃ r, td = .code .ret :: r ∧ jump = some .ret) ∨ (∃ id r, td = .code (.exit id) :: r ∧ exitTo id r = none ∧ jump = some (.exit id))) {c : Frame} {v : Value}
    (h : (Instr.endRound l jump).run P w = .ok v w') : step P (lone (at_ fr tm df td) (c :: cs) w) = .next (lone (c.finish v) cs w') := by
  rcases htd with ⟨rfl, rfl⟩ | ⟨r, rfl, rfl⟩ | ⟨id, r, rfl, hx, rfl⟩
  · exact step_lone_go (by simp [stepG, stepG.exec, at_, hl, Sem.runT_eq, h, doReturn, hk])
  · exact step_lone_go (by simp [stepG, stepG.exec, at_, hl, Sem.runT_eq, h, doReturn, hk])
  · exact step_lone_go (by simp [stepG, stepG.exec, at_, hl, Sem.runT_eq, h, doReturn, hk, hx])

/-! ### a loop over a function -/
theorem s_rangeFunc {g : Operand} {ps : Array Tmp} {assign body : Code} {l : Nat} {mark : List Deferred} {w₁ w₁' w₂ : World} {d : Deferred} {f : FuncId} {args : Array Value}
    (he : (Instr.enterLoop fr.fn tm ps assign body fr.roundOf).run P w = .ok (l, mark) w₁)
    (hres : (resolve (opv tm) { callee := .value g, args := #[.const (.func (.yield l) #[] #[])], argTypes := #[] } 0).run P w₁ = .ok d w₁') (hinv : (invoke d.target d.args).run P w₁' = .ok (.enter f args) w₂) :
    step P (lone (at_ fr tm df (.code (.rangeFunc g ps assign body) :: k)) cs w) =
      .next (lone (Frame.enter P f args .normal) (at_ fr tm (mark ++ df) (.inRangeFunc l :: k) :: cs) w₂) :=
  step_lone_go (by
    have hev := at_eval fr tm (mark ++ df) (.inRangeFunc l :: k)
    simp only [at_] at hev
    simp [stepG, stepG.exec, at_, Sem.runT_eq, he, GStep.bare_after, stepG.apply, hev, Sem.run_bind, hres, hinv, Result.andThen])

theorem finish_rangeFunc (l : Nat) (v : Value) : (at_ fr tm df (.inRangeFunc l :: k)).finish v = at_ fr tm df (.endRangeFunc l :: k) := by simp [Frame.finish, at_]

theorem s_endRangeFunc {l : Nat} {jump : Option Code} (h : (Instr.endLoop l).run P w = .ok jump w') :
    step P (lone (at_ fr tm df (.endRangeFunc l :: k)) cs w) = .next (lone (at_ fr tm df ((jump.map Item.code).toList ++ k)) cs w') :=
  step_lone_go (by simp [stepG, stepG.exec, at_, Sem.runT_eq, h, GStep.bare_after])

/-! ### a function's end -/
def mkMark (r : Nat) : Deferred := { target := .collected r, args := #[] }

theorem s_mark {r : Nat} {td : List Item} {w₁ : World} (h : (Instr.takeDeferred r).run P w = .ok [] w₁) :
    step P (lone { at_ fr tm (mkMark r :: df) td with mode := .returning } cs w) = .next (lone { at_ fr tm df td with mode := .returning } cs w₁) :=
  step_lone_go (by simp [stepG, unwind, at_, mkMark, Sem.runT_eq, h])

theorem s_return {td : List Item} {fn : Func} {v : Value} {c : Frame} (hf : P.funcs[fr.fn]? = some fn) (hk : fr.kind = .normal) (hr : (Go.results fn tm).run P w = .ok v w) :
    step P (lone { at_ fr tm [] td with mode := .returning } (c :: cs) w) = .next (lone (c.finish v) cs w) :=
  step_lone_go (by simp [stepG, unwind, at_, doReturn, hf, hk, Sem.runT_eq, hr])
end
end Go.AM
