/- THE ABSTRACT MACHINE: a law of one whole number, which the law's text brings to one of a few by a call at its start: run once for each of these. -/
import Derived.Test.YtehgboiiphlfeaaGreatDoorAmSound5
namespace Go.AM
open Go Go.RowKit

def preL : Nat → AC → List AC
  | n + 1, .seq a b => a :: preL n b
  | _, _ => []
def sufL : Nat → AC → AC
  | n + 1, .seq _ b => sufL n b
  | _, c => c
def headL : AC → AC
  | .seq a _ => a
  | c => c
def opsL : AC → List AI
  | .ops l => l
  | _ => []
def nest : List AC → AC → AC
  | [], r => r
  | p :: ps, r => .seq p (nest ps r)

def runP (run : AC → AT → AH → R) : List AC → AT → AH → Option (AT × AH)
  | [], T, H => some (T, H)
  | p :: ps, T, H => match run p T H with
    | .fin T H => runP run ps T H
    | _ => none

/-- the way to the call: behind `j` pieces, in the next piece behind `i` operations -/
def lawAt (tab : FuncId → Option CF) (ext : FuncId → List AV → Option AV) (cf : CF) (j i : Nat) (T0 : AT) : Option (AT × AH × Option Pos × AX × List AX × List AI) :=
  match runP (exec tab ext 100) (preL j cf.body) T0 H0 with
  | some (T1, H1) => match execOps (callWith (exec tab ext 99) tab ext) ((opsL (headL (sufL j cf.body))).take i) T1 H1 with
    | .fin T2 H2 => match (opsL (headL (sufL j cf.body))).drop i with
      | .call d f args :: l2 => some (T2, H2, d, f, args, l2)
      | _ => none
    | _ => none
  | none => none

/-- what the call is -/
def lawArgs (tab : FuncId → Option CF) (ext : FuncId → List AV → Option AV) (cf : CF) (j i : Nat) (T0 : AT) : Option (AV × List AV) :=
  match lawAt tab ext cf j i T0 with
  | some (T2, _, _, f, args, _) => some (f.ev T2, evs T2 args)
  | none => none

/-- the law's answer, where the call answers v -/
def lawRun (tab : FuncId → Option CF) (ext : FuncId → List AV → Option AV) (cf : CF) (j i : Nat) (T0 : AT) (n : Nat) (v : AV) : Option AV :=
  match lawAt tab ext cf j i T0 with
  | some (T2, H2, d, _, _, l2) => match execOps (callWith (exec tab ext 99) tab ext) l2 (putO T2 d v) H2 with
    | .fin T3 H3 => outOf (exec tab ext n (sufL (j + 1) cf.body) T3 H3) cf.res
    | _ => none
  | none => none

def lawShape (cf : CF) (j : Nat) : Prop := cf.body = nest (preL j cf.body) (.seq (.ops (opsL (headL (sufL j cf.body)))) (sufL (j + 1) cf.body))

section
variable {P : Program}

theorem nest_ok {run : AC → AT → AH → R} (hrun : Sound P run) {rest : AC} {r : R} : ∀ (ps : List AC) (T : AT) (H : AH) (T1 : AT) (H1 : AH), runP run ps T H = some (T1, H1) → RunOk P rest r T1 H1 → RunOk P (nest ps rest) r T H
  | [], T, H, T1, H1, h, hr => by
    simp only [runP, Option.some.injEq, Prod.mk.injEq] at h
    obtain ⟨rfl, rfl⟩ := h
    exact hr
  | p :: ps, T, H, T1, H1, h, hr => by
    simp only [runP] at h
    split at h
    · rename_i T2 H2 hp
      have h1 := hrun p T H (by rw [hp]; simp)
      rw [hp] at h1
      exact RunOk.seq h1 (nest_ok hrun ps T2 H2 T1 H1 h hr)
    · cases h

theorem execOps_app (call : AV → List AV → AH → Option (AV × AH)) : ∀ (l1 l2 : List AI) (T : AT) (H : AH) (T1 : AT) (H1 : AH), execOps call l1 T H = .fin T1 H1 → execOps call (l1 ++ l2) T H = execOps call l2 T1 H1
  | [], l2, T, H, T1, H1, h => by
    simp only [execOps, R.fin.injEq] at h
    obtain ⟨rfl, rfl⟩ := h
    rfl
  | i :: l1, l2, T, H, T1, H1, h => by
    rw [execOps_cons] at h
    rw [List.cons_append, execOps_cons]
    cases he : exec1 call i T H with
    | none => simp [he] at h
    | some x =>
      simp only [he] at h ⊢
      exact execOps_app call l1 l2 _ _ _ _ h

theorem law_ok {tab ext} (E : Env P tab ext) {g : FuncId} {fn : Func} (hfn : P.funcs[g]? = some fn) {cf : CF} (hcf : funcOf P fn = some cf) (hnt : fn.ntmps < 1000000000) {args : List AV} {T0 : AT} (hp : putArgs .lf cf.ps args = some T0)
    {j i n : Nat} (hs : lawShape cf j) {fv : AV} {av : List AV} (hargs : lawArgs tab ext cf j i T0 = some (fv, av)) {v : AV} (hcall : ∀ H, callWith (exec tab ext 99) tab ext fv av H = some (v, H))
    {u : AV} (hrun : lawRun tab ext cf j i T0 n v = some u) {vs : Array Value} (ha : VRelL (fun _ => none) args vs.toList) (w : World) :
    Calls P g vs w fun e w' => ∃ σ x, VRel σ u x ∧ e = .returned x ∧ Below w.heap.size w w' := by
  cases hat : lawAt tab ext cf j i T0 with
  | none => simp [lawArgs, hat] at hargs
  | some y =>
    obtain ⟨T2, H2, d, f, as, l2⟩ := y
    simp only [lawArgs, hat, Option.some.injEq, Prod.mk.injEq] at hargs
    obtain ⟨rfl, rfl⟩ := hargs
    simp only [lawRun, hat] at hrun
    split at hrun
    · rename_i T3 H3 h3
      simp only [lawAt] at hat
      split at hat
      · rename_i T1 H1 h1
        split at hat
        · rename_i T2' H2' h2
          split at hat
          · rename_i d' f' as' l2' hl
            simp only [Option.some.injEq, Prod.mk.injEq] at hat
            obtain ⟨rfl, rfl, rfl, rfl, rfl, rfl⟩ := hat
            have hops : opsL (headL (sufL j cf.body)) = (opsL (headL (sufL j cf.body))).take i ++ (.call d' f' as' :: l2') := by
              rw [← hl, List.take_append_drop]
            have hexec : exec tab ext 100 (.ops (opsL (headL (sufL j cf.body)))) T1 H1 = .fin T3 H3 := by
              show execOps (callWith (exec tab ext 99) tab ext) (opsL (headL (sufL j cf.body))) T1 H1 = _
              rw [hops, execOps_app _ _ _ _ _ _ _ h2, execOps_cons]
              simp only [exec1, hcall]
              exact h3
            have s1 : RunOk P (.ops (opsL (headL (sufL j cf.body)))) (.fin T3 H3) T1 H1 := by
              have := exec_sound E 100 (.ops (opsL (headL (sufL j cf.body)))) T1 H1 (by rw [hexec]; simp)
              rwa [hexec] at this
            have s2 := exec_sound E n (sufL (j + 1) cf.body) T3 H3 (not_bad hrun)
            have s3 : RunOk P cf.body (exec tab ext n (sufL (j + 1) cf.body) T3 H3) T0 H0 :=
              (congrArg (fun b => RunOk P b (exec tab ext n (sufL (j + 1) cf.body) T3 H3) T0 H0) hs).mpr (nest_ok (exec_sound E 100) (preL j cf.body) T0 H0 T1 H1 h1 (RunOk.seq s1 s2))
            exact calls_ok hfn hcf hnt hp s3 hrun ha w
          · cases hat
        · cases hat
      · cases hat
    · cases hrun
end
end Go.AM
