/- THE ABSTRACT MACHINE: a law of numbers, one of which the law's text brings to one of a few by a call: run once for each of these, closed, by the kernel's own arrangement. -/
import Derived.Test.YtehgboiiphlfeaaGreatDoorAmLaw
import Derived.Test.YtehgboiiphlfeaaGreatDoorAmFast4
namespace Go.AM
open Go Go.RowKit

/-- what a slot held is not known any more -/
def forget : List Pos → AT → AT
  | [], T => T
  | p :: ps, T => forget ps (T.put p .unk)
def Sub (T' T : AT) : Prop := ∀ p, (AX.t p).ev T' = .unk ∨ (AX.t p).ev T' = (AX.t p).ev T
theorem Sub.refl (T : AT) : Sub T T := fun _ => .inr rfl
theorem forget_sub : ∀ (ps : List Pos) (T' T : AT), Sub T' T → Sub (forget ps T') T
  | [], _, _, h => h
  | p :: ps, T', T, h => forget_sub ps _ _ fun p' => by
    by_cases he : p' = p
    · subst he; left; simp only [AX.ev, AT.put, Tr.get_set_eq]
    · have : (AX.t p').ev (T'.put p .unk) = (AX.t p').ev T' := ev_put (x := .t p') (by simp [AX.on]; exact fun e => he e.symm)
      rw [this]; exact h p'
theorem TRel.sub {σ : Val} {T' T : AT} {tm : Array Value} (h : TRel σ T tm) (hs : Sub T' T) : TRel σ T' tm := fun p => by
  rcases hs p with e | e
  · rw [e]; simp [VRel]
  · rw [e]; exact h p
theorem RunOk.sub {P : Program} {c : AC} {r : R} {T' T : AT} {H : AH} (h : RunOk P c r T' H) (hs : Sub T' T) : RunOk P c r T H :=
  fun nt B code fr k cs df σ w tm hc hrd hn hb hh hT => h nt B code fr k cs df σ w tm hc hrd hn hb hh (hT.sub hs)

/-- the state behind the piece in which the call stands -/
def lawSt (run : AC → AT → AH → R) (ops : List AI → AT → AH → R) (cf : CF) (j i : Nat) (T0 : AT) (v : AV) (ps : List Pos) : Option (AT × AH) :=
  match runP run (preL j cf.body) T0 H0 with
  | some (T1, H1) => match ops ((opsL (headL (sufL j cf.body))).take i) T1 H1 with
    | .fin T2 H2 => match (opsL (headL (sufL j cf.body))).drop i with
      | .call d _ _ :: l2 => match ops l2 (putO T2 d v) H2 with
        | .fin T3 H3 => some (forget ps T3, H3)
        | _ => none
      | _ => none
    | _ => none
  | none => none
def lawArg (run : AC → AT → AH → R) (ops : List AI → AT → AH → R) (cf : CF) (j i : Nat) (T0 : AT) : Option (AV × List AV) :=
  match runP run (preL j cf.body) T0 H0 with
  | some (T1, H1) => match ops ((opsL (headL (sufL j cf.body))).take i) T1 H1 with
    | .fin T2 _ => match (opsL (headL (sufL j cf.body))).drop i with
      | .call _ f args :: _ => some (f.ev T2, evs T2 args)
      | _ => none
    | _ => none
  | none => none

noncomputable def runF (tab : FuncId → Option CF) (ext : FuncId → List AV → Option AV) (N : Nat) : AC → AT → AH → R := F.execF tab ext N
noncomputable def opsN (tab : FuncId → Option CF) (ext : FuncId → List AV → Option AV) (N : Nat) : List AI → AT → AH → R := F.opsF (F.callF (F.execF tab ext N) tab ext)
theorem runF_eq (tab ext N) : runF tab ext N = exec tab ext N := by funext c T H; exact F.execF_eq tab ext N c T H
theorem opsN_eq (tab ext N) : opsN tab ext N = execOps (callWith (exec tab ext N) tab ext) := by
  funext l T H
  unfold opsN
  have : F.execF tab ext N = exec tab ext N := runF_eq tab ext N
  rw [this]
  exact F.opsF_eq (F.callF_eq _ tab ext) l T H

def isTrue (r : R) (res : List (Pos × Option (Option Nat))) : Bool := match outOf r res with
  | some (.bool b) => b
  | _ => false
theorem isTrue_out {r res} (h : isTrue r res = true) : outOf r res = some (.bool true) := by
  unfold isTrue at h
  split at h
  · rename_i b hb; rw [hb, h]
  · cases h
/-- the closed run behind it -/
noncomputable def lawOk (tab : FuncId → Option CF) (ext : FuncId → List AV → Option AV) (n : Nat) (c : AC) (res : List (Pos × Option (Option Nat))) (s : Option (AT × AH)) : Bool :=
  match s with
  | some (T, H) => isTrue (runF tab ext n c T H) res
  | none => false

section
variable {P : Program}

theorem law2_ok {tab ext} (E : Env P tab ext) {g : FuncId} {fn : Func} (hfn : P.funcs[g]? = some fn) {cf : CF} (hcf : funcOf P fn = some cf) (hnt : fn.ntmps < 1000000000) {args : List AV} {T0 : AT} (hp : putArgs .lf cf.ps args = some T0)
    {j i N n : Nat} (hs : lawShape cf j) {fv : AV} {av : List AV} (hargs : lawArg (runF tab ext (N + 1)) (opsN tab ext N) cf j i T0 = some (fv, av)) {v : AV} (hcall : ∀ H, callWith (exec tab ext N) tab ext fv av H = some (v, H))
    {ps : List Pos} {s : Option (AT × AH)} (hst : lawSt (runF tab ext (N + 1)) (opsN tab ext N) cf j i T0 v ps = s) (hrun : true = lawOk tab ext n (sufL (j + 1) cf.body) cf.res s) {vs : Array Value} (ha : VRelL (fun _ => none) args vs.toList) (w : World) :
    Calls P g vs w fun e w' => e = .returned (.bool true) ∧ Below w.heap.size w w' := by
  subst hst
  rw [runF_eq, opsN_eq] at hargs hrun
  unfold lawArg at hargs
  unfold lawSt at hrun
  cases h1 : runP (exec tab ext (N + 1)) (preL j cf.body) T0 H0 with
  | none => rw [h1] at hargs; cases hargs
  | some y1 =>
    obtain ⟨T1, H1⟩ := y1
    rw [h1] at hargs hrun
    simp only at hargs hrun
    cases h2 : execOps (callWith (exec tab ext N) tab ext) ((opsL (headL (sufL j cf.body))).take i) T1 H1 with
    | bad => rw [h2] at hargs; cases hargs
    | ex _ _ _ => rw [h2] at hargs; cases hargs
    | ret _ _ => rw [h2] at hargs; cases hargs
    | fin T2 H2 =>
      rw [h2] at hargs hrun
      simp only at hargs hrun
      cases hl : (opsL (headL (sufL j cf.body))).drop i with
      | nil => rw [hl] at hargs; cases hargs
      | cons c l2 =>
        rw [hl] at hargs hrun
        cases c <;> try (cases hargs; done)
        rename_i d f as
        simp only [Option.some.injEq, Prod.mk.injEq] at hargs hrun
        obtain ⟨rfl, rfl⟩ := hargs
        cases h3 : execOps (callWith (exec tab ext N) tab ext) l2 (putO T2 d v) H2 with
        | bad => rw [h3] at hrun; cases hrun
        | ex _ _ _ => rw [h3] at hrun; cases hrun
        | ret _ _ => rw [h3] at hrun; cases hrun
        | fin T3 H3 =>
          rw [h3] at hrun
          simp only [lawOk, runF_eq] at hrun
          have hout := isTrue_out hrun.symm
          have hops : opsL (headL (sufL j cf.body)) = (opsL (headL (sufL j cf.body))).take i ++ (.call d f as :: l2) := by
            rw [← hl, List.take_append_drop]
          have hexec : exec tab ext (N + 1) (.ops (opsL (headL (sufL j cf.body)))) T1 H1 = .fin T3 H3 := by
            show execOps (callWith (exec tab ext N) tab ext) (opsL (headL (sufL j cf.body))) T1 H1 = _
            rw [hops, execOps_app _ _ _ _ _ _ _ h2, execOps_cons]
            simp only [exec1, hcall]
            exact h3
          have s1 : RunOk P (.ops (opsL (headL (sufL j cf.body)))) (.fin T3 H3) T1 H1 := by
            have := exec_sound E (N + 1) (.ops (opsL (headL (sufL j cf.body)))) T1 H1 (by rw [hexec]; simp)
            rwa [hexec] at this
          have s2 := (exec_sound E n (sufL (j + 1) cf.body) (forget ps T3) H3 (not_bad hout)).sub (forget_sub ps T3 T3 (Sub.refl T3))
          have s3 : RunOk P cf.body _ T0 H0 :=
            (congrArg (fun b => RunOk P b (exec tab ext n (sufL (j + 1) cf.body) (forget ps T3) H3) T0 H0) hs).mpr (nest_ok (exec_sound E (N + 1)) (preL j cf.body) T0 H0 T1 H1 h1 (RunOk.seq s1 s2))
          refine (calls_ok hfn hcf hnt hp s3 hout ha w).mono ?_
          rintro e w' ⟨σ, u, hu, rfl, hb⟩
          simp only [VRel] at hu
          subst hu
          exact ⟨rfl, hb⟩

/-- a law that is run as it stands -/
theorem law0_ok {tab ext} (E : Env P tab ext) {g : FuncId} {fn : Func} (hfn : P.funcs[g]? = some fn) {cf : CF} (hcf : funcOf P fn = some cf) (hnt : fn.ntmps < 1000000000) {args : List AV} {T0 : AT} (hp : putArgs .lf cf.ps args = some T0)
    {n : Nat} (hrun : true = lawOk tab ext n cf.body cf.res (some (T0, H0))) {vs : Array Value} (ha : VRelL (fun _ => none) args vs.toList) (w : World) :
    Calls P g vs w fun e w' => e = .returned (.bool true) ∧ Below w.heap.size w w' := by
  simp only [lawOk, runF_eq] at hrun
  have hout := isTrue_out hrun.symm
  refine (calls_ok hfn hcf hnt hp (exec_sound E n cf.body T0 H0 (not_bad hout)) hout ha w).mono ?_
  rintro e w' ⟨σ, u, hu, rfl, hb⟩
  simp only [VRel] at hu
  subst hu
  exact ⟨rfl, hb⟩
end
end Go.AM
