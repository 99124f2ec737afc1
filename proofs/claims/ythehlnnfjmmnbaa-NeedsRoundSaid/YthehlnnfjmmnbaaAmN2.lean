import Derived.Test.YthehlnnfjmmnbaaAmN1
namespace Go.Proofs.Ythehlnnfjmmnbaa.AmTab
open Go Go.AM Go.RowKit

def tabA : FuncId → Option CF := AM.look table
def extA : FuncId → List AV → Option AV := cmpA 53
theorem envA : Env Try.prog tabA extA :=
  ⟨look_good goods, fun g args v _ h σ vs ha w => cmpA_ok Try.func53 (by kernel_rfl) (by kernel_rfl) (by kernel_rfl) (by kernel_rfl) g args v h σ vs ha w⟩

def sq1 : AC → AC | .seq a _ => a | c => c
def sq2 : AC → AC | .seq _ a => a | c => c
def T1 (a : Int) : AT := AT.put (AT.put .lf .h (.int .i64 a)) (.i .h) (.bool false)
def T2 (a r : Int) : AT := AT.put (AT.put (AT.put (AT.put (T1 a) (.o (.i (.i .h))) (.int .i64 a)) (.i (.i (.i .h))) (.int .i64 r)) (.o (.o (.o (.o .h)))) (.int .i64 (wrapA .i64 (1 + r)))) .h (.int .i64 (wrapA .i64 (1 + r)))
def rest : AC := sq2 (sq2 cf3.body)
theorem rest0 (a : Int) : outOf (exec tabA extA 3000 rest (T2 a 0) H0) cf3.res = some (.bool true) := by kernel_rfl
theorem rest1 (a : Int) : outOf (exec tabA extA 3000 rest (T2 a 1) H0) cf3.res = some (.bool true) := by kernel_rfl
theorem rest2 (a : Int) : outOf (exec tabA extA 3000 rest (T2 a 2) H0) cf3.res = some (.bool true) := by kernel_rfl
theorem rest3 (a : Int) : outOf (exec tabA extA 3000 rest (T2 a 3) H0) cf3.res = some (.bool true) := by kernel_rfl
theorem rest4 (a : Int) : outOf (exec tabA extA 3000 rest (T2 a 4) H0) cf3.res = some (.bool true) := by kernel_rfl
theorem rest5 (a : Int) : outOf (exec tabA extA 3000 rest (T2 a 5) H0) cf3.res = some (.bool true) := by kernel_rfl
theorem rest6 (a : Int) : outOf (exec tabA extA 3000 rest (T2 a 6) H0) cf3.res = some (.bool true) := by kernel_rfl

theorem first (a : Int) : exec tabA extA 5 (sq1 cf3.body) (AT.put .lf .h (.int .i64 a)) H0 = .fin (T1 a) H0 := rfl
theorem second (a r : Int) (hw : callWith (exec tabA extA 99) tabA extA (.fn 9 []) [.int .i64 a, .int .i64 7] H0 = some (.int .i64 r, H0)) : exec tabA extA 100 (sq1 (sq2 cf3.body)) (T1 a) H0 = .fin (T2 a r) H0 := by
  have e : exec tabA extA 100 (sq1 (sq2 cf3.body)) (T1 a) H0 = execOps (callWith (exec tabA extA 99) tabA extA) (match sq1 (sq2 cf3.body) with | .ops l => l | _ => []) (T1 a) H0 := rfl
  rw [e]
  simp only [cf3, sq1, sq2]
  simp [execOps, AM.val, AX.ev, evs, AT.put, Tr.get, Tr.set, T1, T2, hw, AM.putO, AI.dst, binV, kEq, ibin]

theorem needsRound_calls (a : Int) (w : World) : Calls Try.prog 3 #[.int .i64 a] w fun e w' => e = .returned (.bool true) ∧ Below w.heap.size w w' := by
  obtain ⟨r, h0, h1, hw⟩ := within_ok (tab := tabA) (ext := extA) rfl a 7 (by omega) (by omega) 87 H0
  have hrest : outOf (exec tabA extA 3000 rest (T2 a r) H0) cf3.res = some (.bool true) := by
    have : r = 0 ∨ r = 1 ∨ r = 2 ∨ r = 3 ∨ r = 4 ∨ r = 5 ∨ r = 6 := by omega
    rcases this with rfl | rfl | rfl | rfl | rfl | rfl | rfl
    · exact rest0 a
    · exact rest1 a
    · exact rest2 a
    · exact rest3 a
    · exact rest4 a
    · exact rest5 a
    · exact rest6 a
  have s0 : RunOk Try.prog (sq1 cf3.body) (.fin (T1 a) H0) (AT.put .lf .h (.int .i64 a)) H0 := by
    have := exec_sound envA 5 (sq1 cf3.body) (AT.put .lf .h (.int .i64 a)) H0 (by rw [first]; simp)
    rwa [first] at this
  have s1 : RunOk Try.prog (sq1 (sq2 cf3.body)) (.fin (T2 a r) H0) (T1 a) H0 := by
    have := exec_sound envA 100 (sq1 (sq2 cf3.body)) (T1 a) H0 (by rw [second a r hw]; simp)
    rwa [second a r hw] at this
  have s2 := exec_sound envA 3000 rest (T2 a r) H0 (not_bad hrest)
  have hrun : RunOk Try.prog cf3.body _ (AT.put .lf .h (.int .i64 a)) H0 := RunOk.seq s0 (RunOk.seq s1 s2)
  refine (calls_ok Try.func3 (cf := cf3) (by kernel_rfl) (of_decide_eq_true (by kernel_rfl)) (args := [.int .i64 a]) rfl hrun hrest (by simp [VRelL, VRel]) w).mono ?_
  rintro e w' ⟨σ, u, hu, rfl, hb⟩
  simp only [VRel] at hu
  subst hu
  exact ⟨rfl, hb⟩
end Go.Proofs.Ythehlnnfjmmnbaa.AmTab
