/- THE ABSTRACT MACHINE: a law, one argument of which is read once alone, by a call that brings it to one of a few: all else is run closed. -/
import Derived.Test.YtehgboiiphlfeaaGreatDoorAmLaw2
namespace Go.AM
open Go Go.RowKit

/-! ### a slot that a piece of code does not name -/
def offX (p : Pos) (i : AI) : Bool := (notIn (some p) i.on) && (match i.dst with | some d => !d.beq p | none => true)
def offD (p : Pos) : DI → Bool
  | .op _ i => i.tidy && offX p i
  | .chk i => i.tidy && offX p i
def offC (p : Pos) : AC → Bool
  | .skip => true
  | .ops l => l.all fun i => i.tidy && offX p i
  | .dops _ l => l.all (offD p)
  | .seq a b => offC p a && offC p b
  | .cond x a b => notIn (some p) x.on && offC p a && offC p b
  | .block _ a => offC p a
  | .loop a => offC p a
  | .exit _ => true
  | .ret => true
  | .rng .. => false
def R.putP (p : Pos) (v : AV) : R → R
  | .bad => .bad
  | .fin T H => .fin (T.put p v) H
  | .ex id T H => .ex id (T.put p v) H
  | .ret T H => .ret (T.put p v) H

section
variable {call : AV → List AV → AH → Option (AV × AH)} {p : Pos} {v : AV}

theorem offX_spec {i : AI} (h : offX p i = true) : p ∉ i.on ∧ ∀ d, i.dst = some d → d ≠ p := by
  simp only [offX, Bool.and_eq_true] at h
  refine ⟨notIn_spec h.1 p rfl, fun d hd e => ?_⟩
  have h2 := h.2
  rw [hd] at h2
  simp only [Bool.not_eq_true', e, Pos.beq_iff.2 rfl] at h2
  cases h2
theorem exec1_put {i : AI} (ht : i.tidy = true) (h : offX p i = true) (T : AT) (H : AH) : exec1 call i (T.put p v) H = (exec1 call i T H).map fun x => (x.1.put p v, x.2) := by
  obtain ⟨h1, h2⟩ := offX_spec h
  rw [exec1_eff ht, exec1_eff ht, eff_put h1]
  cases eff call i T H with
  | none => rfl
  | some y =>
    obtain ⟨u, H'⟩ := y
    simp only [Option.map_some]
    congr 2
    cases hd : i.dst with
    | none => rfl
    | some d => exact Tr.set_comm _ _ _ _ _ (h2 d hd)
theorem execOps_put : ∀ (l : List AI), (l.all fun i => i.tidy && offX p i) = true → ∀ (T : AT) (H : AH), execOps call l (T.put p v) H = (execOps call l T H).putP p v
  | [], _, _, _ => rfl
  | i :: l, h, T, H => by
    simp only [List.all_cons, Bool.and_eq_true] at h
    simp only [execOps]
    rw [exec1_put h.1.1 h.1.2]
    cases exec1 call i T H with
    | none => rfl
    | some y => obtain ⟨T1, H1⟩ := y; exact execOps_put l h.2 T1 H1
theorem chk0_put {op : AI} (h : offX p op = true) (T : AT) (H : AH) : chk0 (T.put p v) H op = chk0 T H op := by
  obtain ⟨h1, h2⟩ := offX_spec h
  unfold chk0
  cases hd : op.dst with
  | none => rfl
  | some d =>
    simp only [val_put (T := T) (H := H) (v := v) h1]
    cases AM.val T H op with
    | none => rfl
    | some y =>
      simp only
      rw [ev_put (x := .t d) (by simp [AX.on]; exact fun e => h2 d hd e.symm)]
theorem chkOk_put {op : AI} (ht : op.tidy = true) (h : offX p op = true) (T : AT) (H : AH) : chkOk (T.put p v) H op = chkOk T H op := by
  obtain ⟨h1, h2⟩ := offX_spec h
  cases op
  case gd g b d i =>
    have hg : p ≠ g := fun e => h1 (by simp [AI.on, e])
    have hi : offX p i = true := by
      obtain ⟨hd, _⟩ := tidy_dst ht
      simp only [offX, Bool.and_eq_true] at h ⊢
      refine ⟨?_, by rw [hd]; exact h.2⟩
      have := h.1
      simp only [notIn, AI.on, List.all_cons, Bool.and_eq_true] at this ⊢
      exact this.2
    simp only [chkOk]
    rw [ev_put (x := .t g) (by simp [AX.on]; exact hg), chk0_put hi]
  all_goals (simp only [chkOk]; exact chk0_put h T H)
theorem execD_put : ∀ (l : List DI), l.all (offD p) = true → ∀ (T : AT) (H : AH), execD call l (T.put p v) H = (execD call l T H).putP p v
  | [], _, _, _ => rfl
  | d :: l, h, T, H => by
    simp only [List.all_cons, Bool.and_eq_true] at h
    simp only [execD]
    have e : execD1 call d (T.put p v) H = (execD1 call d T H).map fun x => (x.1.put p v, x.2) := by
      cases d with
      | chk i =>
        have h1 := h.1
        simp only [offD, Bool.and_eq_true] at h1
        simp only [execD1]
        rw [chkOk_put h1.1 h1.2]
        cases chkOk T H i <;> rfl
      | op q i =>
        have h1 := h.1
        simp only [offD, Bool.and_eq_true] at h1
        simp only [execD1]
        cases q with
        | none => exact exec1_put h1.1 h1.2 T H
        | some q =>
          simp only
          cases H.arm q with
          | none => rfl
          | some H1 =>
            simp only
            rw [exec1_put h1.1 h1.2]
            cases exec1 call i T H1 <;> rfl
    rw [e]
    cases execD1 call d T H with
    | none => rfl
    | some y => obtain ⟨T1, H1⟩ := y; exact execD_put l h.2 T1 H1
theorem exec_put (tab : FuncId → Option CF) (ext : FuncId → List AV → Option AV) : ∀ (n : Nat) (c : AC) (T : AT) (H : AH), offC p c = true → exec tab ext n c (T.put p v) H = (exec tab ext n c T H).putP p v
  | 0, _, _, _, _ => rfl
  | n + 1, c, T, H, h => by
    cases c with
    | skip => rfl
    | ops l => exact execOps_put l h T H
    | dops m l =>
      simp only [exec]
      cases H.pk with
      | some _ => rfl
      | none =>
        simp only
        rw [execD_put l h]
        cases execD (callWith (exec tab ext n) tab ext) l T (H.reserve m) <;> rfl
    | seq a b =>
      simp only [offC, Bool.and_eq_true] at h
      simp only [exec]
      rw [exec_put tab ext n a T H h.1]
      cases exec tab ext n a T H <;> try rfl
      exact exec_put tab ext n b _ _ h.2
    | cond x a b =>
      simp only [offC, Bool.and_eq_true] at h
      simp only [exec]
      rw [ev_put (notIn_spec h.1.1 p rfl)]
      cases x.ev T <;> try rfl
      rename_i z
      cases z
      · exact exec_put tab ext n b T H h.2
      · exact exec_put tab ext n a T H h.1.2
    | block id a =>
      simp only [exec]
      rw [exec_put tab ext n a T H h]
      cases exec tab ext n a T H <;> try rfl
      rename_i j T1 H1
      simp only [R.putP]
      cases Nat.beq j id <;> rfl
    | loop a =>
      simp only [exec]
      rw [exec_put tab ext n a T H h]
      cases exec tab ext n a T H <;> try rfl
      exact exec_put tab ext n (.loop a) _ _ h
    | exit id => rfl
    | ret => rfl
    | rng f ps asg body => cases h
theorem runP_put (tab : FuncId → Option CF) (ext : FuncId → List AV → Option AV) (n : Nat) : ∀ (l : List AC), (l.all (offC p)) = true → ∀ (T : AT) (H : AH), runP (exec tab ext n) l (T.put p v) H = (runP (exec tab ext n) l T H).map fun x => (x.1.put p v, x.2)
  | [], _, _, _ => rfl
  | c :: l, h, T, H => by
    simp only [List.all_cons, Bool.and_eq_true] at h
    simp only [runP]
    rw [exec_put tab ext n c T H h.1]
    cases exec tab ext n c T H <;> try rfl
    exact runP_put tab ext n l h.2 _ _

/-! ### slots of which less is known -/
def Agree (S : List Pos) (T Ta : AT) : Prop := ∀ q, (AX.t q).ev T = (AX.t q).ev Ta ∨ (q ∈ S ∧ (AX.t q).ev T = .unk)
theorem Agree.sub {S : List Pos} {T Ta : AT} (h : Agree S T Ta) : Sub T Ta := fun q => (h q).elim .inr fun h => .inl h.2
theorem Agree.put {S : List Pos} {T Ta : AT} (h : Agree S T Ta) (d : Option Pos) (u : AV) : Agree S (AM.putO T d u) (AM.putO Ta d u) := fun q => by
  cases d with
  | none => exact h q
  | some d =>
    by_cases he : d = q
    · subst he; left; rw [ev_putO_eq, ev_putO_eq]
    · rw [ev_putO fun e => he (Option.some.inj e), ev_putO fun e => he (Option.some.inj e)]; exact h q
theorem Agree.more {S : List Pos} {T Ta : AT} (h : Agree S T Ta) {x : Pos} (hx : (AX.t x).ev T = .unk) (hs : x ∈ S) (u : AV) : Agree S T (Ta.put x u) := fun q => by
  by_cases he : q = x
  · subst he; exact .inr ⟨hs, hx⟩
  · have : (AX.t q).ev (Ta.put x u) = (AX.t q).ev Ta := ev_put (x := .t q) (by simp [AX.on]; exact fun e => he e.symm)
    rw [this]; exact h q
def offOn (S : List Pos) (i : AI) : Bool := i.tidy && i.on.all fun q => !(S.any fun s => s.beq q)
theorem execOps_agree {S : List Pos} : ∀ (l : List AI), (l.all (offOn S)) = true → ∀ (T Ta : AT) (H : AH), Agree S T Ta → ∀ (T' : AT) (H' : AH), execOps call l T H = .fin T' H' → ∃ Ta', execOps call l Ta H = .fin Ta' H' ∧ Agree S T' Ta'
  | [], _, T, Ta, H, ha, T', H', he => by
    simp only [execOps, R.fin.injEq] at he
    obtain ⟨rfl, rfl⟩ := he
    exact ⟨Ta, rfl, ha⟩
  | i :: l, h, T, Ta, H, ha, T', H', he => by
    simp only [List.all_cons, Bool.and_eq_true] at h
    have h1 := h.1
    simp only [offOn, Bool.and_eq_true] at h1
    simp only [execOps] at he ⊢
    rw [exec1_eff h1.1] at he ⊢
    have hc : eff call i Ta H = eff call i T H := (eff_congr fun q hq => by
      rcases ha q with e | ⟨e, _⟩
      · exact e
      · have := List.all_eq_true.1 h1.2 q hq
        simp only [Bool.not_eq_true', List.any_eq_false] at this
        have := this q e
        rw [Pos.beq_iff.2 rfl] at this
        exact absurd rfl this).symm
    rw [hc]
    cases hv : eff call i T H with
    | none => rw [hv] at he; cases he
    | some y =>
      obtain ⟨u, H1⟩ := y
      rw [hv] at he
      simp only at he ⊢
      exact execOps_agree l h.2 _ _ H1 (ha.put i.dst u) T' H' he
end

/-- the way to the call: `mov x p`, other operations, the call of x and k -/
structure LawAt (body : AC) (j : Nat) (p x y : Pos) (f k : AX) (l1 l2 : List AI) : Prop where
  shape : body = nest (preL j body) (.seq (.ops (.mov x (.t p) :: l1 ++ .call (some y) f [.t x, k] :: l2)) (sufL (j + 1) body))
  pre : (preL j body).all (offC p) = true
  off1 : (l1.all fun i => i.tidy && offX p i) = true
  off1x : (l1.all fun i => i.tidy && offX x i) = true
  off2 : l2.all (offOn [p, x]) = true
  offk : (notIn (some p) k.on && notIn (some x) k.on && notIn (some p) f.on && notIn (some x) f.on) = true

def unkAt (T : AT) (p : Pos) : Bool := match (AX.t p).ev T with
  | .unk => true
  | _ => false
theorem unkAt_spec {T : AT} {p : Pos} (h : unkAt T p = true) : (AX.t p).ev T = .unk := by
  unfold unkAt at h
  split at h
  · assumption
  · cases h
/-- the state ahead of the call, and what the call is -/
noncomputable def lawPre (tab : FuncId → Option CF) (ext : FuncId → List AV → Option AV) (N : Nat) (body : AC) (j : Nat) (l1 : List AI) (T00 : AT) : Option (AT × AH) :=
  match runP (runF tab ext (N + 1)) (preL j body) T00 H0 with
  | some (T1, H1) => match opsN tab ext N l1 T1 H1 with
    | .fin T2 H2 => some (T2, H2)
    | _ => none
  | none => none
def lawPreOk (s : Option (AT × AH)) (p x : Pos) (f k : AX) (g : Nat) (m : Int) : Bool :=
  match s with
  | some (T2, _) => unkAt T2 p && unkAt T2 x && same (f.ev T2) (.fn g []) && same (k.ev T2) (.int .i64 m)
  | none => false
noncomputable def lawRun3 (tab : FuncId → Option CF) (ext : FuncId → List AV → Option AV) (N n : Nat) (c : AC) (res : List (Pos × Option (Option Nat))) (l2 : List AI) (s : Option (AT × AH)) (y : Pos) (r : AV) : Bool :=
  match s with
  | some (T2, H2) => match opsN tab ext N l2 (T2.put y r) H2 with
    | .fin T3 H3 => isTrue (runF tab ext n c T3 H3) res
    | _ => false
  | none => false

section
variable {P : Program}

theorem law3_ok {tab ext} (E : Env P tab ext) {g : FuncId} {fn : Func} (hfn : P.funcs[g]? = some fn) {cf : CF} (hcf : funcOf P fn = some cf) (hnt : fn.ntmps < 1000000000) {args : List AV} {T00 : AT} {p : Pos} {a : AV} (hp : putArgs .lf cf.ps args = some (T00.put p a))
    {N n j : Nat} {x y : Pos} {f k : AX} {l1 l2 : List AI} (at_ : LawAt cf.body j p x y f k l1 l2) {gw : Nat} {m : Int}
    (hpre : true = lawPreOk (lawPre tab ext N cf.body j l1 T00) p x f k gw m) {r : AV} (hcall : ∀ H, callWith (exec tab ext N) tab ext (.fn gw []) [a, .int .i64 m] H = some (r, H))
    (hrun : true = lawRun3 tab ext N n (sufL (j + 1) cf.body) cf.res l2 (lawPre tab ext N cf.body j l1 T00) y r) {vs : Array Value} (ha : VRelL (fun _ => none) args vs.toList) (w : World) :
    Calls P g vs w fun e w' => e = .returned (.bool true) ∧ Below w.heap.size w w' := by
  unfold lawPre at hrun hpre
  rw [runF_eq, opsN_eq] at hpre hrun
  cases h1 : runP (exec tab ext (N + 1)) (preL j cf.body) T00 H0 with
  | none => rw [h1] at hpre; cases hpre
  | some y1 =>
    obtain ⟨T1, H1⟩ := y1
    rw [h1] at hpre hrun
    simp only at hpre hrun
    cases h2 : execOps (callWith (exec tab ext N) tab ext) l1 T1 H1 with
    | bad => rw [h2] at hpre; cases hpre
    | ex _ _ _ => rw [h2] at hpre; cases hpre
    | ret _ _ => rw [h2] at hpre; cases hpre
    | fin T2 H2 =>
      rw [h2] at hpre hrun
      simp only [lawPreOk] at hpre
      replace hpre := hpre.symm
      simp only [Bool.and_eq_true] at hpre
      obtain ⟨⟨⟨e1, e2⟩, e3⟩, e4⟩ := hpre
      have u1 := unkAt_spec e1
      have u2 := unkAt_spec e2
      have f1 := same_eq _ _ e3
      have f2 := same_eq _ _ e4
      simp only [lawRun3, opsN_eq] at hrun
      cases h3 : execOps (callWith (exec tab ext N) tab ext) l2 (T2.put y r) H2 with
      | bad => rw [h3] at hrun; cases hrun
      | ex _ _ _ => rw [h3] at hrun; cases hrun
      | ret _ _ => rw [h3] at hrun; cases hrun
      | fin T3 H3 =>
        rw [h3] at hrun
        simp only [runF_eq] at hrun
        have hout := isTrue_out hrun.symm
        have hoff := at_.offk
        simp only [Bool.and_eq_true] at hoff
        obtain ⟨⟨⟨k1, k2⟩, k3⟩, k4⟩ := hoff
        -- the pieces ahead
        have g1 : runP (exec tab ext (N + 1)) (preL j cf.body) (T00.put p a) H0 = some (T1.put p a, H1) := by rw [runP_put tab ext (N + 1) _ at_.pre, h1]; rfl
        -- ahead of the call
        have g2 : execOps (callWith (exec tab ext N) tab ext) l1 ((T1.put p a).put x a) H1 = .fin ((T2.put p a).put x a) H2 := by
          rw [execOps_put l1 at_.off1x, execOps_put l1 at_.off1, h2]; rfl
        have hxa : (AX.t x).ev ((T2.put p a).put x a) = a := by simp only [AX.ev, AT.put, Tr.get_set_eq]
        have ev_of : ∀ (z : AX), notIn (some p) z.on = true → notIn (some x) z.on = true → z.ev ((T2.put p a).put x a) = z.ev T2 := fun z hz1 hz2 => by
          rw [ev_put (notIn_spec hz2 x rfl), ev_put (notIn_spec hz1 p rfl)]
        have ag : Agree [p, x] (T2.put y r) (((T2.put p a).put x a).put y r) :=
          (((show Agree [p, x] T2 T2 from fun _ => .inl rfl).more u1 (by simp) a).more u2 (by simp) a).put (some y) r
        obtain ⟨Ta3, c1, c2⟩ := execOps_agree l2 at_.off2 _ _ H2 ag T3 H3 h3
        have hexec : exec tab ext (N + 1) (.ops (.mov x (.t p) :: l1 ++ .call (some y) f [.t x, k] :: l2)) (T1.put p a) H1 = .fin Ta3 H3 := by
          show execOps (callWith (exec tab ext N) tab ext) (.mov x (.t p) :: (l1 ++ .call (some y) f [.t x, k] :: l2)) (T1.put p a) H1 = _
          have hpa : (AX.t p).ev (T1.put p a) = a := by simp only [AX.ev, AT.put, Tr.get_set_eq]
          simp only [execOps, exec1, AM.val, AI.dst, AM.putO, hpa]
          rw [execOps_app _ _ _ _ _ _ _ g2]
          simp only [execOps, exec1, evs, hxa, ev_of k k1 k2, ev_of f k3 k4, f1, f2, hcall]
          exact c1
        have s1 : RunOk P (.ops (.mov x (.t p) :: l1 ++ .call (some y) f [.t x, k] :: l2)) (.fin Ta3 H3) (T1.put p a) H1 := by
          have := exec_sound E (N + 1) (.ops (.mov x (.t p) :: l1 ++ .call (some y) f [.t x, k] :: l2)) (T1.put p a) H1 (by rw [hexec]; simp)
          rwa [hexec] at this
        have s2 := (exec_sound E n (sufL (j + 1) cf.body) T3 H3 (not_bad hout)).sub c2.sub
        have s3 : RunOk P cf.body _ (T00.put p a) H0 :=
          (congrArg (fun b => RunOk P b (exec tab ext n (sufL (j + 1) cf.body) T3 H3) (T00.put p a) H0) at_.shape).mpr (nest_ok (exec_sound E (N + 1)) (preL j cf.body) (T00.put p a) H0 (T1.put p a) H1 g1 (RunOk.seq s1 s2))
        refine (calls_ok hfn hcf hnt hp s3 hout ha w).mono ?_
        rintro e w' ⟨σ, u, hu, rfl, hb⟩
        simp only [VRel] at hu
        subst hu
        exact ⟨rfl, hb⟩
end

/-- 'Within', by its own code -/
theorem within_run {tab ext} {g : Nat} {cf : CF} (ht : tab g = some cf) (a k : Int) (hk : 1 ≤ k) (hk2 : k < 4611686018427387904) (N : Nat)
    (h1 : ∀ (m : Int), Int.tmod a k = m → -k < m → m < k → ∀ H, callWith (exec tab ext N) tab ext (.fn g []) [.int .i64 a, .int .i64 k] H = some (.int .i64 (if m < 0 then m + k else m), H)) :
    ∃ r, 0 ≤ r ∧ r < k ∧ ∀ H, callWith (exec tab ext N) tab ext (.fn g []) [.int .i64 a, .int .i64 k] H = some (.int .i64 r, H) := by
  have h2 : Int.tmod a k < k := Int.tmod_lt_of_pos a (by omega)
  have h3 : -k < Int.tmod a k := Int.lt_tmod_of_pos a (by omega)
  refine ⟨if Int.tmod a k < 0 then Int.tmod a k + k else Int.tmod a k, ?_, ?_, h1 _ rfl h3 h2⟩
  · split <;> omega
  · split <;> omega
end Go.AM
