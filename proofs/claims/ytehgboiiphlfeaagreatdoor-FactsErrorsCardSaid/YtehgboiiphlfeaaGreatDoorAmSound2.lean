/- THE ABSTRACT MACHINE: its run is the model's. -/
import Derived.Test.YtehgboiiphlfeaaGreatDoorAmSound1
namespace Go.AM
open Go

/-- the functions that the machine knows are the program's -/
structure Env (P : Program) (tab : FuncId → Option CF) (ext : FuncId → List AV → Option AV) : Prop where
  tabs : ∀ g cf, tab g = some cf → ∃ fn, P.funcs[g]? = some fn ∧ funcOf P fn = some cf ∧ (fn.name == "runtime.NumGoroutine") = false ∧ fn.ntmps < 1000000000
  exts : ∀ g args v, tab g = none → ext g args = some v → ∀ (σ : Val) (vs : Array Value), VRelL σ args vs.toList → ∀ w, ∃ u, (callFunc g vs).run P w = .ok (.value u) w ∧ VRel σ v u

/-- marks that the frame bears: blocks of deferred calls, none in them -/
def Marked (w0 w : World) (σ : Val) (H : AH) (rs : List Nat) : Prop := rs.Nodup ∧ ∀ r ∈ rs, w0.heap.size ≤ r ∧ r < w.heap.size ∧ w.heap[r]? = some (.deferred (some [])) ∧ ¬ Foot σ H r

theorem Marked.nil (w0 w : World) (σ : Val) (H : AH) : Marked w0 w σ H [] := ⟨List.nodup_nil, by simp⟩

theorem Marked.seq {w0 w1 w2 : World} {σ1 σ2 : Val} {H1 H2 : AH} {r1 r2 : List Nat} (h1 : Marked w0 w1 σ1 H1 r1) (e : Ext σ1 H1 w1 σ2 H2 w2) (h2 : Marked w1 w2 σ2 H2 r2) (hle : w0.heap.size ≤ w1.heap.size) : Marked w0 w2 σ2 H2 (r2 ++ r1) := by
  refine ⟨List.nodup_append.2 ⟨h2.1, h1.1, fun a ha b hb hab => ?_⟩, fun r hr => ?_⟩
  · subst hab
    have := (h2.2 a ha).1
    have := (h1.2 a hb).2.1
    omega
  · rcases List.mem_append.1 hr with h | h
    · obtain ⟨a, b, c, d⟩ := h2.2 r h
      exact ⟨Nat.le_trans hle a, b, c, d⟩
    · obtain ⟨a, b, c, d⟩ := h1.2 r h
      exact ⟨a, Nat.lt_of_lt_of_le b e.size, (e.keep r b d).trans c, fun hf => d (e.foot r b hf)⟩

def R.th : R → Option (AT × AH)
  | .bad => none
  | .fin T H => some (T, H)
  | .ex _ T H => some (T, H)
  | .ret T H => some (T, H)

/-- where the model stands -/
def Ends (P : Program) (m : Machine) (fr : Frame) (df : List Deferred) (k : List Item) (cs : List Frame) (tm : Array Value) (w : World) : R → Prop
  | .bad => False
  | .fin _ _ => Steps P m (lone (at_ fr tm df k) cs w)
  | .ex id _ _ => (∀ k', exitTo id k = some k' → Steps P m (lone (at_ fr tm df k') cs w)) ∧ (exitTo id k = none → ∃ td, exitTo id td = none ∧ Steps P m (lone (at_ fr tm df (.code (.exit id) :: td)) cs w))
  | .ret _ _ => ∃ td, Steps P m (lone (at_ fr tm df (.code .ret :: td)) cs w)

theorem Ends.of_steps {P m m1 fr df k cs tm w r} (h : Steps P m m1) (h' : Ends P m1 fr df k cs tm w r) : Ends P m fr df k cs tm w r := by
  cases r with
  | bad => exact h'
  | fin _ _ => exact h.trans h'
  | ex id _ _ => exact ⟨fun k' hk => h.trans (h'.1 k' hk), fun hn => by obtain ⟨td, a, b⟩ := h'.2 hn; exact ⟨td, a, h.trans b⟩⟩
  | ret _ _ => obtain ⟨td, a⟩ := h'; exact ⟨td, h.trans a⟩

/-- what a run comes to -/
def Comes' (P : Program) (B : Nat) (nt : Nat) (c : AC) (σ : Val) (H : AH) (w : World) (m : Machine) (fr : Frame) (df : List Deferred) (k : List Item) (cs : List Frame) (r : R) : Prop :=
  ∃ T' H', r.th = some (T', H') ∧ ∃ σ' w' tm' rs, tm'.size = nt ∧ HRel P B σ' H' w' ∧ Ext σ H w σ' H' w' ∧ TRel σ' T' tm' ∧ Marked w w' σ' H' rs ∧ (noRng c = true → rs = []) ∧
    Ends P m fr (rs.map mkMark ++ df) k cs tm' w' r

def RunOk (P : Program) (c : AC) (r : R) (T : AT) (H : AH) : Prop :=
  ∀ (nt B : Nat) (code : Code) (fr : Frame) (k : List Item) (cs : List Frame) (df : List Deferred) (σ : Val) (w : World) (tm : Array Value), codeOf P nt code = some c → (fr.roundOf = none ∨ noRng c = true) →
    tm.size = nt → nt < 1000000000 → HRel P B σ H w → TRel σ T tm → Comes' P B nt c σ H w (lone (at_ fr tm df (.code code :: k)) cs w) fr df k cs r

def Sound (P : Program) (run : AC → AT → AH → R) : Prop := ∀ c T H, run c T H ≠ .bad → RunOk P c (run c T H) T H

/-- a call's outcome, in the model -/
def InvOk (P : Program) (B : Nat) (σ : Val) (H : AH) (w : World) (s : Sem Next) (v : AV) (H' : AH) : Prop :=
  (∃ u, s.run P w = .ok (.value u) w ∧ H' = H ∧ VRel σ v u) ∨
  (∃ g vs, s.run P w = .ok (.enter g vs) w ∧ ∀ c cs, ∃ σ' w' u, HRel P B σ' H' w' ∧ Ext σ H w σ' H' w' ∧ VRel σ' v u ∧ Steps P (lone (Frame.enter P g vs .normal) (c :: cs) w) (lone (c.finish u) cs w')) ∨
  (∃ l f t a b, s.run P w = .ok (.round l f t a b) w ∧ ∀ c cs, ∃ σ' w' u, HRel P B σ' H' w' ∧ Ext σ H w σ' H' w' ∧ VRel σ' v u ∧ Steps P (lone (Frame.round l f t a b .normal) (c :: cs) w) (lone (c.finish u) cs w'))

section
variable {P : Program} {B : Nat} {σ : Val} {H : AH} {w : World} {T : AT} {tm : Array Value} {nt : Nat}

theorem run_takeDeferred {r : Nat} (h : w.heap[r]? = some (.deferred (some []))) : (Instr.takeDeferred r).run P w = .ok [] { w with heap := w.heap.setIfInBounds r (.deferred none) } := by
  simp [Instr.takeDeferred, getObj, setObj, Sem.run, h]

/-- the marks are taken off, one by one -/
theorem unmark {fr : Frame} {td : List Item} {cs : List Frame} {σ0 : Val} {H0 : AH} {w0 : World} : ∀ (rs : List Nat) (w : World), HRel P B σ H w → Ext σ0 H0 w0 σ H w → Marked w0 w σ H rs →
    ∃ w', HRel P B σ H w' ∧ Ext σ0 H0 w0 σ H w' ∧ Steps P (lone { at_ fr tm (rs.map mkMark) td with mode := .returning } cs w) (lone { at_ fr tm [] td with mode := .returning } cs w')
  | [], w, h, e, _ => ⟨w, h, e, Steps.refl _ _⟩
  | r :: rs, w, h, e, hm => by
    obtain ⟨a, b, c, d⟩ := hm.2 r (List.mem_cons_self ..)
    have hnd := List.nodup_cons.1 hm.1
    obtain ⟨w', h', e', s'⟩ := unmark rs { w with heap := w.heap.setIfInBounds r (.deferred none) } (h.setOther d _) (e.setOther a _) ⟨hnd.2, fun q hq => by
      obtain ⟨a', b', c', d'⟩ := hm.2 q (List.mem_cons_of_mem _ hq)
      have hne : r ≠ q := fun e => hnd.1 (e ▸ hq)
      exact ⟨a', by simpa using b', by simpa [Array.getElem?_setIfInBounds, hne] using c', d'⟩⟩
    exact ⟨w', h', e', .head (s_mark (run_takeDeferred c)) s'⟩

theorem posOf_range {nt m : Nat} {ps : List Pos} : ∀ {ts : List Nat}, posOf nt ts = some ps → ∀ t ∈ ts, t < nt := by
  intro ts
  induction ts generalizing ps with
  | nil => intro _ t ht; simp at ht
  | cons a ts ih =>
    intro h t ht
    simp only [posOf] at h
    split at h
    · rename_i p l hp hl
      rcases List.mem_cons.1 ht with rfl | ht
      · exact (slot_spec hp).1
      · exact ih hl t ht
    · cases h

/-- the slots of a frame that is entered -/
theorem enter_slots {vs : Array Value} {n m : Nat} (hn : vs.size = m) (hle : m ≤ n) : (vs ++ Array.replicate (n - vs.size) undef).size = n ∧
    ∀ (i t : Nat) (u : Value), (List.range m)[i]? = some t → vs.toList[i]? = some u → (vs ++ Array.replicate (n - vs.size) undef)[t]? = some u := by
  refine ⟨by simp; omega, fun i t u h1 h2 => ?_⟩
  have hi : i < m := by have := (List.getElem?_eq_some_iff.1 h1).1; simpa using this
  have : t = i := by
    rw [List.getElem?_range hi] at h1
    exact (Option.some.inj h1).symm
  subst this
  rw [Array.getElem?_append_left (by omega)]
  simpa using h2

/-- a function of the program is called -/
theorem func_ok {tab ext} (E : Env P tab ext) {run : AC → AT → AH → R} (hrun : Sound P run) {g : FuncId} {cf : CF} (hg : tab g = some cf) {args : List AV} {T0 : AT} (hp : putArgs .lf cf.ps args = some T0) {r : R} (hr : run cf.body T0 H = r)
    {T' : AT} {H' : AH} (hth : r = .ret T' H' ∨ r = .fin T' H') {v : AV} (hv : AM.results T' H' cf.res = some v) (h : HRel P B σ H w) {vs : Array Value} (ha : VRelL σ args vs.toList) :
    (callFunc g vs).run P w = .ok (.enter g vs) w ∧ ∀ c cs, ∃ σ' w' u, HRel P B σ' H' w' ∧ Ext σ H w σ' H' w' ∧ VRel σ' v u ∧ Steps P (lone (Frame.enter P g vs .normal) (c :: cs) w) (lone (c.finish u) cs w') := by
  obtain ⟨fn, hfn, hcf, hname, hnt⟩ := E.tabs g cf hg
  unfold funcOf at hcf
  cases hbody : fn.body with
  | none => simp [hbody] at hcf
  | some code =>
    simp only [hbody] at hcf
    split at hcf
    · rename_i b rs ps hcode hres hps
      simp at hcf
      subst hcf
      simp only at hp hr hv
      have hname' : fn.name ≠ "runtime.NumGoroutine" := by simpa using hname
      refine ⟨by simp [callFunc, hfn, hname', hbody], fun c cs => ?_⟩
      -- the frame
      have hT00 : ∀ tm : Array Value, TRel σ .lf tm := fun tm p => by simp [AX.ev, VRel]
      have hlen : ∀ (ts : List Nat) (ps : List Pos) (l : List AV) (T T1 : AT), posOf fn.ntmps ts = some ps → putArgs T ps l = some T1 → ts.length = l.length := by
        intro ts
        induction ts with
        | nil => intro ps l T T1 h1 h2; simp [posOf] at h1; subst h1; cases l <;> simp [putArgs] at h2 ⊢
        | cons t ts ih =>
          intro ps l T T1 h1 h2
          simp only [posOf] at h1
          split at h1
          · simp at h1; subst h1
            cases l with
            | nil => simp [putArgs] at h2
            | cons a l => simp only [putArgs] at h2; simp [ih _ _ _ _ (by assumption) h2]
          · cases h1
      have hm := hlen _ _ _ _ _ hps hp
      have hal := ha.length
      simp only [Array.length_toList, List.length_range] at hm hal
      have hle : fn.params.size + fn.nfree ≤ fn.ntmps := by
        rcases Nat.eq_zero_or_pos (fn.params.size + fn.nfree) with h0 | h0
        · omega
        · have := posOf_range (m := 0) hps (fn.params.size + fn.nfree - 1) (by simp; omega)
          omega
      obtain ⟨q1, q2⟩ := enter_slots (vs := vs) (n := fn.ntmps) (m := fn.params.size + fn.nfree) (by omega) hle
      obtain ⟨hT0, _⟩ := putArgs_known hps hp ha (hT00 (vs ++ Array.replicate (fn.ntmps - vs.size) undef)) q1 hnt q2
      have hfr : Frame.enter P g vs .normal = at_ (Frame.enter P g vs .normal) (vs ++ Array.replicate (fn.ntmps - vs.size) undef) [] (.code code :: []) := by
        simp [Frame.enter, at_, hfn, hbody]
      have hnb : run b T0 H ≠ .bad := by rw [hr]; rcases hth with rfl | rfl <;> simp
      obtain ⟨T2, H2, e1, σ', w', tm', rs', e2, e3, e4, e5, e6, _, e7⟩ := hrun b T0 H hnb fn.ntmps B code (Frame.enter P g vs .normal) [] (c :: cs) [] σ w _ hcode (.inl rfl) q1 hnt h hT0
      rw [hr] at e1 e7
      have hTH : T2 = T' ∧ H2 = H' := by
        rcases hth with rfl | rfl <;> simp [R.th] at e1 <;> exact ⟨e1.1.symm, e1.2.symm⟩
      obtain ⟨rfl, rfl⟩ := hTH
      rw [List.append_nil] at e7
      -- to the returning frame
      have hret : ∃ td, Steps P (lone (at_ (Frame.enter P g vs .normal) (vs ++ Array.replicate (fn.ntmps - vs.size) undef) [] (.code code :: [])) (c :: cs) w)
          (lone { at_ (Frame.enter P g vs .normal) tm' (rs'.map mkMark) td with mode := .returning } (c :: cs) w') := by
        rcases hth with rfl | rfl
        · obtain ⟨td, hs⟩ := e7
          exact ⟨_, hs.trans (.one (s_ret rfl))⟩
        · exact ⟨_, Steps.trans e7 (.one (s_end rfl))⟩
      obtain ⟨td, hs⟩ := hret
      obtain ⟨w2, f1, f2, f3⟩ := unmark (fr := Frame.enter P g vs .normal) (td := td) (cs := c :: cs) (tm := tm') rs' w' e3 e4 e6
      obtain ⟨u, g1, g2⟩ := results_sound f1 e5 e2 hnt hres hv
      refine ⟨σ', w2, u, f1, f2, g2, ?_⟩
      rw [hfr]
      exact hs.trans (f3.trans (.one (s_return (fr := Frame.enter P g vs .normal) hfn rfl g1)))
    · cases hcf

theorem loop_rec (h : HRel P B σ H w) {b : Pos} {s : LS} {j : Option AC} {T0 : AT} {ps : List Pos} {asg body : AC} (hb : H.bl.get b = some (.loop s j T0 ps asg body)) {L : Loc} (hL : σ b = some L) :
    LoopAt P σ w L s j T0 ps asg body ∧ H.key b = some (false, b) ∧ L.b < w.heap.size := by
  have hk : H.key b = some (false, b) := by simp [AH.key, hb]
  obtain ⟨L', hL', _, hlt, hr⟩ := h.at_ b _ hb (by simp [hk])
  rw [hL] at hL'; cases hL'
  exact ⟨hr, hk, hlt⟩

theorem run_getLoop {l : Nat} {r : Loop} (h : w.heap[l]? = some (.loop r)) : (Instr.getLoop l).run P w = .ok r w := by simp [Instr.getLoop, getObj, Sem.run, h]
theorem run_setLoop {l : Nat} {r : Loop} (h : w.heap[l]? = some (.loop r)) (o : Obj) : (setObj l o).run P w = .ok () { w with heap := w.heap.setIfInBounds l o } := by simp [setObj, Sem.run, h]

/-- a round of a loop over a function -/
theorem round_ok {run : AC → AT → AH → R} (hrun : Sound P run) {b : Pos} {T0 T1 T2 : AT} {ps : List Pos} {asg body : AC} {args : List AV} {H1 : AH} (hb : H.bl.get b = some (.loop .ready none T0 ps asg body)) (hp : putArgs T0 ps args = some T1)
    (hasg : run asg T1 H = .fin T2 H1) {T0' : AT} {ps' : List Pos} {asg' body' : AC} (hb1 : H1.bl.get b = some (.loop .ready none T0' ps' asg' body')) {rb : R}
    (hbody : run body T2 { H1 with bl := H1.bl.set (some (.loop .busy none T0' ps' asg' body')) b } = rb) {j : Option AC} {H2 : AH} (hj : jumpOf rb = some (j, H2))
    {q : Option AC} {T0'' : AT} {ps'' : List Pos} {asg'' body'' : AC} (hb2 : H2.bl.get b = some (.loop .busy q T0'' ps'' asg'' body'')) {v : AV} {H' : AH}
    (hres : (j = none ∧ v = .bool true ∧ H' = { H2 with bl := H2.bl.set (some (.loop .ready none T0'' ps'' asg'' body'')) b }) ∨ (∃ c, j = some c ∧ v = .bool false ∧ H' = { H2 with bl := H2.bl.set (some (.loop .done (some c) T0'' ps'' asg'' body'')) b }))
    (h : HRel P B σ H w) {L : Loc} (hL : σ b = some L) {vs : Array Value} (ha : VRelL σ args vs.toList) :
    InvOk P B σ H w (Instr.yield L.b vs) v H' := by
  obtain ⟨⟨r, r1, r2, r3, r4, r5, r6, r7, r8, r9, r10⟩, hk, hlt⟩ := loop_rec h hb hL
  obtain ⟨p1, p2, p3⟩ := putArgs_fold r4 hp ha r3 rfl r8
  have hsz : vs.size = r.params.size := by simpa using p3.symm
  have hfold : (r.params.zip vs).foldl (fun tmps (x : Tmp × Value) => tmps.setIfInBounds x.1 x.2) r.tmps = ((r.params.toList.zip vs.toList).foldl (fun tm (x : Nat × Value) => tm.setIfInBounds x.1 x.2) r.tmps) := by
    rw [← Array.foldl_toList, Array.toList_zip]
  refine .inr (.inr ⟨L.b, r.fn, (r.params.zip vs).foldl (fun tmps (x : Tmp × Value) => tmps.setIfInBounds x.1 x.2) r.tmps, r.assign, r.body, ?_, fun c cs => ?_⟩)
  · unfold Instr.yield
    simp only [Sem.run_bind, run_getLoop r1, Result.andThen_ok]
    rw [if_neg (by simp [hsz])]
    simp only [Sem.run_pure]
  · -- the assignment
    have hfr : ∀ t, Frame.round L.b r.fn t r.assign r.body .normal = at_ (Frame.round L.b r.fn t r.assign r.body .normal) t [] (.code r.assign :: [.beginRound, .code r.body]) := fun t => by simp [Frame.round, at_]
    have e0 := hrun asg T1 H (by rw [hasg]; simp) r.tmps.size B r.assign (Frame.round L.b r.fn ((r.params.zip vs).foldl (fun tmps (x : Tmp × Value) => tmps.setIfInBounds x.1 x.2) r.tmps) r.assign r.body .normal) [.beginRound, .code r.body] (c :: cs) [] σ w
      ((r.params.zip vs).foldl (fun tmps (x : Tmp × Value) => tmps.setIfInBounds x.1 x.2) r.tmps) r5 (.inr r9) (by rw [hfold]; exact p2) r8 h (by rw [hfold]; exact p1)
    rw [hasg] at e0
    obtain ⟨T2', H1', e1, σ1, w1, tm1, rs1, f1, f2, f3, f4, _, f6, f7⟩ := e0
    simp only [R.th, Option.some.injEq, Prod.mk.injEq] at e1
    obtain ⟨rfl, rfl⟩ := e1
    have := f6 r9
    subst this
    simp only [List.map_nil, List.nil_append, Ends] at f7
    -- the round begins
    have hL1 := f3.le b L hL
    obtain ⟨⟨q1, a1, a2, a3, a4, a5, a6, a7, a8, a9, a10⟩, hk1, hlt1⟩ := loop_rec f2 hb1 hL1
    have hbr : (Instr.beginRound L.b).run P w1 = .ok () { w1 with heap := w1.heap.setIfInBounds L.b (.loop { q1 with state := .busy }) } := by
      simp [Instr.beginRound, run_getLoop a1, run_setLoop a1, a2, lsOf]
    obtain ⟨g1, g2⟩ := obj_over (o := .loop { q1 with state := .busy }) f2 hL1 hk1 (x' := .loop .busy none T0' ps' asg' body') (fun _ _ _ _ _ hh => by cases hh)
      ⟨{ q1 with state := .busy }, by simp [hlt1], rfl, a3, a4, a5, a6, a7, a8, a9, a10⟩
    -- the body
    have e2 := hrun body T2 _ (by rw [hbody]; intro hh; rw [hh] at hj; simp [jumpOf] at hj) r.tmps.size B r.body (Frame.round L.b r.fn ((r.params.zip vs).foldl (fun tmps (x : Tmp × Value) => tmps.setIfInBounds x.1 x.2) r.tmps) r.assign r.body .normal) [] (c :: cs) [] σ1
      { w1 with heap := w1.heap.setIfInBounds L.b (.loop { q1 with state := .busy }) } tm1 r6 (.inr r10) f1 r8 g1 f4
    rw [hbody] at e2
    obtain ⟨T3, H3, e3, σ2, w2, tm2, rs2, i1, i2, i3, i4, _, i6, i7⟩ := e2
    have := i6 r10
    subst this
    simp only [List.map_nil, List.nil_append] at i7
    have hH3 : H3 = H2 := by
      cases rb <;> simp [R.th] at e3 <;> simp [jumpOf] at hj <;> (rw [← e3.2]; exact hj.2)
    subst hH3
    -- the round's end
    have hL2 := i3.le b L hL1
    obtain ⟨⟨q2, b1, b2, b3, b4, b5, b6, b7, b8, b9, b10⟩, hk2, hlt2⟩ := loop_rec i2 hb2 hL2
    have fin : ∀ (jump : Option Code) (td : List Item) (x' : AB) (u : Value), ((td = [] ∧ jump = none) ∨ (∃ r, td = .code .ret :: r ∧ jump = some .ret) ∨ (∃ id r, td = .code (.exit id) :: r ∧ exitTo id r = none ∧ jump = some (.exit id))) →
        Steps P (lone (at_ (Frame.round L.b r.fn ((r.params.zip vs).foldl (fun tmps (x : Tmp × Value) => tmps.setIfInBounds x.1 x.2) r.tmps) r.assign r.body .normal) tm1 [] (.code r.body :: [])) (c :: cs) { w1 with heap := w1.heap.setIfInBounds L.b (.loop { q1 with state := .busy }) })
          (lone (at_ (Frame.round L.b r.fn ((r.params.zip vs).foldl (fun tmps (x : Tmp × Value) => tmps.setIfInBounds x.1 x.2) r.tmps) r.assign r.body .normal) tm2 [] td) (c :: cs) w2) →
        (∀ e c v vs ex, x' ≠ .row e c v vs ex) → BRel P σ2 { w2 with heap := w2.heap.setIfInBounds L.b (.loop { q2 with state := if jump.isNone then .ready else .done, pending := jump }) } L x' →
        ∃ σ' w' u, HRel P B σ' { H3 with bl := H3.bl.set (some x') b } w' ∧ Ext σ H w σ' { H3 with bl := H3.bl.set (some x') b } w' ∧ VRel σ' (.bool jump.isNone) u ∧
          Steps P (lone (Frame.round L.b r.fn ((r.params.zip vs).foldl (fun tmps (x : Tmp × Value) => tmps.setIfInBounds x.1 x.2) r.tmps) r.assign r.body .normal) (c :: cs) w) (lone (c.finish u) cs w') := by
      intro jump td x' u htd hst hx' hbr'
      obtain ⟨k1, k2⟩ := obj_over (o := .loop { q2 with state := if jump.isNone then .ready else .done, pending := jump }) i2 hL2 hk2 hx' hbr'
      refine ⟨σ2, _, .bool jump.isNone, k1, f3.trans (g2.trans (i3.trans k2)), by simp [VRel], ?_⟩
      rw [hfr]
      refine f7.trans (.head (s_beginRound rfl hbr) (hst.trans (.one (s_leave (l := L.b) (jump := jump) rfl rfl htd ?_))))
      simp [Instr.endRound, run_getLoop b1, run_setLoop b1]
    rcases hres with ⟨rfl, rfl, rfl⟩ | ⟨cj, rfl, rfl, rfl⟩
    · cases rb with
      | fin T4 H4 =>
        have := fin none [] (.loop .ready none T0'' ps'' asg'' body'') (.bool true) (.inl ⟨rfl, rfl⟩) i7 (fun _ _ _ _ _ hh => by cases hh)
          ⟨{ q2 with state := .ready, pending := none }, by simp [hlt2], rfl, b3, b4, b5, b6, rfl, b8, b9, b10⟩
        simpa using this
      | ex _ _ _ => simp [jumpOf] at hj
      | ret _ _ => simp [jumpOf] at hj
      | bad => simp [jumpOf] at hj
    · cases rb with
      | fin T4 H4 => simp [jumpOf] at hj
      | ex id T4 H4 =>
        simp only [jumpOf, Option.some.injEq, Prod.mk.injEq] at hj
        obtain ⟨rfl, _⟩ := hj
        obtain ⟨td, htd, hst⟩ := i7.2 rfl
        have := fin (some (.exit id)) (.code (.exit id) :: td) (.loop .done (some (.exit id)) T0'' ps'' asg'' body'') (.bool false) (.inr (.inr ⟨id, td, rfl, htd, rfl⟩)) hst (fun _ _ _ _ _ hh => by cases hh)
          ⟨{ q2 with state := .done, pending := some (.exit id) }, by simp [hlt2], rfl, b3, b4, b5, b6, ⟨_, rfl, rfl⟩, b8, b9, b10⟩
        simpa using this
      | ret T4 H4 =>
        simp only [jumpOf, Option.some.injEq, Prod.mk.injEq] at hj
        obtain ⟨rfl, _⟩ := hj
        obtain ⟨td, hst⟩ := i7
        have := fin (some .ret) (.code .ret :: td) (.loop .done (some .ret) T0'' ps'' asg'' body'') (.bool false) (.inr (.inl ⟨td, rfl, rfl⟩)) hst (fun _ _ _ _ _ hh => by cases hh)
          ⟨{ q2 with state := .done, pending := some .ret }, by simp [hlt2], rfl, b3, b4, b5, b6, ⟨_, rfl, rfl⟩, b8, b9, b10⟩
        simpa using this
      | bad => simp [jumpOf] at hj
end
end Go.AM
