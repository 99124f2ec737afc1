/- THE ABSTRACT MACHINE: the run of code is the model's. -/
import Derived.Test.YtehgboiiphlfeaaGreatDoorAmDraw10
namespace Go.AM
open Go

section
variable {P : Program}

theorem lone_todo {fr : Frame} {tm tm' : Array Value} {df df' : List Deferred} {k k' : List Item} {cs : List Frame} {w w' : World} (h : lone (at_ fr tm df k) cs w = lone (at_ fr tm' df' k') cs w') : k = k' := by
  have := congrArg (fun m => m.gs[0]?.map (·.frame.todo)) h
  simpa [lone, at_] using this

theorem exitTo_len {id : Nat} : ∀ {k k' : List Item}, exitTo id k = some k' → k'.length < k.length
  | [], k', h => by simp [exitTo] at h
  | x :: k, k', h => by
    cases x
    case inBlock id' =>
      simp only [exitTo] at h
      split at h
      · simp at h; subst h; simp
      · have := exitTo_len h; simp only [List.length_cons]; omega
    all_goals (simp only [exitTo] at h; have := exitTo_len h; simp only [List.length_cons]; omega)

theorem Steps.swap {m0 m0' m1 X : Machine} (h : step P m0 = .next m1) (h' : step P m0' = .next m1) (hs : Steps P m0 X) (hne : m0 ≠ X) : Steps P m0' X := by
  obtain ⟨n, hn⟩ := hs
  cases n with
  | zero => simp only [runN] at hn; cases hn; exact absurd rfl hne
  | succ n =>
    simp only [runN, h] at hn
    exact .head h' ⟨n, hn⟩

theorem Ends.swapLoop {fr : Frame} {tm tm2 : Array Value} {df df2 : List Deferred} {k : List Item} {cs : List Frame} {w w2 : World} {c : Code} {r : R}
    (h : Ends P (lone (at_ fr tm df (.code (.loop c) :: k)) cs w) fr df2 k cs tm2 w2 r) : Ends P (lone (at_ fr tm df (.inLoop c :: k)) cs w) fr df2 k cs tm2 w2 r := by
  have sw : ∀ {X : Machine}, Steps P (lone (at_ fr tm df (.code (.loop c) :: k)) cs w) X → lone (at_ fr tm df (.code (.loop c) :: k)) cs w ≠ X → Steps P (lone (at_ fr tm df (.inLoop c :: k)) cs w) X :=
    fun hs hne => Steps.swap s_loop s_inLoop hs hne
  cases r with
  | bad => exact h
  | fin T H =>
    exact sw h fun e => by
      have := congrArg List.length (lone_todo e)
      simp at this
  | ex id T H =>
    refine ⟨fun k' hk => sw (h.1 k' hk) fun e => ?_, fun hn => ?_⟩
    · have h1 := congrArg List.length (lone_todo e)
      have h2 := exitTo_len hk
      simp at h1
      omega
    · obtain ⟨td, a, b⟩ := h.2 hn
      exact ⟨td, a, sw b fun e => by have := lone_todo e; simp at this⟩
  | ret T H =>
    obtain ⟨td, a⟩ := h
    exact ⟨td, sw a fun e => by have := lone_todo e; simp at this⟩

theorem Ends.lift {m : Machine} {fr : Frame} {tm : Array Value} {df : List Deferred} {k k1 : List Item} {cs : List Frame} {w : World} {r : R} (h : Ends P m fr df k1 cs tm w r) (hk : ∀ id, exitTo id k1 = exitTo id k)
    (hr : ∀ T H, r ≠ .fin T H) : Ends P m fr df k cs tm w r := by
  cases r with
  | bad => exact h
  | fin T H => exact absurd rfl (hr T H)
  | ex id T H =>
    refine ⟨fun k' hk' => h.1 k' (by rw [hk]; exact hk'), fun hn => h.2 (by rw [hk]; exact hn)⟩
  | ret T H => exact h

theorem Ends.mark {m : Machine} {fr : Frame} {tm : Array Value} {df : List Deferred} {k : List Item} {cs : List Frame} {w : World} {r : R} {r1 r2 : List Nat} (h : Ends P m fr (r2.map mkMark ++ (r1.map mkMark ++ df)) k cs tm w r) :
    Ends P m fr ((r2 ++ r1).map mkMark ++ df) k cs tm w r := by
  rw [List.map_append, List.append_assoc]; exact h

/-- two runs, one behind the other -/
theorem Comes'.seq {B nt : Nat} {c1 c2 c : AC} {σ : Val} {H : AH} {w : World} {m m1 : Machine} {fr : Frame} {df : List Deferred} {k : List Item} {cs : List Frame} {r : R} {σ1 : Val} {w1 : World} {H1 : AH} {rs1 : List Nat}
    (hE : Ext σ H w σ1 H1 w1) (hM : Marked w w1 σ1 H1 rs1) (h0 : noRng c = true → rs1 = []) (hs : Steps P m m1) (h2 : Comes' P B nt c2 σ1 H1 w1 m1 fr (rs1.map mkMark ++ df) k cs r) (hc : noRng c = true → noRng c2 = true) : Comes' P B nt c σ H w m fr df k cs r := by
  obtain ⟨T', H', e1, σ', w', tm', rs2, e2, e3, e4, e5, e6, e7, e8⟩ := h2
  exact ⟨T', H', e1, σ', w', tm', rs2 ++ rs1, e2, e3, hE.trans e4, e5, hM.seq e4 e6 hE.size, fun h => by rw [e7 (hc h), h0 h]; rfl, (Ends.of_steps hs e8).mark⟩

theorem Comes'.head {B nt : Nat} {c1 c : AC} {σ : Val} {H : AH} {w : World} {m m1 : Machine} {fr : Frame} {df : List Deferred} {k : List Item} {cs : List Frame} {r : R} (hs : Steps P m m1) (h : Comes' P B nt c1 σ H w m1 fr df k cs r) (hc : noRng c = true → noRng c1 = true) :
    Comes' P B nt c σ H w m fr df k cs r := by
  obtain ⟨T', H', e1, σ', w', tm', rs2, e2, e3, e4, e5, e6, e7, e8⟩ := h
  exact ⟨T', H', e1, σ', w', tm', rs2, e2, e3, e4, e5, e6, fun h => e7 (hc h), Ends.of_steps hs e8⟩

theorem Comes'.lift {B nt : Nat} {c1 c : AC} {σ : Val} {H : AH} {w : World} {m : Machine} {fr : Frame} {df : List Deferred} {k k1 : List Item} {cs : List Frame} {r : R} (h : Comes' P B nt c1 σ H w m fr df k1 cs r) (hk : ∀ id, exitTo id k1 = exitTo id k)
    (hr : ∀ T H, r ≠ .fin T H) (hc : noRng c = true → noRng c1 = true) : Comes' P B nt c σ H w m fr df k cs r := by
  obtain ⟨T', H', e1, σ', w', tm', rs2, e2, e3, e4, e5, e6, e7, e8⟩ := h
  exact ⟨T', H', e1, σ', w', tm', rs2, e2, e3, e4, e5, e6, fun h => e7 (hc h), e8.lift hk hr⟩

/-- a run that came to its end -/
theorem Comes'.fin {B nt : Nat} {c : AC} {σ : Val} {H : AH} {w : World} {m : Machine} {fr : Frame} {df : List Deferred} {k : List Item} {cs : List Frame} {T1 : AT} {H1 : AH} (h : Comes' P B nt c σ H w m fr df k cs (.fin T1 H1)) :
    ∃ σ' w' tm' rs, tm'.size = nt ∧ HRel P B σ' H1 w' ∧ Ext σ H w σ' H1 w' ∧ TRel σ' T1 tm' ∧ Marked w w' σ' H1 rs ∧ (noRng c = true → rs = []) ∧ Steps P m (lone (at_ fr tm' (rs.map mkMark ++ df) k) cs w') := by
  obtain ⟨T', H', e1, σ', w', tm', rs2, e2, e3, e4, e5, e6, e7, e8⟩ := h
  simp only [R.th, Option.some.injEq, Prod.mk.injEq] at e1
  obtain ⟨rfl, rfl⟩ := e1
  exact ⟨σ', w', tm', rs2, e2, e3, e4, e5, e6, e7, e8⟩

theorem codeOf_exit {n nt id : Nat} : ∀ {c : Code}, codeOf P n c = some (.exit id) → codeOf P nt c = some (.exit id) := by
  intro c
  induction c with
  | exit j => intro h; simp only [codeOf] at h ⊢; exact h
  | scope a ih => intro h; simp only [codeOf] at h ⊢; exact ih h
  | region _ ops d =>
    intro h; simp only [codeOf] at h
    split at h
    · (repeat' split at h) <;> simp at h
    · cases h
  | rangeFunc f ps a b =>
    intro h; simp only [codeOf] at h
    split at h
    · (repeat' split at h) <;> simp at h
    · cases h
  | seq a b => intro h; simp only [codeOf] at h; split at h <;> simp at h
  | cond x a b => intro h; simp only [codeOf] at h; split at h <;> simp at h
  | block j a => intro h; simp [codeOf] at h
  | loop a => intro h; simp [codeOf] at h
  | _ => intro h; simp [codeOf] at h

theorem codeOf_ret {n nt : Nat} : ∀ {c : Code}, codeOf P n c = some .ret → codeOf P nt c = some .ret := by
  intro c
  induction c with
  | ret => intro _; simp only [codeOf]
  | scope a ih => intro h; simp only [codeOf] at h ⊢; exact ih h
  | region _ ops d =>
    intro h; simp only [codeOf] at h
    split at h
    · (repeat' split at h) <;> simp at h
    · cases h
  | rangeFunc f ps a b =>
    intro h; simp only [codeOf] at h
    split at h
    · (repeat' split at h) <;> simp at h
    · cases h
  | seq a b => intro h; simp only [codeOf] at h; split at h <;> simp at h
  | cond x a b => intro h; simp only [codeOf] at h; split at h <;> simp at h
  | block j a => intro h; simp [codeOf] at h
  | loop a => intro h; simp [codeOf] at h
  | _ => intro h; simp [codeOf] at h

section
variable {fr : Frame} {tm : Array Value} {df : List Deferred} {k : List Item} {cs : List Frame} {w w' : World}
theorem s_rangeFunc_value {g : Operand} {ps : Array Tmp} {assign body : Code} {l : Nat} {mark : List Deferred} {w₁ w₁' w₂ : World} {d : Deferred} {u : Value}
    (he : (Instr.enterLoop fr.fn tm ps assign body fr.roundOf).run P w = .ok (l, mark) w₁)
    (hres : (resolve (opv tm) { callee := .value g, args := #[.const (.func (.yield l) #[] #[])], argTypes := #[] } 0).run P w₁ = .ok d w₁') (hinv : (invoke d.target d.args).run P w₁' = .ok (.value u) w₂) :
    step P (lone (at_ fr tm df (.code (.rangeFunc g ps assign body) :: k)) cs w) =
      .next (lone (at_ fr tm (mark ++ df) (.endRangeFunc l :: k)) cs w₂) :=
  step_lone_go (by
    have hev := at_eval fr tm (mark ++ df) (.inRangeFunc l :: k)
    simp only [at_] at hev
    simp [stepG, stepG.exec, at_, Sem.runT_eq, he, GStep.bare_after, stepG.apply, hev, Sem.run_bind, hres, hinv, Result.andThen, Frame.finish])
theorem s_rangeFunc_round {g : Operand} {ps : Array Tmp} {assign body : Code} {l : Nat} {mark : List Deferred} {w₁ w₁' w₂ : World} {d : Deferred} {l2 : Nat} {f : FuncId} {t : Array Value} {a b : Code}
    (he : (Instr.enterLoop fr.fn tm ps assign body fr.roundOf).run P w = .ok (l, mark) w₁)
    (hres : (resolve (opv tm) { callee := .value g, args := #[.const (.func (.yield l) #[] #[])], argTypes := #[] } 0).run P w₁ = .ok d w₁') (hinv : (invoke d.target d.args).run P w₁' = .ok (.round l2 f t a b) w₂) :
    step P (lone (at_ fr tm df (.code (.rangeFunc g ps assign body) :: k)) cs w) =
      .next (lone (Frame.round l2 f t a b .normal) (at_ fr tm (mark ++ df) (.inRangeFunc l :: k) :: cs) w₂) :=
  step_lone_go (by
    have hev := at_eval fr tm (mark ++ df) (.inRangeFunc l :: k)
    simp only [at_] at hev
    simp [stepG, stepG.exec, at_, Sem.runT_eq, he, GStep.bare_after, stepG.apply, hev, Sem.run_bind, hres, hinv, Result.andThen])
end

theorem not_foot_new {B : Nat} {σ : Val} {H : AH} {w : World} (h : HRel P B σ H w) : ¬ Foot σ H w.heap.size := by
  rintro ⟨b, L, hs, hL, e⟩
  obtain ⟨x, hx⟩ := key_isSome_bl hs
  obtain ⟨L', hL', _, hlt, _⟩ := h.at_ b x hx hs
  rw [hL] at hL'; cases hL'
  omega

/-- a loop over a function -/
theorem rng_ok {tab ext} (E : Env P tab ext) {n : Nat} (IH : Sound P (exec tab ext n)) {f : Operand} {ps : Array Tmp} {a b : Code} {f' : AX} {ps' : List Pos} {a' b' : AC} {nt B : Nat} {T : AT} {H : AH} {σ : Val} {w : World} {tm : Array Value}
    (hf : axOf nt f = some f') (hps : posOf nt ps.toList = some ps') (ha : codeOf P nt a = some a') (hb' : codeOf P nt b = some b') (na : noRng a' = true) (nb : noRng b' = true) (hne : exec tab ext (n + 1) (.rng f' ps' a' b') T H ≠ .bad)
    {fr : Frame} (hr : fr.roundOf = none) (k : List Item) (cs : List Frame) (df : List Deferred) (hn : tm.size = nt) (hb : nt < 1000000000) (h : HRel P B σ H w) (hT : TRel σ T tm) :
    Comes' P B nt (.rng f' ps' a' b') σ H w (lone (at_ fr tm df (.code (.rangeFunc f ps a b) :: k)) cs w) fr df k cs (exec tab ext (n + 1) (.rng f' ps' a' b') T H) := by
  simp only [exec] at hne ⊢
  cases hcall : callWith (exec tab ext n) tab ext (f'.ev T) [.yld H.nm] (H.new (.loop .ready none T ps' a' b')).2 with
  | none => simp [hcall] at hne
  | some x =>
    obtain ⟨v, H'⟩ := x
    simp only [hcall] at hne ⊢
    -- the loop is entered
    obtain ⟨hA, eA⟩ := h.allocOther (.deferred (some []))
    have hAsz : (w.alloc (.deferred (some []))).heap.size = w.heap.size + 1 := by simp
    let rc : Loop := { state := .ready, pending := none, fn := fr.fn, tmps := tm, params := ps, assign := a, body := b, defers := w.heap.size }
    obtain ⟨hB, eB⟩ := hA.new (.loop .ready none T ps' a' b') (.loop rc) ⟨(w.alloc (.deferred (some []))).heap.size, 0, 0, 0⟩ rfl
      ⟨rc, heap_alloc_new _ _, rfl, TRel.mono (Val.le_set _ (h.nm_val)) hT, by simpa [rc, hn] using hps, by simpa [rc, hn] using ha, by simpa [rc, hn] using hb', rfl, by simpa [rc, hn] using hb, na, nb⟩ (fun _ _ _ _ _ hx => by cases hx)
    have hent : (Instr.enterLoop fr.fn tm ps a b fr.roundOf).run P w = .ok (w.heap.size + 1, [mkMark w.heap.size]) ((w.alloc (.deferred (some []))).alloc (.loop rc)) := by
      rw [hr]
      have n1 : ∀ (w : World) (o : Obj), (newObj o).run P w = .ok w.heap.size (w.alloc o) := fun _ _ => rfl
      simp only [Instr.enterLoop, Sem.run_bind, n1, Result.andThen, Sem.run_pure, World.size_alloc, mkMark, rc]
    have hfr := VRel.mono eB.le _ _ (ax_rel hT hn hb hf)
    have hyl : VRelL (σ.set H.nm ⟨(w.alloc (.deferred (some []))).heap.size, 0, 0, 0⟩) [.yld H.nm] (#[Value.func (.yield (w.heap.size + 1)) #[] #[]] : Array Value).toList := by
      simp only [VRelL, VRel]
      exact ⟨_, [], rfl, ⟨_, Val.set_eq _ _ _, by rw [hAsz]⟩, rfl⟩
    obtain ⟨d, e1, e2⟩ := call_ok E IH hcall hB hfr hyl
    have hres : (resolve (opv tm) { callee := .value f, args := #[.const (.func (.yield (w.heap.size + 1)) #[] #[])], argTypes := #[] } 0).run P ((w.alloc (.deferred (some []))).alloc (.loop rc)) = .ok d ((w.alloc (.deferred (some []))).alloc (.loop rc)) := by
      rw [← e1]
      simp [resolve, opv]
    have hcalled : ∃ σ' w', HRel P B σ' H' w' ∧ Ext (σ.set H.nm ⟨(w.alloc (.deferred (some []))).heap.size, 0, 0, 0⟩) (H.new (.loop .ready none T ps' a' b')).2 ((w.alloc (.deferred (some []))).alloc (.loop rc)) σ' H' w' ∧
        Steps P (lone (at_ fr tm df (.code (.rangeFunc f ps a b) :: k)) cs w) (lone (at_ fr tm (mkMark w.heap.size :: df) (.endRangeFunc (w.heap.size + 1) :: k)) cs w') := by
      rcases e2 with ⟨u, q1, q3, q2⟩ | ⟨g, vs, q1, q2⟩ | ⟨l, f2, t, a2, b2, q1, q2⟩
      · subst q3
        exact ⟨_, _, hB, Ext.refl _ _ _, .one (s_rangeFunc_value hent hres q1)⟩
      · obtain ⟨σ', w', u, g1, g2, g3, g4⟩ := q2 (at_ fr tm ([mkMark w.heap.size] ++ df) (.inRangeFunc (w.heap.size + 1) :: k)) cs
        exact ⟨σ', w', g1, g2, .head (s_rangeFunc hent hres q1) (by rw [finish_rangeFunc] at g4; exact g4)⟩
      · obtain ⟨σ', w', u, g1, g2, g3, g4⟩ := q2 (at_ fr tm ([mkMark w.heap.size] ++ df) (.inRangeFunc (w.heap.size + 1) :: k)) cs
        exact ⟨σ', w', g1, g2, .head (s_rangeFunc_round hent hres q1) (by rw [finish_rangeFunc] at g4; exact g4)⟩
    obtain ⟨σ2, w2, c1, c2, c3⟩ := hcalled
    cases hbl : H'.bl.get H.nm with
    | none => simp [hbl] at hne
    | some x =>
      cases x with
      | row _ _ _ _ _ => simp [hbl] at hne
      | map _ => simp [hbl] at hne
      | loop s j T2 ps2 a2 b2 =>
        simp only [hbl] at hne ⊢
        have hL2 := c2.le _ _ (Val.set_eq σ H.nm ⟨(w.alloc (.deferred (some []))).heap.size, 0, 0, 0⟩)
        obtain ⟨⟨r, r1, r2, r3, r4, r5, r6, r7, r8, r9, r10⟩, hk2, hlt2⟩ := loop_rec c1 hbl hL2
        simp only [hAsz] at r1 hlt2
        have hs : s ≠ .busy := by intro e; subst e; simp at hne
        have hst : r.state ≠ .busy := by rw [r2]; cases s <;> first | exact absurd rfl hs | simp [lsOf]
        have hend : (Instr.endLoop (w.heap.size + 1)).run P w2 = .ok r.pending { w2 with heap := w2.heap.setIfInBounds (w.heap.size + 1) (.loop { r with state := .exhausted }) } := by
          simp [Instr.endLoop, run_getLoop r1, run_setLoop r1, hst]
        obtain ⟨d1, d2⟩ := obj_drop c1 hL2 hk2 (.loop { r with state := .exhausted })
        simp only [hAsz] at d1 d2
        obtain ⟨W, hW⟩ : ∃ W : World, W = { w2 with heap := w2.heap.setIfInBounds (w.heap.size + 1) (.loop { r with state := .exhausted }) } := ⟨_, rfl⟩
        rw [← hW] at d1 d2 hend
        -- all that was done
        have eAll := (eA.trans (eB.trans (c2.trans d2)))
        have hnf0 : ¬ Foot (σ.set H.nm ⟨(w.alloc (.deferred (some []))).heap.size, 0, 0, 0⟩) (H.new (.loop .ready none T ps' a' b')).2 w.heap.size := fun hf =>
          not_foot_new h (eB.foot _ (by simp) hf)
        have hnf : ¬ Foot σ2 { H' with bl := H'.bl.set none H.nm } w.heap.size := fun hf => hnf0 ((c2.trans d2).foot _ (by simp; omega) hf)
        have hmk : w2.heap[w.heap.size]? = some (.deferred (some [])) := by
          rw [c2.keep _ (by simp; omega) hnf0, heap_alloc_old _ _ (by simp)]
          exact heap_alloc_new _ _
        have hmarked : Marked w W σ2 { H' with bl := H'.bl.set none H.nm } [w.heap.size] := by
          refine ⟨by simp, fun q hq => ?_⟩
          simp only [List.mem_singleton] at hq
          subst hq
          refine ⟨Nat.le_refl _, by rw [hW]; simp; omega, ?_, hnf⟩
          rw [hW]
          simp [Array.getElem?_setIfInBounds, hmk]
        have hTend : TRel σ2 T tm := TRel.mono eAll.le hT
        have hsteps : ∀ jump, r.pending = jump → Steps P (lone (at_ fr tm df (.code (.rangeFunc f ps a b) :: k)) cs w) (lone (at_ fr tm (mkMark w.heap.size :: df) ((jump.map Item.code).toList ++ k)) cs W) := by
          intro jump hj
          subst hj
          exact c3.trans (.one (s_endRangeFunc (fr := fr) (tm := tm) (df := mkMark w.heap.size :: df) (k := k) (cs := cs) hend))
        have hrng : noRng (.rng f' ps' a' b') = true → [w.heap.size] = [] := by simp [noRng]
        cases j with
        | none =>
          simp only at r7
          have hsteps := hsteps none r7
          have hgoal : Comes' P B nt (.rng f' ps' a' b') σ H w (lone (at_ fr tm df (.code (.rangeFunc f ps a b) :: k)) cs w) fr df k cs (.fin T { H' with bl := H'.bl.set none H.nm }) :=
            ⟨T, _, rfl, σ2, _, tm, [w.heap.size], hn, d1, eAll, hTend, hmarked, hrng, hsteps⟩
          cases s <;> first
            | (exact absurd rfl hs)
            | exact hgoal
        | some c =>
          obtain ⟨cc, hp, hcc⟩ := r7
          have hsteps := hsteps (some cc) hp
          have hgo : ∀ (c' : AC), codeOf P nt cc = some c' → noRng c' = true → exec tab ext n c' T { H' with bl := H'.bl.set none H.nm } ≠ .bad →
              Comes' P B nt (.rng f' ps' a' b') σ H w (lone (at_ fr tm df (.code (.rangeFunc f ps a b) :: k)) cs w) fr df k cs (exec tab ext n c' T { H' with bl := H'.bl.set none H.nm }) := by
            intro c' hc' _ hne'
            have h2 := IH c' T _ hne' nt B cc fr k cs (mkMark w.heap.size :: df) σ2 _ tm hc' (.inl hr) hn hb d1 hTend
            exact Comes'.seq (c1 := c') (c2 := c') (rs1 := [w.heap.size]) eAll hmarked hrng hsteps h2 (by simp [noRng])
          cases s <;> first
            | (exact absurd rfl hs)
            | (cases c <;> simp only at hne ⊢ <;> first
                | (exact absurd rfl hne)
                | (exact hgo _ (codeOf_exit hcc) rfl hne)
                | (exact hgo _ (codeOf_ret hcc) rfl hne))

/-- a piece of code -/
theorem code_ok {tab ext} (E : Env P tab ext) {n : Nat} (IH : Sound P (exec tab ext n)) : ∀ (code : Code) (c : AC) (T : AT) (H : AH), exec tab ext (n + 1) c T H ≠ .bad →
    ∀ (nt B : Nat) (fr : Frame) (k : List Item) (cs : List Frame) (df : List Deferred) (σ : Val) (w : World) (tm : Array Value), codeOf P nt code = some c → (fr.roundOf = none ∨ noRng c = true) →
    tm.size = nt → nt < 1000000000 → HRel P B σ H w → TRel σ T tm → Comes' P B nt c σ H w (lone (at_ fr tm df (.code code :: k)) cs w) fr df k cs (exec tab ext (n + 1) c T H) := by
  intro code
  induction code <;> intro c T H hne nt B fr k cs df σ w tm hc hrd hn hb h hT
  case skip =>
    simp only [codeOf, Option.some.injEq] at hc; subst hc
    exact ⟨T, H, rfl, σ, w, tm, [], hn, h, Ext.refl _ _ _, hT, Marked.nil _ _ _ _, fun _ => rfl, .one s_skip⟩
  case exit id =>
    simp only [codeOf, Option.some.injEq] at hc; subst hc
    exact ⟨T, H, rfl, σ, w, tm, [], hn, h, Ext.refl _ _ _, hT, Marked.nil _ _ _ _, fun _ => rfl, fun k' hk => .one (s_exit hk), fun hn => ⟨k, hn, Steps.refl _ _⟩⟩
  case ret =>
    simp only [codeOf, Option.some.injEq] at hc; subst hc
    exact ⟨T, H, rfl, σ, w, tm, [], hn, h, Ext.refl _ _ _, hT, Marked.nil _ _ _ _, fun _ => rfl, k, Steps.refl _ _⟩
  case region id ops draw =>
    simp only [codeOf] at hc
    split at hc
    · rename_i l hl
      have plain : ∀ (hd : draw = true → drawOk ops l = true), c = .ops l → Comes' P B nt c σ H w (lone (at_ fr tm df (.code (.region id ops draw) :: k)) cs w) fr df k cs (exec tab ext (n + 1) c T H) := by
        intro hd hcl
        subst hcl
        obtain ⟨T', H', e1, σ', w', tm', a1, a2, a3, a4, a5⟩ := region_ok (id := id) (draw := draw) E IH hl hd hne h hT hn hb fr df k cs
        have hx : exec tab ext (n + 1) (.ops l) T H = .fin T' H' := e1
        rw [hx]
        exact ⟨T', H', rfl, σ', w', tm', [], a1, a2, a3, a4, Marked.nil _ _ _ _, fun _ => rfl, a5⟩
      split at hc
      · rename_i hdr
        split at hc
        · rename_i hd
          simp only [Option.some.injEq] at hc
          exact plain (fun _ => hd) hc.symm
        · split at hc
          · rename_i m dl hdo
            simp only [Option.some.injEq] at hc; subst hc
            subst hdr
            have hx : exec tab ext (n + 1) (.dops m dl) T H = match H.pk with
              | none => match execD (callWith (exec tab ext n) tab ext) dl T (H.reserve m) with
                | .fin T H => .fin T H.pop
                | _ => .bad
              | some _ => .bad := rfl
            rw [hx] at hne ⊢
            cases hpk : H.pk with
            | some _ => rw [hpk] at hne; exact absurd rfl hne
            | none =>
              rw [hpk] at hne
              simp only at hne ⊢
              obtain ⟨T', H', e1, σ', w', tm', a1, a2, a3, a4, a5⟩ := dregion_ok (id := id) E IH (fun r x => call_plus (exec_plus tab ext n)) hl hdo hpk (fun e => by rw [e] at hne; exact hne rfl) h hT hn hb fr df k cs
              rw [e1]
              exact ⟨T', H'.pop, rfl, σ', w', tm', [], a1, a2, a3, a4, Marked.nil _ _ _ _, fun _ => rfl, a5⟩
          · cases hc
      · rename_i hdr
        simp only [Option.some.injEq] at hc
        exact plain (fun h => absurd h hdr) hc.symm
    · cases hc
  case seq a b _ _ =>
    simp only [codeOf] at hc
    split at hc
    · rename_i a' b' ha hb'
      simp only [Option.some.injEq] at hc; subst hc
      have hra : fr.roundOf = none ∨ noRng a' = true := hrd.imp id fun h => by simp only [noRng, Bool.and_eq_true] at h; exact h.1
      have hrb : fr.roundOf = none ∨ noRng b' = true := hrd.imp id fun h => by simp only [noRng, Bool.and_eq_true] at h; exact h.2
      have nra : noRng (.seq a' b') = true → noRng a' = true := fun h => by simp only [noRng, Bool.and_eq_true] at h; exact h.1
      have nrb : noRng (.seq a' b') = true → noRng b' = true := fun h => by simp only [noRng, Bool.and_eq_true] at h; exact h.2
      have hx : exec tab ext (n + 1) (.seq a' b') T H = match exec tab ext n a' T H with | .fin T H => exec tab ext n b' T H | r => r := rfl
      rw [hx] at hne ⊢
      have h1 : exec tab ext n a' T H ≠ .bad → _ := fun hne1 => IH a' T H hne1 nt B a fr (.code b :: k) cs df σ w tm ha hra hn hb h hT
      cases hr : exec tab ext n a' T H with
      | bad => simp [hr] at hne
      | fin T1 H1 =>
        simp only [hr] at hne ⊢
        have h1 := h1 (by rw [hr]; simp)
        rw [hr] at h1
        obtain ⟨σ1, w1, tm1, rs1, e1, e2, e3, e4, e5, e6, e7⟩ := h1.fin
        exact Comes'.seq (c1 := b') e3 e5 (fun h => e6 (nra h)) (Steps.trans (.one s_seq) e7) (IH b' T1 H1 hne nt B b fr k cs (rs1.map mkMark ++ df) σ1 w1 tm1 hb' hrb e1 hb e2 e4) nrb
      | ex i1 T1 H1 =>
        have h1 := h1 (by rw [hr]; simp)
        rw [hr] at h1
        exact (h1.head (.one s_seq) nra).lift (fun _ => rfl) (by simp) id
      | ret T1 H1 =>
        have h1 := h1 (by rw [hr]; simp)
        rw [hr] at h1
        exact (h1.head (.one s_seq) nra).lift (fun _ => rfl) (by simp) id
    · cases hc
  case cond x a b _ _ =>
    simp only [codeOf] at hc
    split at hc
    · rename_i x' a' b' hx ha hb'
      simp only [Option.some.injEq] at hc; subst hc
      have hra : fr.roundOf = none ∨ noRng a' = true := hrd.imp id fun h => by simp only [noRng, Bool.and_eq_true] at h; exact h.1
      have hrb : fr.roundOf = none ∨ noRng b' = true := hrd.imp id fun h => by simp only [noRng, Bool.and_eq_true] at h; exact h.2
      have hxx : exec tab ext (n + 1) (.cond x' a' b') T H = match x'.ev T with | .bool true => exec tab ext n a' T H | .bool false => exec tab ext n b' T H | _ => .bad := rfl
      rw [hxx] at hne ⊢
      have hv := ax_rel hT hn hb hx
      cases hxv : x'.ev T <;> simp only [hxv] at hne hv ⊢ <;> first | (exact absurd rfl hne) | skip
      rename_i t
      have hbx := bool_of hv
      cases t with
      | true =>
        simp only at hne ⊢
        exact (IH a' T H hne nt B a fr k cs df σ w tm ha hra hn hb h hT).head (.one (by have := s_cond (P := P) (fr := fr) (df := df) (k := k) (cs := cs) (w := w) (x := a) (y := b) hbx; simpa using this)) fun h => by simp only [noRng, Bool.and_eq_true] at h; exact h.1
      | false =>
        simp only at hne ⊢
        exact (IH b' T H hne nt B b fr k cs df σ w tm hb' hrb hn hb h hT).head (.one (by have := s_cond (P := P) (fr := fr) (df := df) (k := k) (cs := cs) (w := w) (x := a) (y := b) hbx; simpa using this)) fun h => by simp only [noRng, Bool.and_eq_true] at h; exact h.2
    · cases hc
  case block id a _ =>
    simp only [codeOf, Option.map_eq_some_iff] at hc
    obtain ⟨a', ha, rfl⟩ := hc
    have hx : exec tab ext (n + 1) (.block id a') T H = match exec tab ext n a' T H with | .ex j T H => if Nat.beq j id then .fin T H else .ex j T H | r => r := rfl
    rw [hx] at hne ⊢
    have h1 : exec tab ext n a' T H ≠ .bad → _ := fun hne1 => IH a' T H hne1 nt B a fr (.inBlock id :: k) cs df σ w tm ha hrd hn hb h hT
    cases hr : exec tab ext n a' T H with
    | bad => simp [hr] at hne
    | fin T1 H1 =>
      have h1 := h1 (by rw [hr]; simp)
      rw [hr] at h1
      obtain ⟨σ1, w1, tm1, rs1, e1, e2, e3, e4, e5, e6, e7⟩ := h1.fin
      exact ⟨T1, H1, rfl, σ1, w1, tm1, rs1, e1, e2, e3, e4, e5, e6, Steps.trans (.one s_block) (e7.trans (.one s_inBlock))⟩
    | ex j T1 H1 =>
      have h1 := h1 (by rw [hr]; simp)
      rw [hr] at h1
      simp only
      obtain ⟨T', H', q1, σ1, w1, tm1, rs1, e1, e2, e3, e4, e5, e6, e7⟩ := h1
      simp only [R.th, Option.some.injEq, Prod.mk.injEq] at q1
      obtain ⟨rfl, rfl⟩ := q1
      by_cases hj : Nat.beq j id = true
      · have hji := Nat.eq_of_beq_eq_true hj
        subst hji
        rw [if_pos hj]
        exact ⟨T1, H1, rfl, σ1, w1, tm1, rs1, e1, e2, e3, e4, e5, e6, Steps.trans (.one s_block) (e7.1 k (by simp [exitTo]))⟩
      · rw [if_neg hj]
        have hne' : id ≠ j := fun e => hj (by rw [e]; exact Nat.beq_refl j)
        have hex : exitTo j (.inBlock id :: k) = exitTo j k := by simp [exitTo, hne']
        refine ⟨T1, H1, rfl, σ1, w1, tm1, rs1, e1, e2, e3, e4, e5, e6, fun k' hk' => Steps.trans (.one s_block) (e7.1 k' (by rw [hex]; exact hk')), fun hn' => ?_⟩
        obtain ⟨td, x1, x2⟩ := e7.2 (by rw [hex]; exact hn')
        exact ⟨td, x1, Steps.trans (.one s_block) x2⟩
    | ret T1 H1 =>
      have h1 := h1 (by rw [hr]; simp)
      rw [hr] at h1
      obtain ⟨T', H', q1, σ1, w1, tm1, rs1, e1, e2, e3, e4, e5, e6, td, e7⟩ := h1
      exact ⟨T', H', q1, σ1, w1, tm1, rs1, e1, e2, e3, e4, e5, e6, td, Steps.trans (.one s_block) e7⟩
  case loop a _ =>
    have hc0 := hc
    simp only [codeOf, Option.map_eq_some_iff] at hc
    obtain ⟨a', ha, rfl⟩ := hc
    have hx : exec tab ext (n + 1) (.loop a') T H = match exec tab ext n a' T H with | .fin T H => exec tab ext n (.loop a') T H | r => r := rfl
    rw [hx] at hne ⊢
    have h1 : exec tab ext n a' T H ≠ .bad → _ := fun hne1 => IH a' T H hne1 nt B a fr (.inLoop a :: k) cs df σ w tm ha hrd hn hb h hT
    cases hr : exec tab ext n a' T H with
    | bad => simp [hr] at hne
    | fin T1 H1 =>
      simp only [hr] at hne ⊢
      have h1 := h1 (by rw [hr]; simp)
      rw [hr] at h1
      obtain ⟨σ1, w1, tm1, rs1, e1, e2, e3, e4, e5, e6, e7⟩ := h1.fin
      have h2 := IH (.loop a') T1 H1 hne nt B (.loop a) fr k cs (rs1.map mkMark ++ df) σ1 w1 tm1 hc0 hrd e1 hb e2 e4
      have h3 : Comes' P B nt (.loop a') σ1 H1 w1 (lone (at_ fr tm1 (rs1.map mkMark ++ df) (.inLoop a :: k)) cs w1) fr (rs1.map mkMark ++ df) k cs (exec tab ext n (.loop a') T1 H1) := by
        obtain ⟨T', H', q1, σ', w', tm', rs', q2, q3, q4, q5, q6, q7, q8⟩ := h2
        exact ⟨T', H', q1, σ', w', tm', rs', q2, q3, q4, q5, q6, q7, q8.swapLoop⟩
      exact Comes'.seq (c1 := .loop a') e3 e5 e6 (Steps.trans (.one s_loop) e7) h3 id
    | ex i1 T1 H1 =>
      have h1 := h1 (by rw [hr]; simp)
      rw [hr] at h1
      exact (h1.head (c := .loop a') (.one s_loop) id).lift (fun _ => rfl) (by simp) id
    | ret T1 H1 =>
      have h1 := h1 (by rw [hr]; simp)
      rw [hr] at h1
      exact (h1.head (c := .loop a') (.one s_loop) id).lift (fun _ => rfl) (by simp) id
  case scope a ih =>
    simp only [codeOf] at hc
    have h1 := ih c T H hne nt B fr (.inScope a :: k) cs df σ w tm hc hrd hn hb h hT
    cases hr : exec tab ext (n + 1) c T H with
    | bad => exact absurd hr hne
    | fin T1 H1 =>
      rw [hr] at h1
      obtain ⟨σ1, w1, tm1, rs1, e1, e2, e3, e4, e5, e6, e7⟩ := h1.fin
      exact ⟨T1, H1, rfl, σ1, w1, tm1, rs1, e1, e2, e3, e4, e5, e6, Steps.trans (.one s_scope) (e7.trans (.one s_inScope))⟩
    | ex i1 T1 H1 =>
      rw [hr] at h1
      exact (h1.head (.one s_scope) id).lift (fun _ => rfl) (by simp) id
    | ret T1 H1 =>
      rw [hr] at h1
      exact (h1.head (.one s_scope) id).lift (fun _ => rfl) (by simp) id
  case rangeFunc f ps a b _ _ =>
    simp only [codeOf] at hc
    split at hc
    · rename_i f' ps' a' b' hf hps ha hb'
      split at hc
      · rename_i hnr
        simp only [Option.some.injEq] at hc; subst hc
        simp only [Bool.and_eq_true] at hnr
        have hr : fr.roundOf = none := by
          rcases hrd with h | h
          · exact h
          · simp [noRng] at h
        exact rng_ok E IH hf hps ha hb' hnr.1 hnr.2 hne hr k cs df hn hb h hT
      · cases hc
    · cases hc
  all_goals (simp [codeOf] at hc)

/-- the machine's run is the model's -/
theorem exec_sound {tab ext} (E : Env P tab ext) : ∀ n, Sound P (exec tab ext n)
  | 0 => fun c T H hne => absurd rfl hne
  | n + 1 => fun c T H hne nt B code fr k cs df σ w tm hc hrd hn hb h hT => code_ok E (exec_sound E n) code c T H hne nt B fr k cs df σ w tm hc hrd hn hb h hT
end
end Go.AM
