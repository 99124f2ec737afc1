/- THE ABSTRACT MACHINE: calls, operations, regions. -/
import Derived.Test.YtehgboiiphlfeaaGreatDoorAmSound2
namespace Go.AM
open Go

section
variable {P : Program} {B : Nat} {σ : Val} {H : AH} {w : World} {T : AT} {tm : Array Value} {nt : Nat}

/-- a call of a function value -/
theorem call_ok {tab ext} (E : Env P tab ext) {run : AC → AT → AH → R} (hrun : Sound P run) {f : AV} {args : List AV} {v : AV} {H' : AH} (hc : callWith run tab ext f args H = some (v, H')) (h : HRel P B σ H w)
    {fv : Value} (hf : VRel σ f fv) {us : Array Value} (ha : VRelL σ args us.toList) :
    ∃ d, (∀ w, (Deferred.ofValue fv us).run P w = .ok d w) ∧ InvOk P B σ H w (invoke d.target d.args) v H' := by
  unfold callWith at hc
  split at hc
  · rename_i g cap
    simp only [VRel] at hf
    obtain ⟨vs, rfl, hcap⟩ := hf
    refine ⟨{ target := .fn (.func g) vs, args := us }, fun w => by simp [Deferred.ofValue], ?_⟩
    have hav : VRelL σ (args ++ cap) (us ++ vs).toList := by rw [Array.toList_append]; exact ha.append hcap
    have hinv : invoke (.fn (.func g) vs) us = callFunc g (us ++ vs) := rfl
    simp only [hinv]
    split at hc
    · rename_i cf hg
      split at hc
      · rename_i T0 hp
        have main : ∀ T' H2 v2, (run cf.body T0 H = .ret T' H2 ∨ run cf.body T0 H = .fin T' H2) → AM.results T' H2 cf.res = some v2 → some (v2, H2) = some (v, H') → InvOk P B σ H w (callFunc g (us ++ vs)) v H' := by
          intro T' H2 v2 hth hres he
          cases he
          obtain ⟨e1, e2⟩ := func_ok E hrun hg hp rfl hth hres h hav
          exact .inr (.inl ⟨g, _, e1, e2⟩)
        split at hc
        · rename_i T' H2 hr
          split at hc
          · rename_i v2 hres; exact main T' H2 v2 (.inl hr) hres hc
          · cases hc
        · rename_i T' H2 hr
          split at hc
          · rename_i v2 hres; exact main T' H2 v2 (.inr hr) hres hc
          · cases hc
        · cases hc
      · cases hc
    · rename_i hg
      split at hc
      · rename_i v2 hx
        cases hc
        obtain ⟨u, e1, e2⟩ := E.exts g _ _ hg hx σ (us ++ vs) hav w
        exact .inl ⟨u, e1, rfl, e2⟩
      · cases hc
  · rename_i b
    simp only [VRel] at hf
    obtain ⟨L, hL, rfl⟩ := hf
    refine ⟨{ target := .fn (.yield L.b) #[], args := us }, fun w => by simp [Deferred.ofValue], ?_⟩
    have hinv : invoke (.fn (.yield L.b) #[]) us = Instr.yield L.b us := rfl
    simp only [hinv]
    split at hc
    · rename_i T0 ps asg body hb
      split at hc
      · rename_i T1 hp
        split at hc
        · rename_i T2 H1 hasg
          split at hc
          · rename_i T0' ps' asg' body' hb1
            split at hc
            · rename_i j H2 hj
              split at hc
              · rename_i q T0'' ps'' asg'' body'' hb2
                cases j with
                | none =>
                  simp only [Option.some.injEq, Prod.mk.injEq] at hc
                  obtain ⟨rfl, rfl⟩ := hc
                  exact round_ok hrun hb hp hasg hb1 rfl hj hb2 (.inl ⟨rfl, rfl, rfl⟩) h hL ha
                | some cj =>
                  simp only [Option.some.injEq, Prod.mk.injEq] at hc
                  obtain ⟨rfl, rfl⟩ := hc
                  exact round_ok hrun hb hp hasg hb1 rfl hj hb2 (.inr ⟨cj, rfl, rfl, rfl⟩) h hL ha
              · cases hc
            · cases hc
          · cases hc
        · cases hc
      · cases hc
    · cases hc
  · cases hc

theorem execOps_cons (call : AV → List AV → AH → Option (AV × AH)) (i : AI) (l : List AI) (T : AT) (H : AH) :
    execOps call (i :: l) T H = match exec1 call i T H with | some (T, H) => execOps call l T H | none => .bad := rfl

theorem opOf_inv {d : Option Pos} {o : Oper} {i : AI} (h : opOf P nt d o = some i) : (∀ c, o.op ≠ .defer c) ∧
    ((∃ c f f' args', o.op = .call c ∧ c.callee = .value f ∧ axOf nt f = some f' ∧ axsOf nt c.args.toList = some args' ∧ i = .call d f' args') ∨ (plain i = true ∧ i.dst = d ∧ (opOf1 P nt d o = some i ∨ i = .bad d))) := by
  have known : ∀ {i}, (match opOf1 P nt d o with
      | some i => if plain i && dstEq i.dst d then some i else some (.bad d)
      | none => some (.bad d)) = some i → plain i = true ∧ i.dst = d ∧ (opOf1 P nt d o = some i ∨ i = .bad d) := by
    intro i hi
    split at hi
    · rename_i i' hi'
      split at hi
      · rename_i hc
        simp at hi; subst hi
        simp only [Bool.and_eq_true] at hc
        refine ⟨hc.1, ?_, .inl hi'⟩
        have := hc.2
        cases h1 : i'.dst <;> cases d <;> simp [h1, dstEq] at this ⊢
        exact Pos.beq_iff.1 this
      · cases hi; exact ⟨rfl, rfl, .inr rfl⟩
    · cases hi; exact ⟨rfl, rfl, .inr rfl⟩
  unfold opOf at h
  dsimp only at h
  split at h
  · rename_i c hc
    refine ⟨fun c' => by rw [hc]; simp, ?_⟩
    split at h
    · rename_i f hf
      split at h
      · rename_i f' args' h1 h2
        simp at h; subst h
        exact .inl ⟨c, f, f', args', hc, hf, h1, h2, rfl⟩
      · cases h; exact .inr ⟨rfl, rfl, .inr rfl⟩
    · exact .inr (known h)
  · cases h
  · rename_i h1 h2
    exact ⟨fun c => h2 c, .inr (known h)⟩

def exec0 (call : AV → List AV → AH → Option (AV × AH)) (i : AI) (T : AT) (H : AH) : Option (AT × AH) :=
  match i with
  | .call d f args => match call (f.ev T) (evs T args) H with
    | some (v, H) => some (AM.putO T d v, H)
    | none => none
  | op => match val T H op with
    | some (v, H) => some (AM.putO T op.dst v, H)
    | none => none

/-- one operation of a region that is wanted -/
theorem run1 {tab ext} (E : Env P tab ext) {run : AC → AT → AH → R} (hrun : Sound P run) {ops : Array Oper} {n : Nat} {rest : List Nat} {o : Oper} (ho : ops[n]? = some o) {d : Option Pos} {i : AI} (hi : opOf P nt d o = some i)
    (hd : match o.dst with | none => d = none | some t => slot nt t = d ∧ d.isSome) (hw : Region.wanted o (yielded ops tm) = true) (h : HRel P B σ H w) (hT : TRel σ T tm) (hn : tm.size = nt) (hb : nt < 1000000000) {T1 : AT} {H1 : AH}
    (he : exec0 (callWith run tab ext) i T H = some (T1, H1)) (fr : Frame) (df : List Deferred) (k : List Item) (cs : List Frame) :
    ∃ σ' w' tm', tm'.size = nt ∧ HRel P B σ' H1 w' ∧ Ext σ H w σ' H1 w' ∧ TRel σ' T1 tm' ∧ Steps P (lone (at_ fr tm df (.inRegion ops (n :: rest) :: k)) cs w) (lone (at_ fr tm' df (.inRegion ops rest :: k)) cs w') := by
  obtain ⟨hdef, hcase⟩ := opOf_inv hi
  rcases hcase with ⟨c, f, f', args', hop, hcal, hf, hargs, rfl⟩ | ⟨hpl, hdst, h1⟩
  · simp only [exec0] at he
    split at he
    · rename_i v H2 hcall
      simp only [Option.some.injEq, Prod.mk.injEq] at he
      obtain ⟨rfl, rfl⟩ := he
      have hfr := ax_rel hT hn hb hf
      have har := axs_rel hT hn hb hargs
      have hvs : (c.args.map (opv tm)).toList = c.args.toList.map (opv tm) := Array.toList_map
      obtain ⟨dd, e1, e2⟩ := call_ok E hrun hcall h hfr (us := c.args.map (opv tm)) (by rw [hvs]; exact har)
      have hexec : ∀ r w', (invoke dd.target dd.args).run P w = .ok r w' → (execOp (opv tm) o).run P w = .ok r w' := fun r w' hr => by
        simp only [execOp, hop, resolve, hcal, Sem.run_bind, e1, Result.andThen_ok]
        exact hr
      rcases e2 with ⟨u, q1, rfl, q2⟩ | ⟨g, vs, q1, q2⟩ | ⟨l, f2, t, a, b, q1, q2⟩
      · refine ⟨σ, w, putT tm o.dst u, by rw [putT_size]; exact hn, h, Ext.refl _ _ _, hT.putO hn hb hd q2, .one (s_op_value ho hw hdef (.inl (hexec _ _ q1)))⟩
      · obtain ⟨σ', w', u, g1, g2, g3, g4⟩ := q2 (at_ fr tm df (.inRegion ops (n :: rest) :: k)) cs
        refine ⟨σ', w', putT tm o.dst u, by rw [putT_size]; exact hn, g1, g2, (TRel.mono g2.le hT).putO hn hb hd g3, ?_⟩
        refine .head (s_op_enter ho hw hdef (hexec _ _ q1)) ?_
        have hfin := finish_at (fr := fr) (tm := tm) (df := df) (k := k) (ops := ops) (i := n) (rest := rest) u
        rw [ho, Option.bind_some] at hfin
        rw [← hfin]; exact g4
      · obtain ⟨σ', w', u, g1, g2, g3, g4⟩ := q2 (at_ fr tm df (.inRegion ops (n :: rest) :: k)) cs
        refine ⟨σ', w', putT tm o.dst u, by rw [putT_size]; exact hn, g1, g2, (TRel.mono g2.le hT).putO hn hb hd g3, ?_⟩
        refine .head (s_op_round ho hw hdef (hexec _ _ q1)) ?_
        have hfin := finish_at (fr := fr) (tm := tm) (df := df) (k := k) (ops := ops) (i := n) (rest := rest) u
        rw [ho, Option.bind_some] at hfin
        rw [← hfin]; exact g4
    · cases he
  · have hv : ∃ v, val T H i = some (v, H1) ∧ T1 = AM.putO T i.dst v := by
      cases i <;> simp [plain] at hpl <;> simp only [exec0] at he <;> (
        split at he
        · rename_i v H2 hval
          simp only [Option.some.injEq, Prod.mk.injEq] at he
          obtain ⟨rfl, rfl⟩ := he
          exact ⟨v, hval, rfl⟩
        · cases he)
    obtain ⟨v, hv, rfl⟩ := hv
    have h1 : opOf1 P nt d o = some i := by
      rcases h1 with h1 | rfl
      · exact h1
      · simp [AM.val] at hv
    obtain ⟨σ', u, w', hr, g1, g2, g3⟩ := val_sound h hT hn hb h1 hv
    refine ⟨σ', w', putT tm o.dst u, by rw [putT_size]; exact hn, g1, g2, ?_, .one (s_op_value ho hw hdef hr)⟩
    rw [hdst]
    exact (TRel.mono g2.le hT).putO hn hb hd g3

/-- one operation of a region -/
theorem step1 {tab ext} (E : Env P tab ext) {run : AC → AT → AH → R} (hrun : Sound P run) {ops : Array Oper} {n : Nat} {rest : List Nat} {o : Oper} (ho : ops[n]? = some o) {i : AI} (hi : operOf P nt ops o = some i)
    (h : HRel P B σ H w) (hT : TRel σ T tm) (hn : tm.size = nt) (hb : nt < 1000000000) {T1 : AT} {H1 : AH} (he : exec1 (callWith run tab ext) i T H = some (T1, H1)) (fr : Frame) (df : List Deferred) (k : List Item) (cs : List Frame) :
    ∃ σ' w' tm', tm'.size = nt ∧ HRel P B σ' H1 w' ∧ Ext σ H w σ' H1 w' ∧ TRel σ' T1 tm' ∧ Steps P (lone (at_ fr tm df (.inRegion ops (n :: rest) :: k)) cs w) (lone (at_ fr tm' df (.inRegion ops rest :: k)) cs w') := by
  unfold operOf at hi
  dsimp only at hi
  split at hi
  · cases hi
  · rename_i d hd0
    have hd : match o.dst with | none => d = none | some t => slot nt t = d ∧ d.isSome := by
      cases hdst : o.dst with
      | none => simp [hdst] at hd0; exact hd0.symm
      | some t =>
        simp only [hdst, Option.map_eq_some_iff] at hd0
        obtain ⟨p, hp, rfl⟩ := hd0
        exact ⟨hp, rfl⟩
    split at hi
    · cases hi
    · rename_i i0 hi0
      split at hi
      · -- no guard
        rename_i hg
        simp at hi; subst hi
        have hw : Region.wanted o (yielded ops tm) = true := by simp [Region.wanted, hg]
        refine run1 E hrun ho hi0 hd hw h hT hn hb ?_ fr df k cs
        rcases (opOf_inv hi0).2 with ⟨_, _, _, _, _, _, _, _, rfl⟩ | ⟨hpl, _, _⟩
        · exact he
        · cases i0 <;> simp [plain] at hpl <;> exact he
      · -- a guard
        rename_i j b hg
        split at hi
        · rename_i t ht
          simp only [Option.map_eq_some_iff] at hi
          obtain ⟨g, hgs, rfl⟩ := hi
          simp only [exec1] at he
          obtain ⟨htn, rfl⟩ := slot_spec hgs
          have hgr := hT (Pos.ofSlot t)
          rw [Pos.toNat_ofSlot (by omega)] at hgr
          split at he
          · rename_i x hx
            rw [hx] at hgr
            have hbx := bool_of hgr
            simp only [Nat.add_sub_cancel] at hbx
            have hy : yielded ops tm j = some x := by
              have h2 : tm[t]? = some (.bool x) := by
                rw [Array.getD_eq_getD_getElem?] at hbx
                have hlt : t < tm.size := by rw [hn]; exact htn
                simp only [Array.getElem?_eq_getElem hlt, Option.getD_some] at hbx ⊢
                rw [hbx]
              simp [yielded, ht, h2]
            by_cases hxb : (x == b) = true
            · simp only [hxb, if_true] at he
              have hw : Region.wanted o (yielded ops tm) = true := by simp [Region.wanted, hg, hy]; simpa using hxb
              refine run1 E hrun ho hi0 hd hw h hT hn hb ?_ fr df k cs
              cases i0 <;> exact he
            · simp only [hxb, Bool.false_eq_true, if_false, Option.some.injEq, Prod.mk.injEq] at he
              obtain ⟨rfl, rfl⟩ := he
              have hw : ((ops[n]?).map (Region.wanted · (yielded ops tm))).getD false = false := by
                simp [ho, Region.wanted, hg, hy]; simpa using hxb
              refine ⟨σ, w, putT tm o.dst undef, by rw [putT_size]; exact hn, h, Ext.refl _ _ _, hT.putO hn hb hd (by simp [VRel, VRelL, undef]), ?_⟩
              have := s_op_skip (P := P) (fr := fr) (df := df) (k := k) (cs := cs) (w := w) (rest := rest) hw
              rw [ho, Option.bind_some] at this
              exact .one this
          · -- what stands under a guard that was left out itself
            rename_i hx
            rw [hx] at hgr
            simp only [VRel, VRelL] at hgr
            obtain ⟨vs, hvs, hnil⟩ := hgr
            simp only [Nat.add_sub_cancel] at hvs
            have hy : yielded ops tm j = none := by
              have h2 : tm[t]? = some (.tuple vs) := by
                rw [Array.getD_eq_getD_getElem?] at hvs
                have hlt : t < tm.size := by rw [hn]; exact htn
                simp only [Array.getElem?_eq_getElem hlt, Option.getD_some] at hvs ⊢
                rw [hvs]
              simp [yielded, ht, h2]
            simp only [Option.some.injEq, Prod.mk.injEq] at he
            obtain ⟨rfl, rfl⟩ := he
            have hw : ((ops[n]?).map (Region.wanted · (yielded ops tm))).getD false = false := by
              simp [ho, Region.wanted, hg, hy]
            refine ⟨σ, w, putT tm o.dst undef, by rw [putT_size]; exact hn, h, Ext.refl _ _ _, hT.putO hn hb hd (by simp [VRel, VRelL, undef]), ?_⟩
            have := s_op_skip (P := P) (fr := fr) (df := df) (k := k) (cs := cs) (w := w) (rest := rest) hw
            rw [ho, Option.bind_some] at this
            exact .one this
          · cases he
        · cases hi
end
end Go.AM
