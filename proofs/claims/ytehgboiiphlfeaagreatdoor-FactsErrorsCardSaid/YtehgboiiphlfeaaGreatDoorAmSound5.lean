/- THE ABSTRACT MACHINE: a call of a function, from the machine's run of its body. -/
import Derived.Below
import Derived.Test.YtehgboiiphlfeaaGreatDoorAmSound4
namespace Go.AM
open Go Go.RowKit

def H0 : AH := ⟨.lf, .lf, .h, none, []⟩

section
variable {P : Program}

theorem H0_rel (w : World) : HRel P w.heap.size (fun _ => none) H0 w :=
  ⟨fun b x hx => by simp [H0, Tr.get] at hx, fun b b' k k' L L' hk => by simp [AH.key, H0, Tr.get] at hk, fun b _ => by simp [H0, Tr.get], fun b _ => by simp [H0, Tr.get], fun b _ => rfl,
   fun b e c v vs ex hx => by simp [H0, Tr.get] at hx, fun b c hk => by simp [AH.key, H0, Tr.get] at hk, fun b c t L Lt e v vs ex e' v' vs' ex' hk => by simp [AH.key, H0, Tr.get] at hk, Nat.le_refl _,
   ⟨by simp [AH.allr, H0], fun r hr => by simp [AH.allr, H0] at hr, fun r hr => by simp [AH.allr, H0] at hr, fun r hr => by simp [AH.allr, H0] at hr, fun r hr => by simp [AH.allr, H0] at hr, fun r hr => by simp [AH.allr, H0] at hr⟩⟩

theorem H0_foot (w : World) (k : Nat) : ¬ Foot (fun _ => none) H0 k := by
  rintro ⟨b, L, hs, _⟩
  simp [AH.key, H0, Tr.get] at hs

theorem RunOk.seq {a b : AC} {T T1 : AT} {H H1 : AH} {r : R} (h1 : RunOk P a (.fin T1 H1) T H) (h2 : RunOk P b r T1 H1) : RunOk P (.seq a b) r T H := by
  intro nt B code
  induction code <;> intro fr k cs df σ w tm hc hrd hn hb h hT
  case scope c ih =>
    simp only [codeOf] at hc
    have h3 := ih fr (.inScope c :: k) cs df σ w tm hc hrd hn hb h hT
    cases r with
    | bad =>
      obtain ⟨_, _, e, _⟩ := h3
      simp [R.th] at e
    | fin T1 H1 =>
      obtain ⟨σ1, w1, tm1, rs1, e1, e2, e3, e4, e5, e6, e7⟩ := h3.fin
      exact ⟨T1, H1, rfl, σ1, w1, tm1, rs1, e1, e2, e3, e4, e5, e6, Steps.trans (.one s_scope) (e7.trans (.one s_inScope))⟩
    | ex i1 T1 H1 => exact (h3.head (.one s_scope) id).lift (fun _ => rfl) (by simp) id
    | ret T1 H1 => exact (h3.head (.one s_scope) id).lift (fun _ => rfl) (by simp) id
  case seq a0 b0 _ _ =>
    simp only [codeOf] at hc
    split at hc
    · rename_i a' b' ha hb'
      simp only [Option.some.injEq, AC.seq.injEq] at hc
      obtain ⟨rfl, rfl⟩ := hc
      have hra : fr.roundOf = none ∨ noRng a' = true := hrd.imp id fun h => by simp only [noRng, Bool.and_eq_true] at h; exact h.1
      have hrb : fr.roundOf = none ∨ noRng b' = true := hrd.imp id fun h => by simp only [noRng, Bool.and_eq_true] at h; exact h.2
      obtain ⟨σ1, w1, tm1, rs1, e1, e2, e3, e4, e5, e6, e7⟩ := (h1 nt B a0 fr (.code b0 :: k) cs df σ w tm ha hra hn hb h hT).fin
      exact Comes'.seq (c1 := b') e3 e5 (fun h => e6 (by simp only [noRng, Bool.and_eq_true] at h; exact h.1)) (Steps.trans (.one s_seq) e7) (h2 nt B b0 fr k cs (rs1.map mkMark ++ df) σ1 w1 tm1 hb' hrb e1 hb e2 e4)
        fun h => by simp only [noRng, Bool.and_eq_true] at h; exact h.2
    · cases hc
  case region _ ops d =>
    simp only [codeOf] at hc
    split at hc
    · (repeat' split at hc) <;> simp at hc
    · cases hc
  case rangeFunc f ps a b _ _ =>
    simp only [codeOf] at hc
    split at hc
    · (repeat' split at hc) <;> simp at hc
    · cases hc
  case cond x a b _ _ => simp only [codeOf] at hc; split at hc <;> simp at hc
  all_goals (simp [codeOf] at hc)

/-- what a body's run answers -/
def outOf (r : R) (res : List (Pos × Option (Option Nat))) : Option AV := match r with | .ret T H | .fin T H => AM.results T H res | _ => none
theorem not_bad {r : R} {res : List (Pos × Option (Option Nat))} {v : AV} (h : outOf r res = some v) : r ≠ .bad := by intro e; subst e; cases h

/-- a call of a function whose body is run by the machine -/
theorem calls_ok {g : FuncId} {fn : Func} (hfn : P.funcs[g]? = some fn) {cf : CF} (hcf : funcOf P fn = some cf) (hnt : fn.ntmps < 1000000000) {args : List AV} {T0 : AT} (hp : putArgs .lf cf.ps args = some T0)
    {r : R} (hrun : RunOk P cf.body r T0 H0) {v : AV} (hout : outOf r cf.res = some v) {vs : Array Value} (ha : VRelL (fun _ => none) args vs.toList) (w : World) :
    Calls P g vs w fun e w' => ∃ σ u, VRel σ v u ∧ e = .returned u ∧ Below w.heap.size w w' := by
  obtain ⟨T', H', hth, hv⟩ : ∃ T' H', (r = .ret T' H' ∨ r = .fin T' H') ∧ AM.results T' H' cf.res = some v := by
    cases r with
    | bad => cases hout
    | ex _ _ _ => cases hout
    | ret T H => exact ⟨T, H, .inl rfl, hout⟩
    | fin T H => exact ⟨T, H, .inr rfl, hout⟩
  clear hout
  have h := H0_rel (P := P) w
  unfold funcOf at hcf
  cases hbody : fn.body with
  | none => simp [hbody] at hcf
  | some code =>
    simp only [hbody] at hcf
    split at hcf
    · rename_i b rs ps hcode hres hps
      simp at hcf
      subst hcf
      simp only at hp hrun hv
      intro cs
      have hT00 : ∀ tm : Array Value, TRel (fun _ => none) .lf tm := fun tm p => by simp [AX.ev, VRel, Tr.get]
      have hlen : ∀ (ts : List Nat) (ps : List Pos) (l : List AV) (T T1 : AT), posOf fn.ntmps ts = some ps → putArgs T ps l = some T1 → ts.length = l.length := by
        intro ts
        induction ts with
        | nil => intro ps l T T1 h1 h2; simp [posOf] at h1; subst h1; cases l <;> simp [putArgs] at h2 ⊢
        | cons t ts ih =>
          intro ps l T T1 h1 h2
          simp only [posOf] at h1
          split at h1
          · simp at h1; subst h1
            cases l with
            | nil => simp [putArgs] at h2
            | cons a l => simp only [putArgs] at h2; simp [ih _ _ _ _ (by assumption) h2]
          · cases h1
      have hm := hlen _ _ _ _ _ hps hp
      have hal := ha.length
      simp only [Array.length_toList, List.length_range] at hm hal
      have hle : fn.params.size + fn.nfree ≤ fn.ntmps := by
        rcases Nat.eq_zero_or_pos (fn.params.size + fn.nfree) with h0 | h0
        · omega
        · have := posOf_range (m := 0) hps (fn.params.size + fn.nfree - 1) (by simp; omega)
          omega
      obtain ⟨q1, q2⟩ := enter_slots (vs := vs) (n := fn.ntmps) (m := fn.params.size + fn.nfree) (by omega) hle
      obtain ⟨hT0, _⟩ := putArgs_known hps hp ha (hT00 (vs ++ Array.replicate (fn.ntmps - vs.size) undef)) q1 hnt q2
      have hfr : Frame.enter P g vs .normal = at_ (Frame.enter P g vs .normal) (vs ++ Array.replicate (fn.ntmps - vs.size) undef) [] (.code code :: []) := by
        simp [Frame.enter, at_, hfn, hbody]
      obtain ⟨T2, H2, e1, σ', w', tm', rs', e2, e3, e4, e5, e6, _, e7⟩ := hrun fn.ntmps w.heap.size code (Frame.enter P g vs .normal) [] cs [] (fun _ => none) w _ hcode (.inl rfl) q1 hnt h hT0
      have hTH : T2 = T' ∧ H2 = H' := by
        rcases hth with rfl | rfl <;> simp [R.th] at e1 <;> exact ⟨e1.1.symm, e1.2.symm⟩
      obtain ⟨rfl, rfl⟩ := hTH
      rw [List.append_nil] at e7
      have hret : ∃ td, Steps P (lone (at_ (Frame.enter P g vs .normal) (vs ++ Array.replicate (fn.ntmps - vs.size) undef) [] (.code code :: [])) cs w)
          (lone { at_ (Frame.enter P g vs .normal) tm' (rs'.map mkMark) td with mode := .returning } cs w') := by
        rcases hth with rfl | rfl
        · obtain ⟨td, hs⟩ := e7
          exact ⟨_, hs.trans (.one (s_ret rfl))⟩
        · exact ⟨_, Steps.trans e7 (.one (s_end rfl))⟩
      obtain ⟨td, hs⟩ := hret
      obtain ⟨w2, f1, f2, f3⟩ := unmark (fr := Frame.enter P g vs .normal) (td := td) (cs := cs) (tm := tm') rs' w' e3 e4 e6
      obtain ⟨u, g1, g2⟩ := results_sound f1 e5 e2 hnt hres hv
      refine ⟨.returned u, w2, { at_ (Frame.enter P g vs .normal) tm' [] td with mode := .returning }, ⟨σ', u, g2, rfl, ⟨f2.os, f2.tape, f2.output, f2.size, fun k hk => f2.keep k hk (H0_foot w k)⟩⟩, ?_, rfl, ?_⟩
      · rw [hfr]
        exact hs.trans f3
      · exact ⟨rfl, rfl, rfl, fn, hfn, g1⟩
    · cases hcf

/-! ### tables of functions -/
def look (l : List (Nat × CF)) (g : Nat) : Option CF :=
  match l with
  | [] => none
  | (h, cf) :: l => if Nat.beq g h then some cf else look l g

def Good (P : Program) (g : Nat) (cf : CF) : Prop := ∃ fn, P.funcs[g]? = some fn ∧ funcOf P fn = some cf ∧ (fn.name == "runtime.NumGoroutine") = false ∧ fn.ntmps < 1000000000
def Goods (P : Program) : List (Nat × CF) → Prop
  | [] => True
  | (g, cf) :: l => Good P g cf ∧ Goods P l

theorem look_good : ∀ {l : List (Nat × CF)}, Goods P l → ∀ g cf, look l g = some cf → Good P g cf
  | [], _, g, cf, h => by simp [look] at h
  | (g', cf') :: l, hg, g, cf, h => by
    simp only [look] at h
    split at h
    · rename_i he
      have := Nat.eq_of_beq_eq_true he
      subst this
      simp only [Option.some.injEq] at h; subst h
      exact hg.1
    · exact look_good hg.2 g cf h

/-- how strings are held against each other -/
def cmpA (k : Nat) (g : Nat) (args : List AV) : Option AV :=
  if Nat.beq g k then
    match args with
    | [.str a, .str b] => some (.int .i64 (if strLt a b then -1 else if strEq a b then 0 else 1))
    | _ => none
  else none

theorem cmp_lists : ∀ (x y : List UInt8), (match (List.range (min x.length y.length)).find? fun i => x[i]! != y[i]! with
      | some i => if x[i]! < y[i]! then (-1 : Int) else 1
      | none => if x.length < y.length then -1 else if x.length > y.length then 1 else 0) = if strLt (x.map (·.toNat)) (y.map (·.toNat)) then -1 else if strEq (x.map (·.toNat)) (y.map (·.toNat)) then 0 else 1
  | [], [] => by simp [strLt, strEq]
  | [], b :: y => by simp [strLt]
  | a :: x, [] => by simp [strLt, strEq]
  | a :: x, b :: y => by
    have ih := cmp_lists x y
    have hm : min (a :: x).length (b :: y).length = min x.length y.length + 1 := by simp only [List.length_cons]; omega
    rw [hm, List.range_succ_eq_map, List.find?_cons]
    simp only [List.map_cons, strLt, strEq, List.getElem!_cons_zero, List.length_cons]
    by_cases hxy : a = b
    · subst hxy
      have hbl : Nat.blt a.toNat a.toNat = false := by
        cases h : Nat.blt a.toNat a.toNat with
        | false => rfl
        | true => rw [Nat.blt_eq] at h; omega
      simp only [bne_self_eq_false, hbl, Nat.beq_refl, Bool.false_eq_true, if_false, if_true, Bool.true_and]
      rw [← ih, List.find?_map]
      have hp : ((fun i => (a :: x)[i]! != (a :: y)[i]!) ∘ Nat.succ) = fun i => x[i]! != y[i]! := by
        funext i
        simp only [Function.comp, Nat.succ_eq_add_one, List.getElem!_cons_succ]
      rw [hp]
      cases (List.range (min x.length y.length)).find? fun i => x[i]! != y[i]! with
      | none => simp only [Option.map_none, Nat.add_lt_add_iff_right, gt_iff_lt]
      | some i => simp only [Option.map_some, Nat.succ_eq_add_one, List.getElem!_cons_succ]
    · have hne : a.toNat ≠ b.toNat := fun e => hxy (UInt8.toNat_inj.1 e)
      have hb1 : (a != b) = true := by simpa using hxy
      have hbq : Nat.beq a.toNat b.toNat = false := by
        cases h : Nat.beq a.toNat b.toNat with
        | false => rfl
        | true => exact absurd (Nat.eq_of_beq_eq_true h) hne
      simp only [hb1, hbq, Bool.false_and, Bool.false_eq_true, if_false, List.getElem!_cons_zero]
      by_cases hlt : a < b
      · have : Nat.blt a.toNat b.toNat = true := by rw [Nat.blt_eq]; exact hlt
        rw [if_pos hlt, this]; rfl
      · have : Nat.blt a.toNat b.toNat = false := by
          cases h : Nat.blt a.toNat b.toNat with
          | false => rfl
          | true => rw [Nat.blt_eq] at h; exact absurd h hlt
        rw [if_neg hlt, this]; rfl

theorem byte_get (a : ByteArray) (i : Nat) : a[i]! = a.data.toList[i]! := by
  by_cases h : i < a.size
  · rw [getElem!_pos a i h, getElem!_pos a.data.toList i h]; rfl
  · rw [getElem!_neg a i h, getElem!_neg a.data.toList i h]

theorem cmp_list (a b : ByteArray) : Extern.BytealgCompare.cmp a b = if strLt (a.data.toList.map (·.toNat)) (b.data.toList.map (·.toNat)) then -1 else if strEq (a.data.toList.map (·.toNat)) (b.data.toList.map (·.toNat)) then 0 else 1 := by
  rw [← cmp_lists]
  have sa : a.size = a.data.toList.length := rfl
  have sb : b.size = b.data.toList.length := rfl
  unfold Extern.BytealgCompare.cmp
  simp only [byte_get]
  rw [sa, sb]
  rfl

theorem cmpA_ok {k : Nat} {fn : Func} (hf : P.funcs[k]? = some fn) (hname : fn.name = "internal/bytealg.abigen_runtime_cmpstring") (hb : fn.body = none) (hx : Extern.findNext fn = none) (hy : Extern.find fn = some Extern.BytealgCompare.compare)
    (g : FuncId) (args : List AV) (v : AV) (h : cmpA k g args = some v) (σ : Val) (vs : Array Value) (ha : VRelL σ args vs.toList) (w : World) : ∃ u, (callFunc g vs).run P w = .ok (.value u) w ∧ VRel σ v u := by
  unfold cmpA at h
  split at h
  · rename_i hg
    have := Nat.eq_of_beq_eq_true hg
    subst this
    split at h
    · rename_i a b
      simp only [Option.some.injEq] at h; subst h
      simp only [VRelL, VRel] at ha
      obtain ⟨_, r1, e1, ⟨s1, rfl, rfl⟩, _, r2, rfl, ⟨s2, rfl, rfl⟩, rfl⟩ := ha
      have hvs : vs = #[.string s1, .string s2] := Array.toList_inj.1 (by simpa using e1)
      subst hvs
      refine ⟨.int .i64 (Extern.BytealgCompare.cmp s1 s2), ?_, ?_⟩
      · have hcmp : (Extern.BytealgCompare.compare #[.string s1, .string s2]).run P w = .ok (.int .i64 (Extern.BytealgCompare.cmp s1 s2)) w := rfl
        simp [callFunc, hf, hname, hb, hx, hy, hcmp]
      · simp only [VRel]
        rw [cmp_list]
    · cases h
  · cases h
end
end Go.AM
