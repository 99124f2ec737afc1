/- THE ABSTRACT MACHINE: a run of code beside one block more. -/
import Derived.Test.YtehgboiiphlfeaaGreatDoorAmDraw3
namespace Go.AM
open Go

def R.plus (r : Pos) (x : Option AB) : R → R
  | .bad => .bad
  | .fin T H => .fin T (H.plus r x)
  | .ex id T H => .ex id T (H.plus r x)
  | .ret T H => .ret T (H.plus r x)
def RLeft (r : Pos) (H : AH) : R → Prop
  | .bad => True
  | .fin _ H' => Left r H H'
  | .ex _ _ H' => Left r H H'
  | .ret _ H' => Left r H H'
def FrRun (r : Pos) (x : Option AB) (run : AC → AT → AH → R) : Prop := ∀ c T H, Off r H → run c T H ≠ .bad → run c T (H.plus r x) = (run c T H).plus r x ∧ RLeft r H (run c T H)
def FrCall (r : Pos) (x : Option AB) (call : AV → List AV → AH → Option (AV × AH)) : Prop :=
  ∀ f args H v H', Off r H → call f args H = some (v, H') → call f args (H.plus r x) = some (v, H'.plus r x) ∧ Left r H H'

theorem RLeft.trans {r : Pos} {H H1 : AH} (h : Left r H H1) : ∀ {R : R}, RLeft r H1 R → RLeft r H R
  | .bad, _ => trivial
  | .fin _ _, h' => h.trans h'
  | .ex _ _ _, h' => h.trans h'
  | .ret _ _, h' => h.trans h'

section
variable {r : Pos} {x : Option AB} {H H' : AH} {T T' : AT}

theorem resultL_plus (h : Off r H) : ∀ {l : List (Pos × Option (Option Nat))} {vs : List AV}, resultL T H l = some vs → resultL T (H.plus r x) l = some vs
  | [], vs, hv => hv
  | (p, g) :: l, vs, hv => by
    simp only [resultL] at hv ⊢
    cases g with
    | none =>
      simp only at hv ⊢
      cases hl : resultL T H l with
      | none => rw [hl] at hv; simp at hv
      | some us => rw [resultL_plus h hl]; rw [hl] at hv; exact hv
    | some g =>
      simp only at hv ⊢
      cases hg : H.loadG g ((AX.t p).ev T) with
      | none => rw [hg] at hv; simp at hv
      | some u =>
        rw [loadG_plus h hg]
        rw [hg] at hv
        cases hl : resultL T H l with
        | none => rw [hl] at hv; simp at hv
        | some us => rw [resultL_plus h hl]; rw [hl] at hv; exact hv
theorem results_plus (h : Off r H) {l : List (Pos × Option (Option Nat))} {v : AV} (hv : AM.results T H l = some v) : AM.results T (H.plus r x) l = some v := by
  unfold AM.results at hv ⊢
  cases hl : resultL T H l with
  | none => rw [hl] at hv; cases hv
  | some us => rw [resultL_plus h hl]; rw [hl] at hv; exact hv

theorem setbl_plus (h : Off r H) {b : Pos} {z : AB} (hb : H.bl.get b = some z) (y : Option AB) : ({ H.plus r x with bl := (H.plus r x).bl.set y b } : AH) = AH.plus { H with bl := H.bl.set y b } r x ∧ Left r H { H with bl := H.bl.set y b } := by
  have hne := h.ne hb
  refine ⟨?_, ⟨?_, h.lt, h.pk⟩, rfl, id⟩
  · show AH.mk ((plusBl r x H.bl).set _ b) _ _ _ _ = _
    rw [plusBl_set hne]; rfl
  · show (H.bl.set _ b).get r = none
    rw [Tr.get_set_ne _ _ _ _ (Ne.symm hne)]; exact h.bl

variable {run : AC → AT → AH → R} {tab : FuncId → Option CF} {ext : FuncId → List AV → Option AV}

theorem jumpOf_plus {R : R} {j : Option AC} (hj : jumpOf R = some (j, H')) (hl : RLeft r H R) : jumpOf (R.plus r x) = some (j, H'.plus r x) ∧ Left r H H' := by
  cases R <;> simp only [jumpOf] at hj
  · cases hj
  · cases hj; exact ⟨rfl, hl⟩
  · cases hj; exact ⟨rfl, hl⟩
  · cases hj; exact ⟨rfl, hl⟩
theorem jumpOf_ne {R : R} {j : Option AC × AH} (hj : jumpOf R = some j) : R ≠ .bad := by intro e; subst e; cases hj

theorem call_plus (hr : FrRun r x run) : FrCall r x (callWith run tab ext) := by
  intro f args H v H' ho hc
  unfold callWith at hc ⊢
  cases f <;> try (simp at hc; done)
  case fn g cap =>
    simp only at hc ⊢
    cases ht : tab g with
    | none =>
      rw [ht] at hc
      simp only at hc ⊢
      cases he : ext g (args ++ cap) with
      | none => rw [he] at hc; cases hc
      | some u => rw [he] at hc; cases hc; exact ⟨rfl, Left.refl ho⟩
    | some cf =>
      rw [ht] at hc
      simp only at hc ⊢
      cases hp : putArgs .lf cf.ps (args ++ cap) with
      | none => rw [hp] at hc; cases hc
      | some T0 =>
        rw [hp] at hc
        simp only at hc ⊢
        cases hb : run cf.body T0 H with
        | bad => rw [hb] at hc; cases hc
        | ex _ _ _ => rw [hb] at hc; cases hc
        | fin T1 H1 =>
          obtain ⟨e1, e2⟩ := hr cf.body T0 H ho (by rw [hb]; simp)
          rw [hb] at e1 e2 hc
          rw [e1]
          simp only [R.plus] at hc ⊢
          cases hv : AM.results T1 H1 cf.res with
          | none => rw [hv] at hc; cases hc
          | some u => rw [results_plus e2.off hv]; rw [hv] at hc; cases hc; exact ⟨rfl, e2⟩
        | ret T1 H1 =>
          obtain ⟨e1, e2⟩ := hr cf.body T0 H ho (by rw [hb]; simp)
          rw [hb] at e1 e2 hc
          rw [e1]
          simp only [R.plus] at hc ⊢
          cases hv : AM.results T1 H1 cf.res with
          | none => rw [hv] at hc; cases hc
          | some u => rw [results_plus e2.off hv]; rw [hv] at hc; cases hc; exact ⟨rfl, e2⟩
  case yld b =>
    simp only at hc ⊢
    split at hc
    · rename_i T0 ps asg body hb
      rw [bl_plus ho hb]
      simp only
      split at hc
      · rename_i T1 hp
        split at hc
        · rename_i T2 H1 hasg
          obtain ⟨e1, e2⟩ := hr asg T1 H ho (by rw [hasg]; simp)
          rw [hasg] at e1 e2
          have e2 : Left r H H1 := e2
          rw [e1]
          simp only [R.plus]
          split at hc
          · rename_i T0' ps' asg' body' hb1
            rw [bl_plus e2.off hb1]
            simp only
            obtain ⟨f1, f2⟩ := setbl_plus (x := x) e2.off hb1 (some (.loop .busy none T0' ps' asg' body'))
            rw [f1]
            split at hc
            · rename_i j H2 hj
              obtain ⟨g1, g2⟩ := hr body T2 _ f2.off (jumpOf_ne hj)
              rw [g1]
              obtain ⟨k1, k2⟩ := jumpOf_plus (x := x) hj g2
              rw [k1]
              simp only
              split at hc
              · rename_i q T0'' ps'' asg'' body'' hb2
                rw [bl_plus k2.off hb2]
                simp only
                split at hc
                · obtain ⟨l1, l2⟩ := setbl_plus (x := x) k2.off hb2 (some (.loop .ready none T0'' ps'' asg'' body''))
                  cases hc
                  exact ⟨congrArg (fun z => some (AV.bool true, z)) l1, ((e2.trans f2).trans k2).trans l2⟩
                · rename_i j'
                  obtain ⟨l1, l2⟩ := setbl_plus (x := x) k2.off hb2 (some (.loop .done (some j') T0'' ps'' asg'' body''))
                  cases hc
                  exact ⟨congrArg (fun z => some (AV.bool false, z)) l1, ((e2.trans f2).trans k2).trans l2⟩
              · cases hc
            · cases hc
          · cases hc
        · cases hc
      · cases hc
    · cases hc

variable {call : AV → List AV → AH → Option (AV × AH)}

theorem exec1_plus (hf : FrCall r x call) (ho : Off r H) {i : AI} (he : exec1 call i T H = some (T', H')) : exec1 call i T (H.plus r x) = some (T', H'.plus r x) ∧ Left r H H' := by
  have calls : ∀ (d : Option Pos) (f : AX) (args : List AX) {T' H'}, (match call (f.ev T) (evs T args) H with | some (v, H) => some (AM.putO T d v, H) | none => none) = some (T', H') →
      (match call (f.ev T) (evs T args) (H.plus r x) with | some (v, H) => some (AM.putO T d v, H) | none => none) = some (T', H'.plus r x) ∧ Left r H H' := by
    intro d f args T' H' h
    cases hv : call (f.ev T) (evs T args) H with
    | none => rw [hv] at h; cases h
    | some p =>
      obtain ⟨v, H2⟩ := p
      obtain ⟨e1, e2⟩ := hf _ _ _ _ _ ho hv
      rw [e1]; rw [hv] at h; cases h; exact ⟨rfl, e2⟩
  cases i
  case call d f args => exact calls d f args he
  case gd g b d op =>
    simp only [exec1] at he ⊢
    cases hg : (AX.t g).ev T <;> rw [hg] at he <;> try (simp at he; done)
    case tup l => cases l with
      | nil => cases he; exact ⟨rfl, Left.refl ho⟩
      | cons _ _ => simp at he
    rename_i z
    simp only at he ⊢
    split at he
    · rename_i c1
      rw [if_pos c1]
      cases op
      case call d' f args => exact calls d' f args he
      all_goals (
        dsimp only at he ⊢
        cases hv : AM.val T H _ with
        | none => rw [hv] at he; cases he
        | some p =>
          obtain ⟨v, H2⟩ := p
          obtain ⟨e1, e2⟩ := val_plus (x := x) ho hv
          rw [e1]; rw [hv] at he; cases he; exact ⟨rfl, e2⟩)
    · rename_i c1
      rw [if_neg c1]
      cases he; exact ⟨rfl, Left.refl ho⟩
  case chk d op =>
    simp only [exec1] at he ⊢
    cases hv : AM.val T H op with
    | none => rw [hv] at he; cases he
    | some p =>
      obtain ⟨v, H2⟩ := p
      obtain ⟨e1, e2⟩ := val_plus (x := x) ho hv
      rw [e1]; rw [hv] at he
      simp only at he ⊢
      split at he
      · rename_i c1; rw [if_pos c1]; cases he; exact ⟨rfl, Left.refl ho⟩
      · cases he
  all_goals (
    simp only [exec1] at he ⊢
    cases hv : AM.val T H _ with
    | none => rw [hv] at he; cases he
    | some p =>
      obtain ⟨v, H2⟩ := p
      obtain ⟨e1, e2⟩ := val_plus (x := x) ho hv
      rw [e1]; rw [hv] at he; cases he; exact ⟨rfl, e2⟩)

theorem execOps_plus (hf : FrCall r x call) : ∀ (l : List AI) (T : AT) (H : AH), Off r H → execOps call l T H ≠ .bad → execOps call l T (H.plus r x) = (execOps call l T H).plus r x ∧ RLeft r H (execOps call l T H)
  | [], T, H, ho, _ => ⟨rfl, Left.refl ho⟩
  | i :: l, T, H, ho, hne => by
    simp only [execOps] at hne ⊢
    cases he : exec1 call i T H with
    | none => rw [he] at hne; exact absurd rfl hne
    | some p =>
      obtain ⟨T1, H1⟩ := p
      rw [he] at hne
      obtain ⟨e1, e2⟩ := exec1_plus hf ho he
      rw [e1]
      simp only at hne ⊢
      obtain ⟨f1, f2⟩ := execOps_plus hf l T1 H1 e2.off hne
      exact ⟨f1, RLeft.trans e2 f2⟩

theorem erase_id {f : List (Option Pos)} (h : some r ∉ f) : f.map (erase r) = f := by
  induction f with
  | nil => rfl
  | cons o f ih =>
    simp only [List.mem_cons, not_or] at h
    simp only [List.map_cons, ih h.2]
    congr 1
    cases o with
    | none => rfl
    | some p =>
      have : p.beq r = false := by
        cases hb : p.beq r with
        | false => rfl
        | true => exact absurd (congrArg some (Pos.beq_iff.1 hb)).symm h.1
      simp only [erase, this]; rfl
theorem takeN_mem : ∀ {f : List (Option Pos)} {q : Nat} {p : Pos} {f' : List (Option Pos)}, takeN f q = some (p, f') → some p ∈ f ∧ ∀ o, some o ∈ f' → some o ∈ f
  | [], q, p, f', h => by simp [takeN] at h
  | o :: f, 0, p, f', h => by
    cases o with
    | none => simp [takeN] at h
    | some p0 =>
      simp only [takeN, Option.some.injEq, Prod.mk.injEq] at h
      obtain ⟨rfl, rfl⟩ := h
      exact ⟨List.mem_cons_self .., fun o ho => by
        rcases List.mem_cons.1 ho with h | h
        · cases h
        · exact List.mem_cons_of_mem _ h⟩
  | o :: f, q + 1, p, f', h => by
    have e : takeN (o :: f) (q + 1) = match takeN f q with | some (r, l) => some (r, o :: l) | none => none := by cases o <;> rfl
    rw [e] at h
    cases ht : takeN f q with
    | none => rw [ht] at h; cases h
    | some y =>
      obtain ⟨p1, f1⟩ := y
      rw [ht] at h
      simp only [Option.some.injEq, Prod.mk.injEq] at h
      obtain ⟨rfl, rfl⟩ := h
      obtain ⟨h1, h2⟩ := takeN_mem ht
      refine ⟨List.mem_cons_of_mem _ h1, fun o' ho => ?_⟩
      rcases List.mem_cons.1 ho with h | h
      · exact h ▸ List.mem_cons_self ..
      · exact List.mem_cons_of_mem _ (h2 o' h)

/-- the head's names are others -/
structure LeftD (r : Pos) (rs : List (List (Option Pos))) (H' : AH) : Prop where
  off : Off r H'
  rs : ∃ f', H'.rs = f' :: rs ∧ some r ∉ f'

theorem chk0_plus (ho : Off r H) {op : AI} (h : chk0 T H op = true) : chk0 T (H.plus r x) op = true := by
  unfold chk0 at h ⊢
  cases hd : op.dst with
  | none => rw [hd] at h; cases h
  | some d =>
    rw [hd] at h
    simp only at h ⊢
    cases hv : AM.val T H op with
    | none => rw [hv] at h; cases h
    | some p =>
      obtain ⟨v, H2⟩ := p
      rw [(val_plus (x := x) ho hv).1]
      rw [hv] at h; exact h
theorem chkOk_plus (ho : Off r H) {op : AI} (h : chkOk T H op = true) : chkOk T (H.plus r x) op = true := by
  cases op
  case gd g b d i =>
    simp only [chkOk] at h ⊢
    cases hg : (AX.t g).ev T <;> rw [hg] at h <;> try (simp at h; done)
    case tup l => cases l with
      | nil => rfl
      | cons _ _ => simp at h
    rename_i z
    simp only at h ⊢
    split at h
    · rename_i c1; rw [if_pos c1]; exact chk0_plus ho h
    · rename_i c1; rw [if_neg c1]
  all_goals (simp only [chkOk] at h ⊢; exact chk0_plus ho h)

theorem execD1_plus (hf : FrCall r x call) {f : List (Option Pos)} {rs : List (List (Option Pos))} (hrs : H.rs = f :: rs) (hr : some r ∉ f) (ho : Off r H) {d : DI} (he : execD1 call d T H = some (T', H')) :
    execD1 call d T (H.plus r x) = some (T', H'.plus r x) ∧ LeftD r rs H' ∧ (H.pk = none → H'.pk = none) := by
  cases d with
  | chk i =>
    simp only [execD1] at he ⊢
    split at he
    · rename_i c1
      rw [if_pos (chkOk_plus ho c1)]
      cases he; exact ⟨rfl, ⟨ho, f, hrs, hr⟩, id⟩
    · cases he
  | op q i =>
    cases q with
    | none =>
      simp only [execD1] at he ⊢
      obtain ⟨e1, e2⟩ := exec1_plus hf ho he
      exact ⟨e1, ⟨e2.off, f, e2.rs.trans hrs, hr⟩, e2.pk⟩
    | some q =>
      simp only [execD1] at he ⊢
      have ea : H.arm q = match takeN f q with | some (r, f) => some { H with pk := some r, rs := f :: rs } | none => none := by unfold AH.arm; rw [hrs]; rfl
      rw [ea] at he
      have eb : (H.plus r x).arm q = match takeN f q with | some (r', f) => some { H.plus r x with pk := some r', rs := f :: rs.map fun f => f.map (erase r) } | none => none := by
        have hh : (H.plus r x).rs = f :: rs.map fun f => f.map (erase r) := by
          show H.rs.map _ = _
          rw [hrs, List.map_cons, erase_id hr]
        unfold AH.arm; rw [hh]; rfl
      rw [eb]
      cases ht : takeN f q with
      | none => rw [ht] at he; cases he
      | some y =>
        obtain ⟨p, f'⟩ := y
        rw [ht] at he
        simp only at he ⊢
        obtain ⟨m1, m2⟩ := takeN_mem ht
        have hr' : some r ∉ f' := fun h => hr (m2 r h)
        have hp : p ≠ r := fun e => hr (e ▸ m1)
        have ho1 : Off r { H with pk := some p, rs := f' :: rs } := ⟨ho.bl, ho.lt, by simpa using hp⟩
        have e3 : ({ H.plus r x with pk := some p, rs := f' :: rs.map fun f => f.map (erase r) } : AH) = AH.plus { H with pk := some p, rs := f' :: rs } r x := by
          show AH.mk _ _ _ _ _ = AH.mk _ _ _ _ ((f' :: rs).map _)
          rw [List.map_cons, erase_id hr']
          rfl
        rw [e3]
        cases hx : exec1 call i T { H with pk := some p, rs := f' :: rs } with
        | none => rw [hx] at he; cases he
        | some z =>
          obtain ⟨T2, H2⟩ := z
          rw [hx] at he
          obtain ⟨e1, e2⟩ := exec1_plus (x := x) hf ho1 hx
          rw [e1]
          cases he
          exact ⟨rfl, ⟨⟨e2.off.bl, e2.off.lt, by simp [AH.disarm]⟩, f', e2.rs, hr'⟩, fun _ => rfl⟩

theorem execD_plus (hf : FrCall r x call) {rs : List (List (Option Pos))} : ∀ (l : List DI) (T : AT) (H : AH) (f : List (Option Pos)), H.rs = f :: rs → some r ∉ f → Off r H → execD call l T H ≠ .bad →
    ∃ T' H', execD call l T H = .fin T' H' ∧ execD call l T (H.plus r x) = .fin T' (H'.plus r x) ∧ LeftD r rs H' ∧ (H.pk = none → H'.pk = none)
  | [], T, H, f, hrs, hr, ho, _ => ⟨T, H, rfl, rfl, ⟨ho, f, hrs, hr⟩, id⟩
  | d :: l, T, H, f, hrs, hr, ho, hne => by
    simp only [execD] at hne ⊢
    cases he : execD1 call d T H with
    | none => rw [he] at hne; exact absurd rfl hne
    | some p =>
      obtain ⟨T1, H1⟩ := p
      rw [he] at hne
      obtain ⟨e1, e2, e3⟩ := execD1_plus hf hrs hr ho he
      rw [e1]
      simp only at hne ⊢
      obtain ⟨f', g1, g2⟩ := e2.rs
      obtain ⟨T', H', k1, k2, k3, k4⟩ := execD_plus hf l T1 H1 f' g1 g2 e2.off hne
      exact ⟨T', H', k1, k2, k3, fun e => k4 (e3 e)⟩

theorem names_lt : ∀ {m : Nat} {p q : Pos}, some q ∈ names m p → p.toNat ≤ q.toNat
  | 0, _, _, h => by simp [names] at h
  | m + 1, p, q, h => by
    simp only [names, List.mem_cons, Option.some.injEq] at h
    rcases h with rfl | h
    · exact Nat.le_refl _
    · have := names_lt h
      rw [Pos.toNat_succ] at this; omega
theorem skip_le : ∀ (m : Nat) (p : Pos), p.toNat ≤ (skip m p).toNat
  | 0, _ => Nat.le_refl _
  | m + 1, p => by have := skip_le m p.succ; rw [Pos.toNat_succ] at this; simp only [skip]; omega

theorem exec_plus (tab : FuncId → Option CF) (ext : FuncId → List AV → Option AV) : ∀ n, FrRun r x (exec tab ext n)
  | 0 => fun c T H _ hne => absurd rfl hne
  | n + 1 => by
    have ih := exec_plus tab ext n
    have hf := call_plus (tab := tab) (ext := ext) ih
    intro c T H ho hne
    cases c with
    | skip => exact ⟨rfl, Left.refl ho⟩
    | ops l => exact execOps_plus hf l T H ho hne
    | dops m l =>
      have e : ∀ H, exec tab ext (n + 1) (.dops m l) T H = match H.pk with
        | none => match execD (callWith (exec tab ext n) tab ext) l T (H.reserve m) with
          | .fin T H => .fin T H.pop
          | _ => .bad
        | some _ => .bad := fun _ => rfl
      rw [e] at hne ⊢
      rw [e]
      show (match H.pk with | none => _ | some _ => _) = _ ∧ _
      cases hp : H.pk with
      | some p => rw [hp] at hne; exact absurd rfl hne
      | none =>
        rw [hp] at hne
        simp only at hne ⊢
        have hr : some r ∉ names m H.nx := fun h => by have := names_lt h; have := ho.lt; omega
        have e1 : (H.plus r x).reserve m = (H.reserve m).plus r x := by
          show AH.mk _ _ _ _ (names m H.nx :: _) = AH.mk _ _ _ _ ((names m H.nx :: H.rs).map _)
          rw [List.map_cons, erase_id hr]; rfl
        rw [e1]
        have ho1 : Off r (H.reserve m) := ⟨ho.bl, Nat.lt_of_lt_of_le ho.lt (skip_le m H.nx), ho.pk⟩
        have hne1 : execD (callWith (exec tab ext n) tab ext) l T (H.reserve m) ≠ .bad := fun e => by rw [e] at hne; exact hne rfl
        obtain ⟨T', H', k1, k2, k3, k4⟩ := execD_plus (x := x) hf l T (H.reserve m) (names m H.nx) rfl hr ho1 hne1
        rw [k1, k2]
        obtain ⟨f', g1, g2⟩ := k3.rs
        refine ⟨?_, ⟨⟨k3.off.bl, k3.off.lt, k3.off.pk⟩, ?_, fun e => ?_⟩⟩
        · show R.fin T' (AH.mk _ _ _ _ (H'.rs.map _).tail) = R.fin T' (AH.mk _ _ _ _ (H'.rs.tail.map _))
          rw [g1]; rfl
        · show H'.rs.tail = H.rs
          rw [g1]; rfl
        · exact k4 hp
    | seq a b =>
      simp only [exec] at hne ⊢
      have ha : exec tab ext n a T H ≠ .bad := fun e => by rw [e] at hne; exact hne rfl
      obtain ⟨e1, e2⟩ := ih a T H ho ha
      rw [e1]
      cases hr : exec tab ext n a T H with
      | bad => exact absurd hr ha
      | fin T1 H1 =>
        rw [hr] at hne e2
        obtain ⟨f1, f2⟩ := ih b T1 H1 e2.off hne
        exact ⟨f1, RLeft.trans e2 f2⟩
      | ex id T1 H1 => rw [hr] at e2; exact ⟨rfl, e2⟩
      | ret T1 H1 => rw [hr] at e2; exact ⟨rfl, e2⟩
    | cond y a b =>
      simp only [exec] at hne ⊢
      cases hy : y.ev T <;> rw [hy] at hne <;> try (exact absurd rfl hne)
      rename_i z
      cases z with
      | true => exact ih a T H ho hne
      | false => exact ih b T H ho hne
    | block id a =>
      simp only [exec] at hne ⊢
      have ha : exec tab ext n a T H ≠ .bad := fun e => by rw [e] at hne; exact hne rfl
      obtain ⟨e1, e2⟩ := ih a T H ho ha
      rw [e1]
      cases hr : exec tab ext n a T H with
      | bad => exact absurd hr ha
      | fin T1 H1 => rw [hr] at e2; exact ⟨rfl, e2⟩
      | ex j T1 H1 =>
        rw [hr] at e2
        simp only [R.plus]
        by_cases hj : Nat.beq j id = true
        · rw [if_pos hj, if_pos hj]; exact ⟨rfl, e2⟩
        · rw [if_neg hj, if_neg hj]; exact ⟨rfl, e2⟩
      | ret T1 H1 => rw [hr] at e2; exact ⟨rfl, e2⟩
    | loop a =>
      simp only [exec] at hne ⊢
      have ha : exec tab ext n a T H ≠ .bad := fun e => by rw [e] at hne; exact hne rfl
      obtain ⟨e1, e2⟩ := ih a T H ho ha
      rw [e1]
      cases hr : exec tab ext n a T H with
      | bad => exact absurd hr ha
      | fin T1 H1 =>
        rw [hr] at hne e2
        obtain ⟨f1, f2⟩ := ih (.loop a) T1 H1 e2.off hne
        exact ⟨f1, RLeft.trans e2 f2⟩
      | ex id T1 H1 => rw [hr] at e2; exact ⟨rfl, e2⟩
      | ret T1 H1 => rw [hr] at e2; exact ⟨rfl, e2⟩
    | exit id => exact ⟨rfl, Left.refl ho⟩
    | ret => exact ⟨rfl, Left.refl ho⟩
    | rng f ps asg body =>
      simp only [exec] at hne ⊢
      obtain ⟨n1, n2⟩ := new_plus (x := x) ho (.loop .ready none T ps asg body)
      have hnm : (H.plus r x).nm = H.nm := rfl
      rw [hnm, n1]
      simp only
      cases hc : callWith (exec tab ext n) tab ext (f.ev T) [.yld H.nm] (H.new (.loop .ready none T ps asg body)).2 with
      | none => rw [hc] at hne; exact absurd rfl hne
      | some p =>
        obtain ⟨v, H1⟩ := p
        rw [hc] at hne
        obtain ⟨e1, e2⟩ := hf _ _ _ _ _ n2.off hc
        rw [e1]
        simp only at hne ⊢
        cases hb : H1.bl.get H.nm with
        | none => rw [hb] at hne; exact absurd rfl hne
        | some z =>
          rw [bl_plus e2.off hb]
          rw [hb] at hne
          obtain ⟨s1, s2⟩ := setbl_plus (x := x) e2.off hb none
          have hl := (n2.trans e2).trans s2
          cases z with
          | row _ _ _ _ _ => exact absurd rfl hne
          | map _ => exact absurd rfl hne
          | loop s j T0 ps0 asg0 body0 =>
            cases s <;> simp only at hne ⊢ <;> first
              | (exact absurd rfl hne)
              | (cases j with
                | none => exact ⟨congrArg (R.fin T) s1, hl⟩
                | some c =>
                  cases c <;> simp only at hne ⊢ <;> first
                    | (exact absurd rfl hne)
                    | (rw [s1]; obtain ⟨f1, f2⟩ := ih _ T _ s2.off hne; exact ⟨f1, RLeft.trans hl f2⟩))
end
end Go.AM
