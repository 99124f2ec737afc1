/- THE ABSTRACT MACHINE: slots, results, loops' records, marks. -/
import Derived.Test.YtehgboiiphlfeaaGreatDoorAmStep
namespace Go.AM
open Go

section
variable {P : Program} {B : Nat} {σ : Val} {H : AH} {w : World} {T : AT} {tm : Array Value} {nt : Nat}

theorem slot_spec {nt t : Nat} {p : Pos} (h : slot nt t = some p) : t < nt ∧ p = Pos.ofSlot t := by
  unfold slot at h
  split at h
  · rename_i ht; simp at h; exact ⟨ht, h.symm⟩
  · cases h

theorem TRel.put (hT : TRel σ T tm) {t : Nat} (ht : t < tm.size) (hb : tm.size < 1000000000) {v : AV} {u : Value} (h : VRel σ v u) : TRel σ (AT.put T (Pos.ofSlot t) v) (tm.setIfInBounds t u) := by
  intro p
  have hs : (Pos.ofSlot t).toNat = t + 1 := Pos.toNat_ofSlot (by omega)
  by_cases hp : p = Pos.ofSlot t
  · subst hp
    simp only [AX.ev, AT.put, Tr.get_set_eq, hs]
    simp [ht, h]
  · have := hT p
    simp only [AX.ev, AT.put, Tr.get_set_ne _ _ _ _ hp] at this ⊢
    have hne : t ≠ p.toNat - 1 := fun e => hp (Pos.toNat_inj (by rw [hs, e]; have := p.toNat_pos; omega))
    rw [show (tm.setIfInBounds t u).getD (p.toNat - 1) undef = tm.getD (p.toNat - 1) undef by simp [Array.getD_eq_getD_getElem?, Array.getElem?_setIfInBounds, hne]]
    exact this

/-- the slots know an operation's outcome -/
theorem TRel.putO (hT : TRel σ T tm) (hn : tm.size = nt) (hb : nt < 1000000000) {d : Option Pos} {t : Option Tmp} (hd : (match t with | none => d = none | some t => slot nt t = d ∧ d.isSome)) {v : AV} {u : Value} (h : VRel σ v u) :
    TRel σ (AM.putO T d v) (putT tm t u) := by
  cases t with
  | none => simp only at hd; subst hd; exact hT
  | some t =>
    simp only at hd
    obtain ⟨h1, h2⟩ := hd
    obtain ⟨p, rfl⟩ := Option.isSome_iff_exists.1 h2
    obtain ⟨ht, rfl⟩ := slot_spec h1
    exact hT.put (by omega) (by omega) h

theorem putArgs_known : ∀ {ts : List Nat} {ps : List Pos} {vs : List AV} {us : List Value} {T T' : AT}, posOf nt ts = some ps → putArgs T ps vs = some T' → VRelL σ vs us → TRel σ T tm → tm.size = nt → nt < 1000000000 →
    (∀ (i t : Nat) (u : Value), ts[i]? = some t → us[i]? = some u → tm[t]? = some u) → TRel σ T' tm ∧ ts.length = us.length
  | [], ps, vs, us, T, T', h1, h2, h3, hT, _, _, _ => by
    simp [posOf] at h1; subst h1
    cases vs with
    | nil => simp [putArgs] at h2; subst h2; simp only [VRelL] at h3; subst h3; exact ⟨hT, rfl⟩
    | cons _ _ => simp [putArgs] at h2
  | t :: ts, ps, vs, us, T, T', h1, h2, h3, hT, hn, hb, hk => by
    simp only [posOf] at h1
    split at h1
    · rename_i p l hp hl
      simp at h1; subst h1
      cases vs with
      | nil => simp [putArgs] at h2
      | cons v vs =>
        simp only [putArgs] at h2
        simp only [VRelL] at h3
        obtain ⟨u, r, rfl, h4, h5⟩ := h3
        obtain ⟨ht, rfl⟩ := slot_spec hp
        have h0 := hk 0 t u rfl rfl
        have hset : tm.setIfInBounds t u = tm := by
          apply Array.ext_getElem?
          intro j
          rw [Array.getElem?_setIfInBounds]
          split
          · rename_i e
            subst e
            rw [h0]
            simp [show t < tm.size by omega]
          · rfl
        have hT1 := hT.put (t := t) (by omega) (by omega) h4
        rw [hset] at hT1
        obtain ⟨e1, e2⟩ := putArgs_known hl h2 h5 hT1 hn hb (fun i t' u' a b => hk (i + 1) t' u' (by simpa using a) (by simpa using b))
        exact ⟨e1, by simp [e2]⟩
    · cases h1

theorem putArgs_fold : ∀ {ts : List Nat} {ps : List Pos} {vs : List AV} {us : List Value} {T T' : AT} {tm : Array Value}, posOf nt ts = some ps → putArgs T ps vs = some T' → VRelL σ vs us → TRel σ T tm → tm.size = nt → nt < 1000000000 →
    TRel σ T' ((ts.zip us).foldl (fun tm (x : Nat × Value) => tm.setIfInBounds x.1 x.2) tm) ∧ ((ts.zip us).foldl (fun tm (x : Nat × Value) => tm.setIfInBounds x.1 x.2) tm).size = nt ∧ ts.length = us.length
  | [], ps, vs, us, T, T', tm, h1, h2, h3, hT, hn, _ => by
    simp [posOf] at h1; subst h1
    cases vs with
    | nil => simp [putArgs] at h2; subst h2; simp only [VRelL] at h3; subst h3; exact ⟨hT, hn, rfl⟩
    | cons _ _ => simp [putArgs] at h2
  | t :: ts, ps, vs, us, T, T', tm, h1, h2, h3, hT, hn, hb => by
    simp only [posOf] at h1
    split at h1
    · rename_i p l hp hl
      simp at h1; subst h1
      cases vs with
      | nil => simp [putArgs] at h2
      | cons v vs =>
        simp only [putArgs] at h2
        simp only [VRelL] at h3
        obtain ⟨u, r, rfl, h4, h5⟩ := h3
        obtain ⟨ht, rfl⟩ := slot_spec hp
        obtain ⟨e1, e2, e3⟩ := putArgs_fold hl h2 h5 (hT.put (t := t) (by omega) (by omega) h4) (by simpa using hn) hb
        exact ⟨by simpa using e1, by simpa using e2, by simp [e3]⟩
    · cases h1

/-- a call's results -/
theorem results_sound (h : HRel P B σ H w) (hT : TRel σ T tm) (hn : tm.size = nt) (hb : nt < 1000000000) {fn : Func} {res : List (Pos × Option (Option Nat))} (hr : resOf P nt fn.results.toList = some res) {v : AV} (hv : AM.results T H res = some v) :
    ∃ u, (Go.results fn tm).run P w = .ok u w ∧ VRel σ v u := by
  have main : ∀ (rs : List ResultVar) (res : List (Pos × Option (Option Nat))) (l : List AV), resOf P nt rs = some res → resultL T H res = some l →
      ∃ us, (rs.mapM (fun
        | .tmp t => pure (tm.getD t undef)
        | .cell a t => do loadVar t (← asAddr (tm.getD a undef)) : ResultVar → Sem Value)).run P w = .ok us w ∧ VRelL σ l us := by
    intro rs
    induction rs with
    | nil =>
      intro res l h1 h2
      simp [resOf] at h1; subst h1
      simp [resultL] at h2; subst h2
      exact ⟨[], by simp, by simp [VRelL]⟩
    | cons r rs ih =>
      intro res l h1 h2
      cases r with
      | tmp t =>
        simp only [resOf] at h1
        split at h1
        · rename_i p l' hp hl
          simp at h1; subst h1
          simp only [resultL] at h2
          split at h2
          · rename_i v' vs' e1 e2
            simp at h2; subst h2
            obtain ⟨us, q1, q2⟩ := ih _ _ hl e2
            obtain ⟨ht, rfl⟩ := slot_spec hp
            have := hT (Pos.ofSlot t)
            rw [Pos.toNat_ofSlot (by omega)] at this
            simp only [Option.some.injEq] at e1
            subst e1
            refine ⟨tm.getD t undef :: us, ?_, ?_⟩
            · rw [List.mapM_cons]
              simp only [Sem.run_bind, Sem.run_pure, Result.andThen_ok, q1]
            · simp only [VRelL]; exact ⟨_, _, rfl, by simpa using this, q2⟩
          · cases h2
        · cases h1
      | cell a t =>
        simp only [resOf] at h1
        split at h1
        · rename_i p g l' hp hg hl
          simp at h1; subst h1
          simp only [resultL] at h2
          split at h2
          · rename_i v' vs' e1 e2
            simp at h2; subst h2
            obtain ⟨us, q1, q2⟩ := ih _ _ hl e2
            obtain ⟨ht, rfl⟩ := slot_spec hp
            have := hT (Pos.ofSlot a)
            rw [Pos.toNat_ofSlot (by omega)] at this
            obtain ⟨b, o, u, e3, e4, e5⟩ := loadG_sound h hg e1 (a := tm.getD a undef) (by simpa using this)
            refine ⟨u :: us, ?_, ?_⟩
            · have hA : (asAddr (tm.getD a undef)).run P w = .ok ⟨b, o, none⟩ w := by rw [e3]; simp [asAddr]
              rw [List.mapM_cons]
              simp only [Sem.run_bind, Sem.run_pure, Result.andThen_ok, hA, e4, q1]
            · simp only [VRelL]; exact ⟨_, _, rfl, e5, q2⟩
          · cases h2
        · cases h1
  unfold AM.results at hv
  cases hl : resultL T H res with
  | none => simp [hl] at hv
  | some l =>
    obtain ⟨us, q1, q2⟩ := main _ _ _ hr hl
    have hm : (fn.results.mapM (fun
        | .tmp t => pure (tm.getD t undef)
        | .cell a t => do loadVar t (← asAddr (tm.getD a undef)) : ResultVar → Sem Value)).run P w = .ok us.toArray w := by
      rw [Array.mapM_eq_mapM_toList, Sem.run_map, q1, Result.andThen_ok]
    have hrun : (Go.results fn tm).run P w = .ok (if h : us.toArray.size = 1 then us.toArray[0] else .tuple us.toArray) w := by
      unfold Go.results
      rw [Sem.run_bind]
      refine (congrArg (fun r => Result.andThen r _) hm).trans ?_
      simp only [Result.andThen_ok, Sem.run_pure]
    refine ⟨_, hrun, ?_⟩
    have hlen := q2.length
    cases l with
    | nil =>
      simp [hl] at hv; subst hv
      simp only [List.length_nil] at hlen
      have : us = [] := List.eq_nil_of_length_eq_zero hlen
      subst this
      simp [VRel, VRelL]
    | cons a l =>
      cases l with
      | nil =>
        simp [hl] at hv; subst hv
        simp only [VRelL] at q2
        obtain ⟨u, r, rfl, h1, rfl⟩ := q2
        simpa using h1
      | cons b l =>
        simp [hl] at hv; subst hv
        have : ¬ us.toArray.size = 1 := by simp at hlen ⊢; omega
        rw [dif_neg this]
        simp only [VRel]
        exact ⟨_, rfl, by simpa using q2⟩

/-! ### other objects of the heap -/
theorem HRel.allocOther (h : HRel P B σ H w) (o : Obj) : HRel P B σ H (w.alloc o) ∧ Ext σ H w σ H (w.alloc o) := by
  constructor
  · refine ⟨fun b x hx hs => ?_, h.sep, h.newB, h.newC, h.newS, h.cls, h.solo, h.top, by simp; exact Nat.le_succ_of_le h.hB, h.kept⟩
    obtain ⟨L, h1, h2, h3, h4⟩ := h.at_ b x hx hs
    exact ⟨L, h1, h2, by simp; omega, BRel.keep (Val.le_refl σ) (heap_alloc_old w o h3) h4⟩
  · exact ⟨Val.le_refl σ, rfl, rfl, rfl, by simp, fun k hk _ => heap_alloc_old w o hk, fun _ _ hf => hf⟩

/-- a block that does not count is another one -/
theorem HRel.setOther (h : HRel P B σ H w) {r : Nat} (hr : ¬ Foot σ H r) (o : Obj) : HRel P B σ H { w with heap := w.heap.setIfInBounds r o } := by
  refine ⟨fun b x hx hs => ?_, h.sep, h.newB, h.newC, h.newS, h.cls, h.solo, h.top, by simpa using h.hB, h.kept⟩
  obtain ⟨L, h1, h2, h3, h4⟩ := h.at_ b x hx hs
  refine ⟨L, h1, h2, by simpa using h3, BRel.keep (Val.le_refl σ) ?_ h4⟩
  have : r ≠ L.b := fun e => hr ⟨b, L, hs, h1, e.symm⟩
  simp [Array.getElem?_setIfInBounds, this]

theorem Ext.setOther {σ0 : Val} {H0 : AH} {w0 : World} (h : Ext σ0 H0 w0 σ H w) {r : Nat} (hr : w0.heap.size ≤ r) (o : Obj) : Ext σ0 H0 w0 σ H { w with heap := w.heap.setIfInBounds r o } :=
  ⟨h.le, h.os, h.tape, h.output, by simpa using h.size, fun k hk hf => by
    have : r ≠ k := by omega
    simp only [Array.getElem?_setIfInBounds, this, if_false]
    exact h.keep k hk hf, h.foot⟩

/-- a block that is no row is another one that is no row, or goes -/
theorem obj_over (h : HRel P B σ H w) {b : Pos} {L : Loc} (hL : σ b = some L) (hk : H.key b = some (false, b)) {x' : AB} (hx' : ∀ e c v vs ex, x' ≠ .row e c v vs ex) {o : Obj}
    (hbr : BRel P σ { w with heap := w.heap.setIfInBounds L.b o } L x') :
    HRel P B σ { H with bl := H.bl.set (some x') b } { w with heap := w.heap.setIfInBounds L.b o } ∧ Ext σ H w σ { H with bl := H.bl.set (some x') b } { w with heap := w.heap.setIfInBounds L.b o } := by
  have hbl : ∀ b', b' ≠ b → (H.bl.set (some x') b).get b' = H.bl.get b' := fun b' hne => Tr.get_set_ne _ _ _ _ hne
  have hkey : ∀ b', b' ≠ b → AH.key { H with bl := H.bl.set (some x') b } b' = H.key b' := fun b' hne => AH.key_congr (hbl b' hne) fun _ _ => rfl
  have nrow : ∀ e c v vs ex, (H.bl.set (some x') b).get b ≠ some (.row e c v vs ex) := fun e c v vs ex hh => by rw [Tr.get_set_eq] at hh; exact hx' _ _ _ _ _ (Option.some.inj hh)
  have hkb : AH.key { H with bl := H.bl.set (some x') b } b = some (false, b) := by
    unfold AH.key
    cases x' with
    | row e c v vs ex => exact absurd rfl (hx' e c v vs ex)
    | map _ => simp only [Tr.get_set_eq]
    | loop _ _ _ _ _ _ => simp only [Tr.get_set_eq]
  refine h.over (b := b) (x' := x') (L := L) hL (by simp [hk]) { H with bl := H.bl.set (some x') b } rfl rfl rfl rfl h.kept.cv (fun e c v vs ex hx => absurd hx (hx' e c v vs ex)) (w' := { w with heap := w.heap.setIfInBounds L.b o }) rfl rfl rfl (by simp)
    (fun k hne => by simp [Array.getElem?_setIfInBounds, Ne.symm hne]) (fun b' hne hs => ⟨hkey b' hne, ?_⟩) hbr h.newC ?_ ?_ ?_
  · intro e2
    rw [hk] at e2
    unfold AH.key at e2
    split at e2
    · split at e2 <;> simp at e2
    · simp at e2; exact hne e2
    · cases e2
  · intro b' e c v vs ex hx
    by_cases hne : b' = b
    · subst hne; exact absurd hx (nrow _ _ _ _ _)
    · rw [hbl b' hne] at hx; exact h.cls b' e c v vs ex hx
  · intro b' c hk' hc'
    by_cases hne : b' = b
    · subst hne; rw [hkb] at hk'; simp at hk'
    · rw [hkey b' hne] at hk'; exact h.solo b' c hk' hc'
  · intro b1 c1 t L1 Lt e1 v1 vs1 ex1 e2 v2 vs2 ex2 k1 ht k2 s1 s2 hbb q1 q2
    by_cases n1 : b1 = b
    · subst n1; exact absurd q1 (nrow _ _ _ _ _)
    · by_cases n2 : t = b
      · subst n2; exact absurd q2 (nrow _ _ _ _ _)
      · rw [hkey b1 n1] at k1; rw [hkey t n2] at k2; rw [hbl b1 n1] at q1; rw [hbl t n2] at q2
        exact h.top b1 c1 t L1 Lt e1 v1 vs1 ex1 e2 v2 vs2 ex2 k1 ht k2 s1 s2 hbb q1 q2

theorem obj_drop (h : HRel P B σ H w) {b : Pos} {L : Loc} (hL : σ b = some L) (hk : H.key b = some (false, b)) (o : Obj) :
    HRel P B σ { H with bl := H.bl.set none b } { w with heap := w.heap.setIfInBounds L.b o } ∧ Ext σ H w σ { H with bl := H.bl.set none b } { w with heap := w.heap.setIfInBounds L.b o } := by
  have hbl : ∀ b', b' ≠ b → (H.bl.set none b).get b' = H.bl.get b' := fun b' hne => Tr.get_set_ne _ _ _ _ hne
  have hkey : ∀ b', b' ≠ b → AH.key { H with bl := H.bl.set none b } b' = H.key b' := fun b' hne => AH.key_congr (hbl b' hne) fun _ _ => rfl
  have hkb : AH.key { H with bl := H.bl.set none b } b = none := by simp [AH.key, Tr.get_set_eq]
  have hno : ∀ b' k', AH.key { H with bl := H.bl.set none b } b' = some k' → b' ≠ b ∧ H.key b' = some k' := fun b' k' hk' => by
    have hne : b' ≠ b := fun e => by rw [e, hkb] at hk'; cases hk'
    exact ⟨hne, by rw [← hkey b' hne]; exact hk'⟩
  have hne_key : ∀ b' k', b' ≠ b → H.key b' = some k' → k' ≠ (false, b) := fun b' k' hne hk' e => by
    subst e
    unfold AH.key at hk'
    split at hk'
    · split at hk' <;> simp at hk'
    · simp at hk'; exact hne hk'
    · cases hk'
  constructor
  · refine ⟨fun b' x hx hs => ?_, fun b1 b2 k1 k2 L1 L2 e1 e2 hne s1 s2 => ?_, fun b' hb' => ?_, h.newC, h.newS, fun b' e c v vs ex hx => ?_, fun b' c hk' hc' => ?_, ?_, by simpa using h.hB, h.kept.over rfl rfl (Nat.le_refl _) (fun r hr => by
      by_cases hne : r = b
      · subst hne; exact Tr.get_set_eq _ _ _
      · rw [hbl r hne]; exact h.kept.bl r hr) h.kept.cv h.kept.val (fun r hr b' e v vs ex hh => by
      by_cases hne : b' = b
      · subst hne; rw [Tr.get_set_eq] at hh; cases hh
      · rw [hbl b' hne] at hh; exact h.kept.cls r hr _ _ _ _ _ hh)⟩
    · obtain ⟨k', hk'⟩ := Option.isSome_iff_exists.1 hs
      obtain ⟨hne, hk0⟩ := hno b' k' hk'
      rw [hbl b' hne] at hx
      obtain ⟨L', h1, h2, h3, h4⟩ := h.at_ b' x hx (by rw [hk0]; rfl)
      refine ⟨L', h1, h2, by simpa using h3, BRel.keep (Val.le_refl σ) ?_ h4⟩
      have : L.b ≠ L'.b := h.sep b b' _ k' L L' hk hk0 (Ne.symm (hne_key b' k' hne hk0)) hL h1
      simp [Array.getElem?_setIfInBounds, this]
    · exact h.sep b1 b2 k1 k2 L1 L2 (hno _ _ e1).2 (hno _ _ e2).2 hne s1 s2
    · by_cases hne : b' = b
      · subst hne; exact Tr.get_set_eq _ _ _
      · rw [hbl b' hne]; exact h.newB b' hb'
    · by_cases hne : b' = b
      · subst hne; rw [Tr.get_set_eq] at hx; cases hx
      · rw [hbl b' hne] at hx; exact h.cls b' e c v vs ex hx
    · exact h.solo b' c (hno _ _ hk').2 hc'
    · intro b1 c1 t L1 Lt e1 v1 vs1 ex1 e2 v2 vs2 ex2 k1 ht k2 s1 s2 hbb q1 q2
      obtain ⟨n1, k1'⟩ := hno _ _ k1
      obtain ⟨n2, k2'⟩ := hno _ _ k2
      rw [hbl b1 n1] at q1; rw [hbl t n2] at q2
      exact h.top b1 c1 t L1 Lt e1 v1 vs1 ex1 e2 v2 vs2 ex2 k1' ht k2' s1 s2 hbb q1 q2
  · refine ⟨Val.le_refl σ, rfl, rfl, rfl, by simp, fun k hk' hf => ?_, ?_⟩
    · have : L.b ≠ k := fun e => hf ⟨b, L, by rw [hk]; rfl, hL, e⟩
      simp [Array.getElem?_setIfInBounds, this]
    · rintro k _ ⟨b', L', hs, hL', e⟩
      obtain ⟨k', hk'⟩ := Option.isSome_iff_exists.1 hs
      exact ⟨b', L', by rw [(hno b' k' hk').2]; rfl, hL', e⟩
end
end Go.AM
