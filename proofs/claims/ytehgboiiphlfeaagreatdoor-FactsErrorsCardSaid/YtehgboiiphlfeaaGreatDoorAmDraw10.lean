/- THE ABSTRACT MACHINE: a region whose order is drawn, in the model. -/
import Derived.Test.YtehgboiiphlfeaaGreatDoorAmDraw9
namespace Go.AM
open Go

section
variable {P : Program} {B : Nat} {σ : Val} {H : AH} {w : World} {T : AT} {tm : Array Value} {nt : Nat}

/-- other names are kept -/
theorem HRel.names (h : HRel P B σ H w) {H' : AH} (hb : H'.bl = H.bl) (hc : H'.cv = H.cv) (hn : H.nx.toNat ≤ H'.nx.toNat) (hk : Kept σ H') : HRel P B σ H' w ∧ Ext σ H w σ H' w := by
  have hcls : ∀ c, H'.cls c = H.cls c := fun c => by unfold AH.cls; rw [hc]
  have hkey : ∀ b, H'.key b = H.key b := fun b => AH.key_congr (by rw [hb]) fun c _ => hcls c
  refine ⟨⟨?_, ?_, ?_, ?_, ?_, ?_, ?_, ?_, h.hB, hk⟩, Val.le_refl σ, rfl, rfl, rfl, Nat.le_refl _, fun _ _ _ => rfl, ?_⟩
  · intro b x hx hs
    rw [hb] at hx; rw [hkey] at hs
    exact h.at_ b x hx hs
  · intro b b' k k' L L' e1 e2
    rw [hkey] at e1 e2
    exact h.sep b b' k k' L L' e1 e2
  · intro b hb'; rw [hb]; exact h.newB b (by omega)
  · intro b hb'; rw [hc]; exact h.newC b (by omega)
  · intro b hb'; exact h.newS b (by omega)
  · intro b e c v vs ex hx
    rw [hb] at hx
    have := h.cls b e c v vs ex hx
    rw [hcls]; exact ⟨by omega, this.2⟩
  · intro b c hk' hc'
    rw [hkey] at hk'; rw [hcls] at hc'
    exact h.solo b c hk' hc'
  · intro b c t L Lt e v vs ex e' v' vs' ex' k1 ht k2 s1 s2 hbb p1 p2
    rw [hkey] at k1 k2; rw [hcls] at ht; rw [hb] at p1 p2
    exact h.top b c t L Lt e v vs ex e' v' vs' ex' k1 ht k2 s1 s2 hbb p1 p2
  · rintro k _ ⟨b, L, hs, hL, e⟩
    exact ⟨b, L, by rw [← hkey b]; exact hs, hL, e⟩

theorem Kept.sub {H' : AH} (h : Kept σ H) (hb : H'.bl = H.bl) (hc : H'.cv = H.cv) (hn : H.nx.toNat ≤ H'.nx.toNat) (hs : ∀ r ∈ H'.allr, r ∈ H.allr) (hnd : H'.allr.Nodup) : Kept σ H' :=
  ⟨hnd, fun r hr => Nat.lt_of_lt_of_le (h.lt r (hs r hr)) hn, fun r hr => by rw [hb]; exact h.bl r (hs r hr), fun r hr => by rw [hc]; exact h.cv r (hs r hr), fun r hr => h.val r (hs r hr),
   fun r hr => by rw [hb]; exact h.cls r (hs r hr)⟩

theorem mem_names {m : Nat} {p r : Pos} (h : r ∈ (names m p).filterMap id) : ∃ q, q < m ∧ r = addP p q := by
  obtain ⟨o, ho, hr⟩ := List.mem_filterMap.1 h
  obtain ⟨q, hq⟩ := List.mem_iff_getElem?.1 ho
  rw [names_get] at hq
  split at hq
  · rename_i hlt
    simp only [Option.some.injEq] at hq
    subst hq
    simp only [id] at hr
    exact ⟨q, hlt, (Option.some.inj hr).symm⟩
  · cases hq
theorem names_nodup : ∀ (m : Nat) (p : Pos), ((names m p).filterMap id).Nodup
  | 0, _ => by simp [AM.names]
  | m + 1, p => by
    simp only [AM.names, List.filterMap_cons, id]
    refine List.nodup_cons.2 ⟨fun hm => ?_, names_nodup m p.succ⟩
    obtain ⟨q, _, e⟩ := mem_names hm
    have := congrArg Pos.toNat e
    rw [addP_toNat, Pos.toNat_succ] at this; omega

theorem HRel.reserve (h : HRel P B σ H w) (hpk : H.pk = none) (m : Nat) : HRel P B σ (H.reserve m) w ∧ Ext σ H w σ (H.reserve m) w := by
  have hall : (H.reserve m).allr = (AM.names m H.nx).filterMap id ++ H.allr := by
    unfold AH.allr AH.reserve
    simp only [hpk, List.flatten_cons, List.filterMap_append, List.nil_append]
  refine h.names rfl rfl (by show _ ≤ (skip m H.nx).toNat; rw [skip_toNat]; omega) ⟨?_, fun r hr => ?_, fun r hr => ?_, fun r hr => ?_, fun r hr => ?_, fun r hr b e v vs ex hx => ?_⟩
  · rw [hall, List.nodup_append]
    refine ⟨names_nodup m H.nx, h.kept.nodup, fun a ha b hb hab => ?_⟩
    obtain ⟨q, _, e⟩ := mem_names ha
    have := h.kept.lt b hb
    rw [← hab, e, addP_toNat] at this; omega
  all_goals (
    rw [hall] at hr
    rcases List.mem_append.1 hr with hr | hr)
  · obtain ⟨q, hq, rfl⟩ := mem_names hr
    show _ < (skip m H.nx).toNat
    rw [skip_toNat, addP_toNat]; omega
  · have := h.kept.lt r hr
    show _ < (skip m H.nx).toNat
    rw [skip_toNat]; omega
  · obtain ⟨q, hq, rfl⟩ := mem_names hr
    exact h.newB _ (by rw [addP_toNat]; omega)
  · exact h.kept.bl r hr
  · obtain ⟨q, hq, rfl⟩ := mem_names hr
    exact h.newC _ (by rw [addP_toNat]; omega)
  · exact h.kept.cv r hr
  · obtain ⟨q, hq, rfl⟩ := mem_names hr
    exact h.newS _ (by rw [addP_toNat]; omega)
  · exact h.kept.val r hr
  · obtain ⟨q, hq, rfl⟩ := mem_names hr
    have := (h.cls b e _ v vs ex hx).1
    rw [addP_toNat] at this; omega
  · exact h.kept.cls r hr b e v vs ex hx

theorem takeN_perm : ∀ {f : List (Option Pos)} {q : Nat} {r : Pos} {f' : List (Option Pos)}, takeN f q = some (r, f') → (f.filterMap id).Perm (r :: f'.filterMap id)
  | [], q, r, f', h => by simp [takeN] at h
  | o :: f, 0, r, f', h => by
    cases o with
    | none => simp [takeN] at h
    | some p =>
      simp only [takeN, Option.some.injEq, Prod.mk.injEq] at h
      obtain ⟨rfl, rfl⟩ := h
      simp
  | o :: f, q + 1, r, f', h => by
    have e : takeN (o :: f) (q + 1) = match takeN f q with | some (r, l) => some (r, o :: l) | none => none := by cases o <;> rfl
    rw [e] at h
    cases ht : takeN f q with
    | none => rw [ht] at h; cases h
    | some y =>
      obtain ⟨p1, f1⟩ := y
      rw [ht] at h
      simp only [Option.some.injEq, Prod.mk.injEq] at h
      obtain ⟨rfl, rfl⟩ := h
      have ih := takeN_perm ht
      cases o with
      | none => simpa using ih
      | some p =>
        simp only [List.filterMap_cons, id]
        exact (List.Perm.cons p ih).trans (List.Perm.swap ..)

theorem HRel.arm (h : HRel P B σ H w) {q : Nat} {H1 : AH} (ha : H.arm q = some H1) : HRel P B σ H1 w ∧ Ext σ H w σ H1 w := by
  unfold AH.arm at ha
  split at ha
  · rename_i f rs hrs
    split at ha
    · rename_i r f' ht
      cases ha
      have hp := takeN_perm ht
      have e1 : H.allr = (match H.pk with | some r => [r] | none => []) ++ (f.filterMap id ++ rs.flatten.filterMap id) := by
        unfold AH.allr; rw [hrs]; simp; rfl
      have e2 : AH.allr { H with pk := some r, rs := f' :: rs } = (r :: f'.filterMap id) ++ rs.flatten.filterMap id := by
        simp [AH.allr]
      have hF : ((r :: f'.filterMap id) ++ rs.flatten.filterMap id).Perm (f.filterMap id ++ rs.flatten.filterMap id) := (hp.append_right _).symm
      refine h.names rfl rfl (Nat.le_refl _) (h.kept.sub rfl rfl (Nat.le_refl _) (fun r' hr' => ?_) ?_)
      · rw [e2] at hr'
        rw [e1]
        exact List.mem_append_right _ (hF.mem_iff.1 hr')
      · rw [e2]
        have := h.kept.nodup
        rw [e1, List.nodup_append] at this
        exact hF.nodup_iff.2 this.2.1
    · cases ha
  · cases ha
theorem HRel.disarm (h : HRel P B σ H w) : HRel P B σ H.disarm w ∧ Ext σ H w σ H.disarm w := by
  have e : H.disarm.allr = H.rs.flatten.filterMap id := by unfold AH.allr AH.disarm; simp
  refine h.names rfl rfl (Nat.le_refl _) (h.kept.sub rfl rfl (Nat.le_refl _) (fun r' hr' => ?_) ?_)
  · rw [e] at hr'; exact List.mem_append_right _ hr'
  · rw [e]
    have := h.kept.nodup
    unfold AH.allr at this
    exact (List.nodup_append.1 this).2.1
theorem HRel.pop (h : HRel P B σ H w) : HRel P B σ H.pop w ∧ Ext σ H w σ H.pop w := by
  have e : H.pop.allr = (match H.pk with | some r => [r] | none => []) ++ H.rs.tail.flatten.filterMap id := rfl
  have hs : (H.rs.tail.flatten.filterMap id).Sublist (H.rs.flatten.filterMap id) := by
    cases H.rs with
    | nil => exact List.Sublist.refl _
    | cons f rs => simp only [List.tail_cons, List.flatten_cons, List.filterMap_append]; exact List.sublist_append_right _ _
  have hs2 : H.pop.allr.Sublist H.allr := by rw [e]; exact (List.Sublist.refl _).append hs
  exact h.names rfl rfl (Nat.le_refl _) (h.kept.sub rfl rfl (Nat.le_refl _) (fun r' hr' => hs2.subset hr') (hs2.nodup h.kept.nodup))

theorem run_ixD {tab ext} (E : Env P tab ext) {run : AC → AT → AH → R} (hrun : Sound P run) {ops : Array Oper} {is : List AI} (hl : opersOf P nt ops ops.toList = some is) (qf : Nat → Option Nat) (hb : nt < 1000000000) (fr : Frame) (df : List Deferred) (k : List Item) (cs : List Frame) :
    ∀ (l : List Nat) {σ : Val} {H : AH} {w : World} {T : AT} {tm : Array Value} {T' : AT} {H' : AH}, execIxD (callWith run tab ext) is qf l T H = some (T', H') → HRel P B σ H w → TRel σ T tm → tm.size = nt →
      ∃ σ' w' tm', tm'.size = nt ∧ HRel P B σ' H' w' ∧ Ext σ H w σ' H' w' ∧ TRel σ' T' tm' ∧ Steps P (lone (at_ fr tm df (.inRegion ops l :: k)) cs w) (lone (at_ fr tm' df k) cs w')
  | [], σ, H, w, T, tm, T', H', he, h, hT, hn => by
    simp only [execIxD, Option.some.injEq, Prod.mk.injEq] at he
    obtain ⟨rfl, rfl⟩ := he
    exact ⟨σ, w, tm, hn, h, Ext.refl _ _ _, hT, .one s_region_end⟩
  | i :: l, σ, H, w, T, tm, T', H', he, h, hT, hn => by
    simp only [execIxD] at he
    split at he
    · rename_i a ha
      split at he
      · rename_i T1 H1 h1
        obtain ⟨hlen, hget⟩ := opersOf_get hl
        have hi : i < ops.size := by
          have := (List.getElem?_eq_some_iff.1 ha).1
          simpa [hlen] using this
        have ho : ops[i]? = some ops[i] := by simp [hi]
        obtain ⟨a', ha', hop⟩ := hget i ops[i] (by simp [hi])
        rw [ha] at ha'; cases ha'
        have one : ∃ σ1 w1 tm1, tm1.size = nt ∧ HRel P B σ1 H1 w1 ∧ Ext σ H w σ1 H1 w1 ∧ TRel σ1 T1 tm1 ∧ Steps P (lone (at_ fr tm df (.inRegion ops (i :: l) :: k)) cs w) (lone (at_ fr tm1 df (.inRegion ops l :: k)) cs w1) := by
          simp only [execD1] at h1
          split at h1
          · exact step1 (rest := l) E hrun ho hop h hT hn hb h1 fr df k cs
          · split at h1
            · rename_i Ha harm
              split at h1
              · rename_i T2 H2 hx
                cases h1
                obtain ⟨g1, g2⟩ := h.arm harm
                obtain ⟨σ1, w1, tm1, a1, a2, a3, a4, a5⟩ := step1 (rest := l) E hrun ho hop g1 hT hn hb hx fr df k cs
                obtain ⟨k1, k2⟩ := a2.disarm
                exact ⟨σ1, w1, tm1, a1, k1, (g2.trans a3).trans k2, a4, a5⟩
              · cases h1
            · cases h1
        obtain ⟨σ1, w1, tm1, a1, a2, a3, a4, a5⟩ := one
        obtain ⟨σ2, w2, tm2, b1, b2, b3, b4, b5⟩ := run_ixD E hrun hl qf hb fr df k cs l he a2 a4 a1
        exact ⟨σ2, w2, tm2, b1, b2, a3.trans b3, b4, a5.trans b5⟩
      · cases he
    · cases he

theorem dregion_ok {tab ext} (E : Env P tab ext) {run : AC → AT → AH → R} (hrun : Sound P run) (hfr : ∀ r x, FrCall r x (callWith run tab ext)) {id : Nat} {ops : Array Oper} {is : List AI} {m : Nat} {dl : List DI}
    (hl : opersOf P nt ops ops.toList = some is) (hd : dOf ops is = some (m, dl)) (hpk : H.pk = none)
    (hne : execD (callWith run tab ext) dl T (H.reserve m) ≠ .bad) (h : HRel P B σ H w) (hT : TRel σ T tm) (hn : tm.size = nt) (hb : nt < 1000000000) (fr : Frame) (df : List Deferred) (k : List Item) (cs : List Frame) :
    ∃ T' H', execD (callWith run tab ext) dl T (H.reserve m) = .fin T' H' ∧ ∃ σ' w' tm', tm'.size = nt ∧ HRel P B σ' H'.pop w' ∧ Ext σ H w σ' H'.pop w' ∧ TRel σ' T' tm' ∧
      Steps P (lone (at_ fr tm df (.code (.region id ops true) :: k)) cs w) (lone (at_ fr tm' df k) cs w') := by
  obtain ⟨hlen, _⟩ := opersOf_get hl
  have hlen : is.length = ops.size := by simpa using hlen
  unfold dOf at hd
  dsimp only at hd
  split at hd
  · rename_i hok
    simp only [Option.some.injEq, Prod.mk.injEq] at hd
    obtain ⟨hm, hdl⟩ := hd
    generalize hp : canonL (ancT ops ops.size) is is.length [] (List.range is.length) = p at hok hm hdl
    simp only [dOk, Bool.and_eq_true, List.all_eq_true] at hok
    obtain ⟨⟨⟨⟨⟨⟨⟨⟨c1, c2⟩, c3⟩, c4⟩, hon⟩, ha⟩, ht⟩, hg⟩, c5⟩ := hok
    have plen : p.length = is.length := Nat.eq_of_beq_eq_true c1
    have pnd := nodupN_iff c2
    have plt : ∀ i ∈ p, i < is.length := fun i hi => by have := c3 i hi; rwa [Nat.blt_eq] at this
    subst hdl
    obtain ⟨st, s1, s2, s3, s4⟩ := genD_run plt p [] T (H.reserve m) rfl hne
    simp only [List.length_nil, Nat.zero_le, true_implies] at s1 s3 s4
    refine ⟨_, _, s2, ?_⟩
    have hopk : ∀ k, k < p.length → ∃ i, p[k]? = some i ∧ i < is.length ∧ is[i]? = some (opAt is p k) := by
      intro k hk
      have h1 : p[k]? = some p[k] := by simp [hk]
      have h2 := plt _ (List.getElem_mem hk)
      refine ⟨_, h1, h2, ?_⟩
      unfold opAt; rw [h1]
      have : is[p[k]]? = some (is[p[k]]'h2) := by simp
      simp only [this]
    obtain ⟨h0, e0⟩ := h.reserve hpk m
    have hst0 : st 0 = (T, H.reserve m) := s1
    have hfrm : (st 0).2.rs = AM.names m H.nx :: H.rs := by rw [hst0]; rfl
    have hqm : ∀ k, k < p.length → kd (opAt is p k) = 2 → qAt is p k < m := by
      intro k hk hN
      have := qAt_lt hk (Nat.le_refl _) plt hN
      rw [qAt_all] at this
      omega
    have hget : ∀ k, k < p.length → kd (opAt is p k) = 2 → (AM.names m H.nx)[qAt is p k]? = some (some (addP H.nx (qAt is p k))) := fun k hk hN => by
      rw [names_get, if_pos (hqm k hk hN)]
    have huniq : ∀ k j, (AM.names m H.nx)[j]? = some (some (addP H.nx (qAt is p k))) → j = qAt is p k := fun k j hj => by
      rw [names_get] at hj
      split at hj
      · exact addP_inj (Option.some.inj (Option.some.inj hj))
      · cases hj
    have hoff : ∀ k, k < p.length → kd (opAt is p k) = 2 → Off (addP H.nx (qAt is p k)) (st 0).2 := fun k hk hN => by
      rw [hst0]
      refine ⟨h.newB _ (by rw [addP_toNat]; omega), ?_, ?_⟩
      · show _ < (skip m H.nx).toNat
        rw [skip_toNat, addP_toNat]; have := hqm k hk hN; omega
      · show H.pk ≠ _
        rw [hpk]; simp
    have htr := trace_of (call := callWith run tab ext) (q := qAt is p) (r := fun k => addP H.nx (qAt is p k)) (rs := H.rs) (n := p.length) (a := opAt is p) (bef := befAt (ancT ops ops.size) p) (st := st) s3
      (fun k hk => by obtain ⟨i, _, _, h3⟩ := hopk k hk; exact c4 _ (List.mem_of_getElem? h3))
      (fun k hk hN => ⟨hoff k hk hN, by rw [hst0]; exact hpk, _, hfrm, hget k hk hN, huniq k⟩)
      (fun k hk hN g hg hr => by
        have : addP H.nx (qAt is p k) ∈ H.allr := by
          unfold AH.allr
          exact List.mem_append_right _ (List.mem_filterMap.2 ⟨_, List.mem_flatten.2 ⟨g, hg, hr⟩, rfl⟩)
        have := h.kept.lt _ this
        rw [addP_toNat] at this; omega)
      (fun k j hk hj hNk hNj hne' he => by
        have hq := addP_inj he
        rcases Nat.lt_trichotomy k j with h | h | h
        · have := qAt_lt h (by omega) plt hNk; omega
        · exact hne' h
        · have := qAt_lt h (by omega) plt hNj; omega)
      ⟨_, hfrm, fun k hk hN => ⟨hget k hk hN, huniq k⟩⟩
      (by rw [hst0]; exact hpk)
      (fun k j hkj hj => by
        obtain ⟨i, i1, i2, i3⟩ := hopk k (by omega)
        obtain ⟨i', j1, j2, j3⟩ := hopk j hj
        have := permOk_spec c5 k j hkj i i' i1 j1
        simp only [pairOk2, i3, j3, Bool.and_eq_true, Bool.or_eq_true] at this
        rcases this.1 with h | h
        · exact .inl ⟨i, i', i1, j1, memN_iff.1 h⟩
        · simp only [ruleOk, Bool.and_eq_true] at h
          exact .inr h)
      (fun k j hkj hj h1 => by
        obtain ⟨i, i1, i2, i3⟩ := hopk k (by omega)
        obtain ⟨i', j1, j2, j3⟩ := hopk j hj
        have := permOk_spec c5 k j hkj i i' i1 j1
        simp only [pairOk2, i3, j3, Bool.and_eq_true] at this
        have := this.2
        simp only [lateOk, h1, Bool.or_eq_true, Bool.and_eq_true] at this
        rcases this with h | h
        · exact absurd h (by decide)
        · exact ⟨h.1.1, h.1.2, h.2⟩)
      (fun k j hkj hj h1 h3 hnb => by
        obtain ⟨i, i1, i2, i3⟩ := hopk k (by omega)
        refine s4 j hj h3 i ?_ _ i3 h1 (fun j' hj' hm => hnb ⟨i, j', i1, hj', hm⟩)
        refine List.mem_iff_getElem?.2 ⟨k, ?_⟩
        rw [List.getElem?_take, if_pos hkj]; exact i1)
      hfr
    obtain ⟨v, x, tr⟩ := htr
    have hlt : ∀ e ∈ ops.toList.flatMap (·.after.toList), e.on < ops.size := by
      intro e he
      simp only [onOk, Array.all_eq_true_iff_forall_mem] at hon
      simp only [List.mem_flatMap, Array.mem_toList_iff] at he
      obtain ⟨o, ho, he⟩ := he
      have := hon o ho e he
      simpa [Nat.blt_eq] using this
    have key : ∀ md t, acyc md ops = true → execIxD (callWith run tab ext) is (fun i => qOf (opAt is p) (qAt is p) (posIn p i)) (Region.linearise md ops t) T (H.reserve m) = some (st p.length) := by
      intro md t hm'
      have hv := linearise_valid (m := md) t hlt
      obtain ⟨D', d1, d2⟩ := any_order (ops := ops) (is := is) (p := p) ops.size rfl (plen.trans hlen) pnd (fun i hi => hlen ▸ plt i hi) hlen tr _ [] (fun _ => false) hv.any (by simp) (fun k hk => by simp)
      rw [TD_none, HD_none, hst0] at d2
      rw [d2]
      have hfull : ∀ k, k < p.length → D' k = true := fun k hk => by
        obtain ⟨i, i1, i2, _⟩ := hopk k hk
        exact (d1 k hk).2 ⟨i, .inr (linearise_all hlt hm' t i (by omega)), i1⟩
      obtain ⟨f1, f2⟩ := tr.full p.length (Nat.le_refl _)
      rw [hst0] at f1 f2
      rw [TD_congr (D' := fun _ => true) p.length (fun j hj => hfull j hj), HD_congr (D' := fun _ => true) p.length (fun j hj => hfull j hj), f1, f2]
    have hs : execIxD (callWith run tab ext) is (fun i => qOf (opAt is p) (qAt is p) (posIn p i)) (Region.schedule (P.follows .mixedOrders) ops (w.tape w.drawn (.order fr.fn id))) T (H.reserve m) = some (st p.length) := by
      unfold Region.schedule
      split
      · exact key _ _ ha
      · split
        · exact key _ _ ht
        · exact key _ _ hg
    obtain ⟨σ', w', tm', a1, a2, a3, a4, a5⟩ := run_ixD E hrun hl _ hb fr df k cs _ hs (h0.drew (w.drawn + 1)) hT hn
    obtain ⟨p1, p2⟩ := a2.pop
    exact ⟨σ', w', tm', a1, p1, (e0.trans ((Ext.drew σ _ w (w.drawn + 1)).trans a3)).trans p2, a4, .head s_region_draw a5⟩
  · cases hd
end
end Go.AM
