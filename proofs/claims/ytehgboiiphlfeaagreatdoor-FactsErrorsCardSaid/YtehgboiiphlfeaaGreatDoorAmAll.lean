/- THE ABSTRACT MACHINE: every operation that is no call. -/
import Derived.Test.YtehgboiiphlfeaaGreatDoorAmMap2
namespace Go.AM
open Go

section
variable {P : Program} {B : Nat} {σ : Val} {H : AH} {w : World} {T : AT} {tm : Array Value} {nt : Nat}

theorem mdel_sound (h : HRel P B σ H w) {t kt et ty u : TypeId} {ek : EK} (hu : P.underlying t = some (.map kt et)) (hk : ekKey P kt = some ek) {xx kk : AX} (hok : okKey ek (kk.ev T) = true) {v : AV} {H' : AH} {d : Option Pos}
    (hv : val T H (.mdel d ek xx kk) = some (v, H')) {a kv : Value} (ha : VRel σ (xx.ev T) a) (hkv : VRel σ (kk.ev T) kv) :
    ∃ w', (Builtin.delete_ #[t, u] ty #[a, kv]).run P w = .ok (.tuple #[]) w' ∧ HRel P B σ H' w' ∧ Ext σ H w σ H' w' ∧ v = .unk := by
  have hck := fun e => checkKey_run (w := w) hk hkv hok e 9999 (by omega)
  simp only [val, hok, Bool.not_true, Bool.false_eq_true, if_false] at hv
  generalize xx.ev T = x at ha hv
  generalize kk.ev T = k at hkv hv hok
  cases x <;> simp only at hv <;> (try cases hv)
  · rename_i b
    cases hb : H.bl.get b with
    | none => simp [hb] at hv
    | some ab =>
    cases ab with
    | row _ _ _ _ _ => simp [hb] at hv
    | loop _ _ _ _ _ _ => simp [hb] at hv
    | map es =>
      simp only [hb] at hv
      cases hd : delE ek k es with
      | none => simp [hd] at hv
      | some es' =>
        simp only [hd, Option.some.injEq, Prod.mk.injEq] at hv
        obtain ⟨rfl, rfl⟩ := hv
        obtain ⟨L, ms, clock, hL, rfl, g1, g2, hkb⟩ := map_at h hb ha
        have hlt := lt_of_heap g1
        rcases delE_spec hd with ⟨e1, rfl⟩ | ⟨q, i, e1, e2, rfl⟩
        · obtain ⟨f1, _⟩ := findKey_run (w := w) hk hkv g2 e1
          have hov := map_over h hL hkb (es' := es') (ms' := ms) (clock' := clock) g2 hlt
          refine ⟨_, ?_, hov.1, hov.2, rfl⟩
          simp [Builtin.delete_, run_underlying hu, run_getObj_map g1, show (10000 : Nat) = 9999 + 1 from rfl, hck, f1, run_setObj_map g1]
        · obtain ⟨i', m, a', f1, f2, _⟩ := findKey_run (w := w) hk hkv g2 e1
          rw [e2] at f2; cases f2
          have hov := map_over h hL hkb (es' := es.eraseIdx i) (ms' := ms.eraseIdxIfInBounds i) (clock' := clock) (by
            rw [Array.toList_eraseIdxIfInBounds]
            exact EntsRel.erase g2) hlt
          refine ⟨_, ?_, hov.1, hov.2, rfl⟩
          simp [Builtin.delete_, run_underlying hu, run_getObj_map g1, show (10000 : Nat) = 9999 + 1 from rfl, hck, f1, run_setObj_map g1]
  · simp only [VRel] at ha
    subst ha
    refine ⟨w, ?_, h, Ext.refl _ _ _, rfl⟩
    simp [Builtin.delete_, run_underlying hu, show (10000 : Nat) = 9999 + 1 from rfl, hck]

/-- a part of a struct's cells -/
def partV (g : Option Nat) (l : List AV) (off : Nat) : Option AV :=
  match g with
  | none => nthV l off
  | some n => (slice? l off n).map .agg

theorem partOne_sound {t : TypeId} {g : Option Nat} (hg : groupOf P t = some g) {l : List AV} {cs : Array Value} (hr : VRelL σ l cs.toList) (h1 : ∀ u ∈ cs.toList, u.oneCell' = true) {off : Nat} {v : AV}
    (hv : partV g l off = some v) : ∃ u, (part t cs off).run P w = .ok u w ∧ VRel σ v u := by
  obtain ⟨hagg, hsz⟩ := run_group (w := w) hg
  unfold partV at hv
  cases g with
  | none =>
    simp only at hv
    have hn : l[off]? = some v := by
      clear hr
      induction l generalizing off with
      | nil => simp [nthV] at hv
      | cons a l ih =>
        cases off with
        | zero => simpa [nthV] using hv
        | succ off => simp only [nthV] at hv; simpa using ih hv
    obtain ⟨u, hu, hru⟩ := hr.get hn
    simp only [Array.getElem?_toList] at hu
    exact ⟨u, by simp [part, hagg, hu], hru⟩
  | some n =>
    simp only [Option.map_eq_some_iff] at hv
    obtain ⟨l', hl', rfl⟩ := hv
    have hs := hsz n rfl
    have hlen := hr.length
    simp only [Array.length_toList] at hlen
    refine ⟨.agg (cs.extract off (off + n)), by simp [part, hagg, hs], ?_⟩
    simp only [VRel]
    refine ⟨_, rfl, fun u hu => ?_, ?_⟩
    · rw [Array.toList_extract] at hu
      exact h1 u (by
        have := List.mem_of_mem_drop (List.mem_of_mem_take hu)
        first | exact this | exact List.mem_of_mem_take this | simpa using this)
    · have l1 := slice?_length hl'
      rcases slice?_spec hl' with ⟨_, hfit⟩ | ⟨hn, hl0⟩
      · refine VRelL.of_get (by simp; omega) fun i a ha => ?_
        have hi : i < n := by have := (List.getElem?_eq_some_iff.1 ha).1; omega
        rw [slice?_get hl' i hi] at ha
        obtain ⟨u, hu, hru⟩ := hr.get ha
        simp only [Array.getElem?_toList] at hu
        refine ⟨u, ?_, hru⟩
        simp only [Array.getElem?_toList, Array.getElem?_extract]
        rw [if_pos (by omega)]; exact hu
      · subst hn; subst hl0
        simp only [VRelL]
        simp

theorem nthV_get : ∀ {l : List AV} {i : Nat} {v : AV}, nthV l i = some v → l[i]? = some v
  | [], i, v, h => by simp [nthV] at h
  | a :: l, 0, v, h => by simpa [nthV] using h
  | a :: l, i + 1, v, h => by simp only [nthV] at h; simpa using nthV_get h
theorem nthN_get : ∀ {l : List Nat} {i : Nat} {v : Nat}, nthN l i = some v → l[i]? = some v
  | [], i, v, h => by simp [nthN] at h
  | a :: l, 0, v, h => by simpa [nthN] using h
  | a :: l, i + 1, v, h => by simp only [nthN] at h; simpa using nthN_get h

theorem val_of {s : Sem Value} {u : Value} {w' : World} (h : s.run P w = .ok u w') : (do pure (Next.value (← s)) : Sem Next).run P w = .ok (.value u) w' := by simp [h]

theorem bin_sound {op : BinOp} {x y v : AV} (hv : binV op x y = some v) {a c : Value} (hx : VRel σ x a) (hy : VRel σ y c) (t : TypeId) (X Y : Operand) :
    ∃ u, (do eqGuard op t X Y a c; binOp op t a c : Sem Value).run P w = .ok u w ∧ VRel σ v u := by
  unfold binV at hv
  split at hv
  · split at hv
    · have := int_of hx; subst this
      have := int_of hy; subst this
      exact shift_bin hv _ t X Y
    · split at hv
      · rename_i hk
        have := kEq_iff.1 hk
        subst this
        have := int_of hx; subst this
        have := int_of hy; subst this
        exact int_bin hv t X Y
      · cases hv
  · obtain ⟨s1, rfl, rfl⟩ := str_of hx
    obtain ⟨s2, rfl, rfl⟩ := str_of hy
    exact str_bin hv t X Y
  · cases hv

theorem args1 {x : AX} {vs : Array Value} (h : VRelL σ (evs T [x]) vs.toList) : ∃ a, vs = #[a] ∧ VRel σ (x.ev T) a := by
  simp only [evs, VRelL] at h
  obtain ⟨a, r, e, h1, rfl⟩ := h
  exact ⟨a, Array.ext' (by simpa using e), h1⟩
theorem args2 {x y : AX} {vs : Array Value} (h : VRelL σ (evs T [x, y]) vs.toList) : ∃ a b, vs = #[a, b] ∧ VRel σ (x.ev T) a ∧ VRel σ (y.ev T) b := by
  simp only [evs, VRelL] at h
  obtain ⟨a, r, e, h1, b, r', rfl, h2, rfl⟩ := h
  exact ⟨a, b, Array.ext' (by simpa using e), h1, h2⟩

/-- a call of a built-in function -/
theorem bi_sound (h : HRel P B σ H w) {d : Option Pos} {b : Builtin} {args : List AX} {ts : Array TypeId} {i : AI} (hc : biOf P d b args ts.toList = some i) {v : AV} {H' : AH} (hv : val T H i = some (v, H'))
    {vs : Array Value} (hr : VRelL σ (evs T args) vs.toList) (type : TypeId) (consts : Array Bool) : Gives P B σ H w ((builtin b ts type consts vs).run P w) v H' := by
  unfold biOf at hc
  dsimp only at hc
  split at hc
  · -- len
    rename_i x t hts
    have hts' : ts = #[t] := Array.ext' (by simpa using hts)
    subst hts'
    obtain ⟨a, rfl, ha⟩ := args1 hr
    have fin : ∀ n : Nat, (Builtin.len_ #[t] type #[a]).run P w = .ok (goInt n) w → Gives P B σ H w ((builtin .len #[t] type consts #[a]).run P w) (.int .i64 n) H := fun n hn =>
      Gives.here h (u := goInt n) (by simp only [builtin]; exact val_of hn) (by simp [VRel, goInt])
    split at hc
    · rename_i hu
      cases hc
      simp only [val] at hv
      split at hv
      · rename_i l hk hev
        rw [hev] at ha
        obtain ⟨q, e1, e2⟩ := str_of ha
        have hql : l.length = q.size := by rw [← e2, List.length_map, Array.length_toList]; rfl
        cases hv
        rw [hql]
        refine fin q.size ?_
        subst e1
        simp [Builtin.len_, run_underlying hu]
      all_goals first | (rename_i h1 h2; cases h1) | (rename_i h1; cases h1) | cases hv
    · rename_i e hu
      cases hc
      simp only [val] at hv
      split at hv
      · rename_i h1 _; cases h1
      · rename_i _ hev
        rw [hev] at ha
        simp only [VRel] at ha
        subst ha
        cases hv
        refine fin 0 ?_
        simp [Builtin.len_, run_underlying hu]
      · rename_i _ hev
        rw [hev] at ha
        simp only [VRel] at ha
        obtain ⟨L, xo, cap, hL, rfl, _⟩ := ha
        cases hv
        refine fin _ ?_
        simp [Builtin.len_, run_underlying hu]
      · rename_i h1 _; cases h1
      · rename_i h1 _; cases h1
      · cases hv
    · rename_i k e hu
      cases hc
      simp only [val] at hv
      split at hv
      · rename_i h1 _; cases h1
      · rename_i h1 _; cases h1
      · rename_i h1 _; cases h1
      · rename_i _ hev
        rw [hev] at ha
        simp only [VRel] at ha
        subst ha
        cases hv
        refine fin 0 ?_
        simp [Builtin.len_, run_underlying hu]
      · rename_i b _ hev
        rw [hev] at ha
        split at hv
        · rename_i es hb
          obtain ⟨L, ms, clock, hL, rfl, g1, g2, hkb⟩ := map_at h hb ha
          cases hv
          have hl := g2.length
          simp only [Array.length_toList] at hl
          rw [← hl]
          refine fin ms.size ?_
          simp [Builtin.len_, run_underlying hu, run_getObj_map g1]
        · cases hv
      · cases hv
    · cases hc
  · -- append
    rename_i x y t u hts
    have hts' : ts = #[t, u] := Array.ext' (by simpa using hts)
    subst hts'
    obtain ⟨a, b, rfl, ha, hb⟩ := args2 hr
    have main : ∀ (e : TypeId) (n by_ : Nat) (z : List AV), elemOf? P t = some (e, n) → bytesOf? P e = some by_ → zerosOf P e = some z → (P.underlying u = some .string ∨ ∃ e', P.underlying u = some (.slice e')) →
        (if z.length = n then some (AI.app (d.getD .h) e n by_ x y) else none) = some i → Gives P B σ H w ((builtin .append #[t, u] type consts #[a, b]).run P w) v H' := by
      intro e n by_ z ht hby hz hu hi
      split at hi
      · rename_i hzl
        cases hi
        simp only [val] at hv
        split at hv
        · cases hv
        · rename_i m news hel
          obtain ⟨σ', r, w', q1, q2, q3, q4⟩ := append_sound (ty := type) h ht hby hz hzl hu ha hb hel hv
          exact Gives.at q2 q3 (u := r) (by simp only [builtin]; exact val_of q1) q4
      · cases hi
    split at hc
    · rename_i e n ht
      split at hc
      · rename_i e' by_ z hu hby hz
        exact main e n by_ z ht hby hz (.inr ⟨_, hu⟩) hc
      · rename_i by_ z hu hby hz
        exact main e n by_ z ht hby hz (.inl hu) hc
      · cases hc
    · cases hc
  · -- copy
    rename_i x y t u hts
    have hts' : ts = #[t, u] := Array.ext' (by simpa using hts)
    subst hts'
    obtain ⟨a, b, rfl, ha, hb⟩ := args2 hr
    split at hc
    · rename_i e n ht
      cases hc
      simp only [val] at hv
      split at hv
      · cases hv
      · rename_i m news hel
        obtain ⟨r, w', q1, q2, q3, q4⟩ := copy_sound (u := u) (ty := type) h ht ha hb hel hv
        exact Gives.at q2 q3 (u := r) (by simp only [builtin]; exact val_of q1) q4
    · cases hc
  · -- clear
    rename_i x t hts
    have hts' : ts = #[t] := Array.ext' (by simpa using hts)
    subst hts'
    obtain ⟨a, rfl, ha⟩ := args1 hr
    split at hc
    · rename_i e n ht
      split at hc
      · rename_i z hz
        split at hc
        · rename_i hzl
          cases hc
          obtain ⟨hut, _, _⟩ := elemOf_spec ht
          have nothing : ∀ q : Value, (Builtin.clear_ #[t] type #[a]).run P w = .ok q w → Gives P B σ H w ((builtin .clear #[t] type consts #[a]).run P w) .unk H := fun q hq =>
            Gives.here h (u := q) (by simp only [builtin]; exact val_of hq) (by simp [VRel])
          simp only [val] at hv
          split at hv
          · rename_i hev
            rw [hev] at ha
            simp only [VRel] at ha
            subst ha
            cases hv
            exact nothing _ (by simp [Builtin.clear_, run_underlying hut]; rfl)
          · rename_i hev
            rw [hev] at ha
            simp only [VRel] at ha
            subst ha
            cases hv
            exact nothing _ (by simp [Builtin.clear_, run_underlying hut]; rfl)
          · rename_i bl o m c s ex hev
            rw [hev] at ha
            split at hv
            · rename_i hm
              have hm0 : m = 0 := Nat.eq_of_beq_eq_true hm
              subst hm0
              simp only [VRel] at ha
              obtain ⟨L, xo, cap, hL, rfl, _⟩ := ha
              cases hv
              exact nothing _ (by simp [Builtin.clear_, run_underlying hut]; rfl)
            · rename_i hm
              split at hv
              · rename_i H2 hw
                cases hv
                obtain ⟨w', q1, q2, q3⟩ := clear_slice_sound (ty := type) h ht hz (by simpa using hzl) ha (fun e => hm (by subst e; rfl)) hw
                exact Gives.at q2 q3 (u := .tuple #[]) (by simp only [builtin]; exact val_of q1) (by simp [VRel])
              · cases hv
          · cases hv
        · cases hc
      · cases hc
    · cases hc
  · -- delete
    rename_i m k t u hts
    have hts' : ts = #[t, u] := Array.ext' (by simpa using hts)
    subst hts'
    obtain ⟨a, b, rfl, ha, hb⟩ := args2 hr
    split at hc
    · rename_i kt et hu
      simp only [Option.map_eq_some_iff] at hc
      obtain ⟨ek, hek, rfl⟩ := hc
      have hok : okKey ek (k.ev T) = true := by
        simp only [val] at hv
        split at hv
        · cases hv
        · rename_i hok; simpa using hok
      obtain ⟨w', q1, q2, q3, rfl⟩ := mdel_sound (T := T) (u := u) (ty := type) h hu hek hok hv ha hb
      exact Gives.at q2 q3 (u := .tuple #[]) (by simp only [builtin]; exact val_of q1) (by simp [VRel])
    · cases hc
  · cases hc

/-- an operation that is no call -/
theorem val_sound (h : HRel P B σ H w) (hT : TRel σ T tm) (hn : tm.size = nt) (hb : nt < 1000000000) {d : Option Pos} {o : Oper} {i : AI} {v : AV} {H' : AH} (hc : opOf1 P nt d o = some i) (hv : val T H i = some (v, H')) :
    Gives P B σ H w ((execOp (opv tm) o).run P w) v H' := by
  have AXR : ∀ {x a}, axOf nt x = some a → VRel σ (a.ev T) (opv tm x) := fun e => ax_rel hT hn hb e
  obtain ⟨dst, op, type, pos, after, guard⟩ := o
  unfold opOf1 at hc
  cases op with
  | move x =>
    simp only [Option.map_eq_some_iff] at hc
    obtain ⟨a, ha, rfl⟩ := hc
    simp only [val, Option.some.injEq, Prod.mk.injEq] at hv
    obtain ⟨rfl, rfl⟩ := hv
    exact Gives.here h (u := opv tm x) (by simp [execOp]) (AXR ha)
  | assign x =>
    simp only [Option.map_eq_some_iff] at hc
    obtain ⟨a, ha, rfl⟩ := hc
    simp only [val, Option.some.injEq, Prod.mk.injEq] at hv
    obtain ⟨rfl, rfl⟩ := hv
    exact Gives.here h (u := opv tm x) (by simp [execOp]) (AXR ha)
  | pick c x y =>
    dsimp only at hc
    split at hc
    · rename_i c' x' y' h1 h2 h3
      cases hc
      have hcv := AXR h1
      simp only [val] at hv
      split at hv
      · rename_i hev
        rw [hev] at hcv
        have := bool_of hcv
        cases hv
        exact Gives.here h (u := opv tm x) (by simp [execOp, this, asBool]) (AXR h2)
      · rename_i hev
        rw [hev] at hcv
        have := bool_of hcv
        cases hv
        exact Gives.here h (u := opv tm y) (by simp [execOp, this, asBool]) (AXR h3)
      · cases hv
    · cases hc
  | alloc e =>
    dsimp only at hc
    split at hc
    · rename_i z hz
      cases hc
      simp only [val, Option.some.injEq, Prod.mk.injEq] at hv
      obtain ⟨rfl, rfl⟩ := hv
      obtain ⟨zv, hzv, hzr, hz1⟩ := zeros_run (w := w) hz
      have hsz : ∃ s, sizeOf? P e = some s := by
        unfold zerosOf at hz
        cases hi : P.info? e with
        | none => simp [hi] at hz
        | some i => exact ⟨i.size, by simp [sizeOf?, hi]⟩
      obtain ⟨s, hs⟩ := hsz
      have hnew := h.newRow e z true zv.cells.toList s hs (by rw [(hzr σ).length]; exact Nat.le_refl _) (fun _ => (hzr σ).length.symm) (fun i a ha => by
        obtain ⟨q, hq, hr⟩ := (hzr σ).get ha; exact ⟨q, hq, hr, hz1 q (List.mem_of_getElem? hq)⟩)
      refine Gives.at hnew.1 hnew.2 (u := .pointer (some ⟨w.heap.size, 0, none⟩)) ?_ ?_
      · simp [execOp, Instr.alloc, hzv, newVar, newRow]
      · rw [AH.newRow_fst]; simp only [VRel]; exact ⟨_, Val.set_eq _ _ _, rfl⟩
    · cases hc
  | box e x =>
    dsimp only at hc
    split at hc
    · rename_i x' n hx hs
      cases hc
      simp only [val] at hv
      split at hv
      · rename_i c hcell
        split at hv
        · simp only [Option.some.injEq, Prod.mk.injEq] at hv
          obtain ⟨rfl, rfl⟩ := hv
          obtain ⟨k1, k2⟩ := cells_rel hcell (AXR hx)
          have hnew := h.newRow e c true (opv tm x).cells.toList n hs (by rw [k1.length]; exact Nat.le_refl _) (fun _ => k1.length.symm) (fun i a ha => by
            obtain ⟨q, hq, hr⟩ := k1.get ha; exact ⟨q, hq, hr, k2 q (List.mem_of_getElem? hq)⟩)
          refine Gives.at hnew.1 hnew.2 (u := .pointer (some ⟨w.heap.size, 0, none⟩)) ?_ ?_
          · simp [execOp, Instr.box, newVar, newRow]
          · rw [AH.newRow_fst]; simp only [VRel]; exact ⟨_, Val.set_eq _ _ _, rfl⟩
        · cases hv
      · cases hv
    · cases hc
  | build t ps =>
    dsimp only at hc
    have fin : ∀ (z : List AV) (place : Nat → Option (Nat × Nat)) (aps : List (Nat × Nat × AX)) (zv : Value) (c : List AV), (zeroValue t).run P w = .ok zv w → VRelL σ z zv.cells.toList → (∀ u ∈ zv.cells.toList, u.oneCell' = true) →
        partsOf nt place ps.toList = some aps → fillA z (evps T aps) = some c → (∀ parts, P.built t parts = Instr.fill place zv.cells parts) →
        Gives P B σ H w ((execOp (opv tm) ⟨dst, .build t ps, type, pos, after, guard⟩).run P w) (.agg c) H := by
      intro z place aps zv c h1 h2 h3 h4 h5 h6
      obtain ⟨cs', g1, g2, g3⟩ := fill_sound hT hn hb place ps.toList aps z c zv.cells h4 h5 h2 h3
      refine Gives.here h (u := .agg cs') ?_ (by simp only [VRel]; exact ⟨cs', rfl, g3, g2⟩)
      have hbt : P.built t (ps.map fun (i, x) => (i, opv tm x)).toList = some cs' := by
        rw [h6, Array.toList_map]; exact g1
      simp only [execOp]
      exact val_of (run_build w t _ cs' hbt)
    split at hc
    · rename_i fs z hu hz
      split at hc
      · rename_i aps hps
        split at hc
        · rename_i hall
          cases hc
          simp only [val] at hv
          split at hv
          · rename_i c hfl
            cases hv
            obtain ⟨zv, hzv, hzr, hz1⟩ := zeros_run (w := w) hz
            have hzz : (P.info? t).bind (·.zero) = some zv := by
              cases hi : P.info? t with
              | none => simp [zerosOf, hi] at hz
              | some it =>
                have := hzv
                simp [zeroValue, run_typeInfo' hi] at this
                cases hz' : it.zero with
                | none => simp [hz'] at this
                | some v' => simp [hz'] at this; simp [hz', this]
            exact fin z _ aps zv c hzv (hzr σ) hz1 hps hfl (built_struct hu hzz hall)
          · cases hv
        · cases hc
      · cases hc
    · rename_i n e z hu hz
      split at hc
      · rename_i sz hsz
        simp only [Option.map_eq_some_iff] at hc
        obtain ⟨aps, hps, rfl⟩ := hc
        simp only [val] at hv
        split at hv
        · rename_i c hfl
          cases hv
          obtain ⟨zv, hzv, hzr, hz1⟩ := zeros_run (w := w) hz
          refine fin z _ aps zv c hzv (hzr σ) hz1 hps hfl fun parts => ?_
          obtain ⟨ie, hie, hie2⟩ := info_of_size hsz
          cases hi : P.info? t with
          | none => simp [zerosOf, hi] at hz
          | some it =>
            have := hzv
            simp [zeroValue, run_typeInfo' hi] at this
            cases hz' : it.zero with
            | none => simp [hz'] at this
            | some v' =>
              simp [hz'] at this
              subst this
              simp [Program.built, hi, hu, hz', hie, hie2]
        · cases hv
      · cases hc
    · cases hc
  | buildSlice t len ps =>
    dsimp only at hc
    split at hc
    · rename_i e sz ht
      split at hc
      · rename_i z aps hz hps
        split at hc
        · rename_i hlen
          cases hc
          simp only [Bool.and_eq_true, decide_eq_true_eq, beq_iff_eq] at hlen
          obtain ⟨hut, hsz, hsz0⟩ := elemOf_spec ht
          obtain ⟨zv, hzv, hzr, hz1⟩ := zeros_run (w := w) hz
          obtain ⟨r1, r2⟩ := zeros_rel hlen.2 hsz0 (hzr σ) hz1 len
          simp only [val] at hv
          split at hv
          · rename_i c hfl
            simp only [Option.some.injEq, Prod.mk.injEq] at hv
            obtain ⟨rfl, rfl⟩ := hv
            obtain ⟨cs', g1, g2, g3⟩ := fill_sound hT hn hb _ ps.toList aps _ c _ hps hfl r1 r2
            have hcl : cs'.size = len * sz := by
              have e1 := g2.length
              have e2 := fillA_length _ _ _ hfl
              rw [replicate_flatten_length z sz hlen.2] at e2
              simp only [Array.length_toList] at e1
              omega
            obtain ⟨i, hi, his⟩ := info_of_size hsz
            have hzi : i.zero = some zv := by
              have := hzv
              simp [zeroValue, run_typeInfo' hi] at this
              cases hz' : i.zero with
              | none => simp [hz'] at this
              | some v' => simp [hz'] at this; rw [this]
            have hnew := h.newRow e c true cs'.toList sz hsz (by rw [g2.length]; exact Nat.le_refl _) (fun _ => g2.length.symm) (fun i a ha => by
              obtain ⟨q, hq, hr⟩ := g2.get ha; exact ⟨q, hq, hr, g3 q (List.mem_of_getElem? hq)⟩)
            refine Gives.at hnew.1 hnew.2 (u := .slice (some ⟨w.heap.size, 0, none⟩) len len) ?_ ?_
            · simp only [execOp]
              refine val_of ?_
              by_cases hl0 : len * sz = 0
              · have hcs : cs' = #[] := Array.eq_empty_of_size_eq_zero (by omega)
                subst hcs
                have g1' : Instr.fill (fun i => some (i * sz, sz)) #[] (List.map (fun x => (x.1, opv tm x.2)) ps.toList) = some #[] := by
                  rw [hl0] at g1
                  simpa [Array.range_zero'] using g1
                simp [Instr.buildSlice, run_underlying hut, sizeOf, typeInfo, hi, his, hl0, newRow]
                simp [Array.range_zero', g1']
              · have hsmall : ¬ len * i.size > 2 ^ 24 := by rw [his]; omega
                have := run_buildSlice (P := P) w t e len (ps.map fun (i, x) => (i, opv tm x)) cs' i zv hut hi hzi hsmall (by rw [his]; exact hl0) (by
                  rw [his, Array.toList_map]
                  simpa using g1)
                simpa using this
            · rw [AH.newRow_fst]; simp only [VRel]
              exact ⟨_, 0, len, Val.set_eq _ _ _, rfl, Nat.le_refl _, Nat.le_refl _, fun _ => rfl, fun _ => rfl, by simp only [Array.length_toList]; omega, by omega⟩
          · cases hv
        · cases hc
      · cases hc
    · cases hc
  | load t x =>
    dsimp only at hc
    split at hc
    · rename_i g x' hg hx
      cases hc
      simp only [val] at hv
      split at hv
      · rename_i r hl
        cases hv
        obtain ⟨b, o, u, e1, e2, e3⟩ := loadG_sound h hg hl (AXR hx)
        exact Gives.here h (u := u) (by simp [execOp, Instr.loadAt, e1, Instr.sureAddr, e2]) e3
      · cases hv
    · cases hc
  | store t x y =>
    dsimp only at hc
    split at hc
    · rename_i n x' y' hs hx hy
      cases hc
      have hxr := AXR hx
      simp only [val] at hv
      split at hv
      · rename_i b o hev
        rw [hev] at hxr
        split at hv
        · rename_i c hcell
          split at hv
          · rename_i hlen
            split at hv
            · rename_i H2 hw
              cases hv
              obtain ⟨w', e1, e2, e3⟩ := store_sound h hs hcell hlen hw hxr (AXR hy)
              exact Gives.skip e2 e3 (by simp [execOp, e1])
            · cases hv
          · cases hv
        · cases hv
      · cases hv
    · cases hc
  | binOp bop t x y yt =>
    dsimp only at hc
    split at hc
    · rename_i a b hx hy
      have hxr := AXR hx
      have hyr := AXR hy
      have plain : ∀ D, some (AI.bin D bop a b) = some i → Gives P B σ H w ((execOp (opv tm) ⟨dst, .binOp bop t x y yt, type, pos, after, guard⟩).run P w) v H' := by
        intro D hi
        cases hi
        simp only [val] at hv
        split at hv
        · rename_i r hr
          cases hv
          obtain ⟨u, e1, e2⟩ := bin_sound (w := w) hr hxr hyr t x y
          exact Gives.here h (u := u) (by simp only [execOp]; exact val_of e1) e2
        · cases hv
      have eqs : ∀ D k neg, bop = eqOp neg → ekOf P t = some k → k ≠ .i → k ≠ .s → (Region.isConst x || Region.isConst y || k.anyway) = true → some (AI.eq D k neg a b) = some i →
          Gives P B σ H w ((execOp (opv tm) ⟨dst, .binOp bop t x y yt, type, pos, after, guard⟩).run P w) v H' := by
        intro D k neg hop hk hi hs hcc hi'
        cases hi'
        simp only [val] at hv
        split at hv
        · rename_i r hr
          cases hv
          subst hop
          have e1 := eq_run (w := w) hk hr hxr hyr x y neg hi hs hcc
          exact Gives.here h (u := .bool (r != neg)) (by simp only [execOp]; exact val_of e1) (by simp [VRel])
        · cases hv
      split at hc
      · exact plain _ hc
      · exact plain _ hc
      · exact plain _ hc
      · exact plain _ hc
      · rename_i hk; exact eqs _ _ false rfl hk (by simp) (by simp) (by simp [EK.anyway]) hc
      · rename_i hk; exact eqs _ _ true rfl hk (by simp) (by simp) (by simp [EK.anyway]) hc
      · rename_i ks hk; exact eqs _ _ false rfl hk (by simp) (by simp) (by simp [EK.anyway]) hc
      · rename_i ks hk; exact eqs _ _ true rfl hk (by simp) (by simp) (by simp [EK.anyway]) hc
      · rename_i k n1 n2 n3 n4 hk
        split at hc
        · rename_i hcc; exact eqs _ _ false rfl hk (fun e => by subst e; simp_all) (fun e => by subst e; simp_all) (by simp only [hcc, Bool.true_or]) hc
        · cases hc
      · rename_i k n1 n2 n3 n4 hk
        split at hc
        · rename_i hcc; exact eqs _ _ true rfl hk (fun e => by subst e; simp_all) (fun e => by subst e; simp_all) (by simp only [hcc, Bool.true_or]) hc
        · cases hc
      · cases hc
      · cases hc
      · exact plain _ hc
    · cases hc
  | unOp uop t x =>
    cases uop <;> simp only [Option.map_eq_some_iff] at hc <;> (try cases hc)
    · rename_i a ha
      obtain ⟨ha, rfl⟩ := ha
      have hxr := AXR ha
      simp only [val] at hv
      split at hv
      · rename_i k n hev
        rw [hev] at hxr
        have := int_of hxr
        cases hv
        exact Gives.here h (u := .int k (k.wrap (0 - n))) (by simp [execOp, this, Op.unary, Op.intArith]) (by simp [VRel, wrapA_eq])
      · cases hv
    · rename_i a ha
      obtain ⟨ha, rfl⟩ := ha
      have hxr := AXR ha
      simp only [val] at hv
      split at hv
      · rename_i b hev
        rw [hev] at hxr
        have := bool_of hxr
        cases hv
        exact Gives.here h (u := .bool !b) (by simp [execOp, this, Op.unary]) (by simp [VRel])
      · cases hv
  | convert s t x =>
    dsimp only at hc
    split at hc
    · rename_i k0 k hs ht
      simp only [Option.map_eq_some_iff] at hc
      obtain ⟨a, ha, rfl⟩ := hc
      have hxr := AXR ha
      simp only [val] at hv
      split at hv
      · rename_i k' n hev
        rw [hev] at hxr
        have := int_of hxr
        cases hv
        refine Gives.here h (u := .int k (k.wrap n)) ?_ (by simp [VRel, wrapA_eq])
        simp [execOp, this, convert, run_underlying hs, run_underlying ht, Conv.intToInt]
      · cases hv
    · rename_i hs ht
      simp only [Option.map_eq_some_iff] at hc
      obtain ⟨a, ha, rfl⟩ := hc
      have hxr := AXR ha
      simp only [val] at hv
      split at hv
      · rename_i l hev
        rw [hev] at hxr
        obtain ⟨q, e1, e2⟩ := str_of hxr
        cases hv
        refine Gives.here h (u := .string q) ?_ (by simp only [VRel]; exact ⟨q, rfl, e2⟩)
        simp [execOp, e1, convert, run_underlying hs, run_underlying ht]
      · cases hv
    · cases hc
  | makeInterface t x =>
    dsimp only at hc
    split at hc
    · cases hc
    · rename_i d hni hu
      simp only [Option.map_eq_some_iff] at hc
      obtain ⟨a, ha, rfl⟩ := hc
      have hxr := AXR ha
      simp only [val] at hv
      split at hv
      · cases hv
      · cases hv
        refine Gives.here h (u := .iface t (opv tm x)) ?_ (by simp only [VRel]; exact ⟨_, rfl, hxr⟩)
        cases d <;> first | (exact (hni _ rfl).elim) | simp [execOp, Instr.makeInterface, run_underlying hu]
    · cases hc
  | makeFunc fn first cap =>
    cases fn <;> simp only at hc <;> (try cases hc)
    rename_i f
    split at hc
    · rename_i hf
      simp only [Option.map_eq_some_iff] at hc
      obtain ⟨as, has, rfl⟩ := hc
      simp only [val, Option.some.injEq, Prod.mk.injEq] at hv
      obtain ⟨rfl, rfl⟩ := hv
      have hr := axs_rel hT hn hb has
      have hf' : first = #[] := by simpa using hf
      refine Gives.here h (u := .func (.func f) #[] (cap.map (opv tm))) (by simp [execOp, Instr.makeFunc, hf']) ?_
      simp only [VRel]
      exact ⟨_, rfl, by simpa using hr⟩
    · cases hc
  | makeMap t r =>
    cases r with
    | some _ => cases hc
    | none =>
      cases hc
      simp only [val, Option.some.injEq, Prod.mk.injEq] at hv
      obtain ⟨rfl, rfl⟩ := hv
      have hnew := h.new (.map []) (.map #[] 0) ⟨w.heap.size, 0, 0, 0⟩ rfl ⟨#[], 0, heap_alloc_new w _, by simp [EntsRel]⟩ (fun e c v vs ex hx => by cases hx)
      refine Gives.at hnew.1 hnew.2 (u := .map (some w.heap.size)) (by simp [execOp, Instr.makeMap]) ?_
      rw [AH.new_fst]; simp only [VRel]; exact ⟨_, Val.set_eq _ _ _, rfl⟩
  | makeSlice t l c =>
    dsimp only at hc
    split at hc
    · rename_i e sz ht
      split at hc
      · rename_i z by_ l' c' hz hby hl hcc
        split at hc
        · rename_i hzl
          cases hc
          have hlr := AXR hl
          have hcr := AXR hcc
          simp only [val] at hv
          split at hv
          · rename_i n m h1 h2
            split at hv
            · rename_i hcond
              simp only [Bool.and_eq_true] at hcond
              simp only [Option.some.injEq, Prod.mk.injEq] at hv
              obtain ⟨rfl, rfl⟩ := hv
              obtain ⟨k1, e1⟩ := asNat?_spec h1 hlr
              obtain ⟨k2, e2⟩ := asNat?_spec h2 hcr
              obtain ⟨σ', r, w', q1, q2, q3, q4⟩ := mkslc_sound h ht hby hz (by simpa using hzl) (k1 := k1) (k2 := k2) (Nat.le_of_ble_eq_true hcond.1.1) (Nat.le_of_ble_eq_true hcond.1.2) (Nat.le_of_ble_eq_true hcond.2)
              exact Gives.at q2 q3 (u := r) (by simp only [execOp]; refine val_of ?_; rw [e1, e2]; exact q1) (by rw [AH.newRow_fst]; exact q4)
            · cases hv
          · cases hv
        · cases hc
      · cases hc
    · cases hc
  | slice t x lo hi mx =>
    dsimp only at hc
    split at hc
    · rename_i x' lo' hi' mx' hx hlo hhi hmx
      have hxr := AXR hx
      have hlor := axo_rel hT hn hb hlo
      have hhir := axo_rel hT hn hb hhi
      have hmxr := axo_rel hT hn hb hmx
      split at hc
      · rename_i hu
        split at hc
        · rename_i hmn
          cases hc
          have hmx' : mx = none := by
            cases mx with
            | none => rfl
            | some y =>
              simp only [axoOf, Option.map_eq_some_iff] at hmx
              obtain ⟨q, _, hq⟩ := hmx
              subst hq
              simp at hmn
          subst hmx'
          simp only [val] at hv
          split at hv
          · rename_i l hev
            rw [hev] at hxr
            obtain ⟨q, e1, e2⟩ := str_of hxr
            have hql : l.length = q.size := by rw [← e2, List.length_map, Array.length_toList]; rfl
            split at hv
            · rename_i hh hhe
              split at hv
              · rename_i ll hle
                cases hv
                rw [hql] at hhe
                have hhc : hh ≤ q.size ∧ (match hi.map (opv tm) with | some v => Instr.sliceBound v q.size .sliceAlen | none => pure q.size : Sem Nat).run P w = .ok hh w := by
                  generalize evo T hi' = ai at hhir hhe
                  generalize hi.map (opv tm) = vi at hhir
                  cases ai with
                  | none => cases vi with
                    | none => simp [bound?] at hhe; subst hhe; exact ⟨Nat.le_refl _, by simp⟩
                    | some _ => simp [ORel] at hhir
                  | some xh => cases vi with
                    | none => simp [ORel] at hhir
                    | some vh => simp only [ORel] at hhir; exact bound_some (bound_dflt ▸ hhe) hhir .sliceAlen
                have hlc : ll ≤ hh ∧ (match lo.map (opv tm) with | some v => Instr.sliceBound v hh .sliceB | none => pure 0 : Sem Nat).run P w = .ok ll w := by
                  generalize evo T lo' = ai at hlor hle
                  generalize lo.map (opv tm) = vi at hlor
                  cases ai with
                  | none => cases vi with
                    | none => simp [bound?] at hle; subst hle; exact ⟨Nat.zero_le _, by simp⟩
                    | some _ => simp [ORel] at hlor
                  | some xh => cases vi with
                    | none => simp [ORel] at hlor
                    | some vh => simp only [ORel] at hlor; exact bound_some hle hlor .sliceB
                have hbs : (Instr.sliceBounds false q.size q.size (lo.map (opv tm)) (hi.map (opv tm)) none).run P w = .ok (ll, hh, q.size) w := by
                  have a1 := hhc.2
                  have a2 := hlc.2
                  generalize hi.map (opv tm) = vi at a1
                  generalize lo.map (opv tm) = vl at a2
                  cases vi <;> cases vl <;> simp [Instr.sliceBounds] at a1 a2 ⊢ <;> simp_all
                refine Gives.here h (u := .string (q.extract ll hh)) ?_ ?_
                · simp only [execOp]
                  refine val_of ?_
                  rw [e1]
                  simp [Instr.sliceAt, Instr.slice, run_underlying hu, hbs]
                · simp only [VRel]
                  refine ⟨_, rfl, ?_⟩
                  rw [← e2, ByteArray.data_extract, Array.toList_extract]
                  simp only [List.map_take, List.map_drop]
                  first | rfl | (rw [List.drop_take]) | simp [List.drop_take]
              · cases hv
            · cases hv
          · cases hv
        · cases hc
      · split at hc
        · rename_i e sz ht
          cases hc
          simp only [val] at hv
          split at hv
          · rename_i r hr
            cases hv
            obtain ⟨u, e1, e2⟩ := slice_sound (w := w) ht hr hxr hlor hhir hmxr
            exact Gives.here h (u := u) (by simp only [execOp]; exact val_of e1) e2
          · cases hv
        · cases hc
    · cases hc
  | fieldAddr s x f =>
    dsimp only at hc
    split at hc
    · rename_i fs x' hu hx
      split at hc
      · rename_i fd hf
        split at hc
        · rename_i n hs
          cases hc
          have hxr := AXR hx
          simp only [val] at hv
          split at hv
          · rename_i b o hev
            rw [hev] at hxr
            cases hv
            simp only [VRel] at hxr
            obtain ⟨L, hL, e1⟩ := hxr
            have hsz := run_size (w := w) hs
            refine Gives.here h (u := .pointer (some ⟨L.b, L.o + (o + fd.offset), none⟩)) ?_ (by simp only [VRel]; exact ⟨L, hL, rfl⟩)
            simp only [execOp]
            refine val_of ?_
            rw [e1]
            simp [Instr.fieldAt, run_underlying hu, hf, Instr.sureAddr, fieldPlace, hsz, Addr.add_mid, Nat.add_assoc]
          · cases hv
        · cases hc
      · cases hc
    · cases hc
  | field s x f =>
    dsimp only at hc
    split at hc
    · rename_i fs x' hu hx
      split at hc
      · rename_i fd hf
        split at hc
        · rename_i g hg
          cases hc
          have hxr := AXR hx
          simp only [val] at hv
          split at hv
          · rename_i l hev
            rw [hev] at hxr
            simp only [VRel] at hxr
            obtain ⟨vs, e1, h1, h2⟩ := hxr
            have main : ∀ r, partV g l fd.offset = some r → Gives P B σ H w ((execOp (opv tm) ⟨dst, .field s x f, type, pos, after, guard⟩).run P w) r H := by
              intro r hr
              obtain ⟨u, q1, q2⟩ := partOne_sound (w := w) hg h2 h1 hr
              refine Gives.here h (u := u) ?_ q2
              simp only [execOp]
              refine val_of ?_
              rw [e1]
              simp [Instr.field, run_underlying hu, hf, asAgg, q1]
            split at hv
            · split at hv
              · rename_i r hr
                cases hv
                exact main _ (by simp [partV, hr])
              · cases hv
            · rename_i n
              split at hv
              · rename_i r hr
                cases hv
                exact main _ (by simp [partV, hr])
              · cases hv
          · cases hv
        · cases hc
      · cases hc
    · cases hc
  | indexAddr t x ix =>
    dsimp only at hc
    split at hc
    · rename_i x' i' hx hi
      have hxr := AXR hx
      have hir := AXR hi
      split at hc
      · rename_i n e hu
        split at hc
        · rename_i m hs
          cases hc
          simp only [val] at hv
          split at hv
          · rename_i b o k hev hk
            rw [hev] at hxr
            split at hv
            · rename_i hlt
              cases hv
              have hlt' : k < n := by
                have := Nat.le_of_ble_eq_true (show Nat.ble (k + 1) n = true from hlt)
                omega
              simp only [VRel] at hxr
              obtain ⟨L, hL, e1⟩ := hxr
              obtain ⟨k', e2⟩ := asNat?_spec hk hir
              have hsz := run_size (w := w) hs
              refine Gives.here h (u := .pointer (some ⟨L.b, L.o + (o + k * (m + 1)), none⟩)) ?_ (by simp only [VRel]; exact ⟨L, hL, rfl⟩)
              simp only [execOp]
              refine val_of ?_
              rw [e1, e2]
              have c1 : (0 : Int) ≤ (k : Int) ∧ (k : Int) < (n : Int) := ⟨by omega, by omega⟩
              simp [Instr.indexAt, asIntOf_int, run_underlying hu, Instr.sureAddr, c1, hlt', hsz, Addr.add_mid, Nat.add_assoc]
            · cases hv
          · cases hv
        · cases hc
      · split at hc
        · rename_i e sz ht
          cases hc
          obtain ⟨hut, hsz, hsz0⟩ := elemOf_spec ht
          simp only [val] at hv
          split at hv
          · rename_i b o n c s ex k hev hk
            rw [hev] at hxr
            split at hv
            · rename_i hlt
              cases hv
              have hlt' : k < n := by
                have := Nat.le_of_ble_eq_true (show Nat.ble (k + 1) n = true from hlt)
                omega
              simp only [VRel] at hxr
              obtain ⟨L, xo, cap, hL, e1, h1, h2, h3, h4, h5, h6⟩ := hxr
              obtain ⟨k', e2⟩ := asNat?_spec hk hir
              have hszr := run_size (w := w) hsz
              have hxo := h4 (by omega)
              refine Gives.here h (u := .pointer (some ⟨L.b, L.o + (o + k * sz), none⟩)) ?_ (by simp only [VRel]; exact ⟨L, hL, rfl⟩)
              simp only [execOp]
              refine val_of ?_
              rw [e1, e2, hxo]
              have c1 : (0 : Int) ≤ (k : Int) ∧ (k : Int) < (n : Int) := ⟨by omega, by omega⟩
              simp [Instr.indexAt, asIntOf_int, run_underlying hut, c1, hlt', hszr, Addr.add_mid, Nat.add_assoc]
            · cases hv
          · cases hv
        · cases hc
    · cases hc
  | index t x ix =>
    dsimp only at hc
    split at hc
    · rename_i x' i' hu hx hi
      cases hc
      have hxr := AXR hx
      have hir := AXR hi
      simp only [val] at hv
      split at hv
      · rename_i l k hev hk
        rw [hev] at hxr
        split at hv
        · rename_i q hq
          cases hv
          obtain ⟨s, e1, rfl⟩ := str_of hxr
          obtain ⟨k', e2⟩ := asNat?_spec hk hir
          have hg := nthN_get hq
          simp only [List.getElem?_map, Option.map_eq_some_iff, Array.getElem?_toList] at hg
          obtain ⟨b8, g1, g2⟩ := hg
          have hlt : k < s.size := (Array.getElem?_eq_some_iff.1 g1).1
          have g3 : s[k]? = some b8 := by
            rw [ByteArray.getElem?_lt' s k hlt]
            have := (Array.getElem?_eq_some_iff.1 g1).2
            exact congrArg some this
          refine Gives.here h (u := .int .u8 b8.toNat) ?_ (by simp only [VRel]; rw [g2])
          simp only [execOp]
          refine val_of ?_
          rw [e1, e2]
          simp [Instr.index, asIntOf_int, run_underlying hu, g3]
        · cases hv
      · cases hv
    · cases hc
  | lookup t x ix ok =>
    dsimp only at hc
    split at hc
    · rename_i kt et x' i' hu hx hi
      split at hc
      · rename_i ek z hk hz
        cases hc
        have hxr := AXR hx
        have hir := AXR hi
        simp only [val] at hv
        split at hv
        · cases hv
        · rename_i hok
          have hok' : okKey ek (i'.ev T) = true := by simpa using hok
          have main : ∀ r, H.lookE ek (x'.ev T) (i'.ev T) = some r → Gives P B σ H w ((execOp (opv tm) ⟨dst, .lookup t x ix ok, type, pos, after, guard⟩).run P w) (lookRes z ok r) H := by
            intro r hr
            obtain ⟨u, q1, q2⟩ := look_sound h hu hk hz hok' hr hxr hir ok
            exact Gives.here h (u := u) (by simp only [execOp]; exact val_of q1) q2
          split at hv
          · rename_i r hr
            cases hv
            exact main _ hr
          · rename_i hr
            cases hv
            exact main _ hr
          · cases hv
      · cases hc
    · cases hc
  | mapUpdate t m k x =>
    dsimp only at hc
    split at hc
    · rename_i kt et m' k' x' hu hm hk hx
      simp only [Option.map_eq_some_iff] at hc
      obtain ⟨ek, hek, rfl⟩ := hc
      have hmr := AXR hm
      simp only [val] at hv
      split at hv
      · cases hv
      · rename_i hok
        split at hv
        · rename_i b hev
          rw [hev] at hmr
          split at hv
          · rename_i es hb'
            split at hv
            · rename_i es' hs
              cases hv
              obtain ⟨w', q1, q2, q3⟩ := mset_sound h hu hek hb' (by simpa using hok) hs hmr (AXR hk) (AXR hx)
              exact Gives.skip q2 q3 (by simp [execOp, q1])
            · cases hv
          · cases hv
        · cases hv
    · cases hc
  | insert t m k x =>
    dsimp only at hc
    split at hc
    · rename_i kt et m' k' x' hu hm hk hx
      simp only [Option.map_eq_some_iff] at hc
      obtain ⟨ek, hek, rfl⟩ := hc
      have hmr := AXR hm
      simp only [val] at hv
      split at hv
      · cases hv
      · rename_i hok
        split at hv
        · rename_i b hev
          rw [hev] at hmr
          split at hv
          · rename_i es hb'
            split at hv
            · rename_i es' hs
              cases hv
              obtain ⟨w', q1, q2, q3⟩ := mset_sound h hu hek hb' (by simpa using hok) hs hmr (AXR hk) (AXR hx)
              exact Gives.skip q2 q3 (by simp [execOp, q1])
            · cases hv
          · cases hv
        · cases hv
    · cases hc
  | extract x ix =>
    simp only [Option.map_eq_some_iff] at hc
    obtain ⟨a, ha, rfl⟩ := hc
    have hxr := AXR ha
    simp only [val] at hv
    split at hv
    · rename_i l hev
      rw [hev] at hxr
      split at hv
      · rename_i r hr
        cases hv
        simp only [VRel] at hxr
        obtain ⟨vs, e1, h2⟩ := hxr
        obtain ⟨u, hu, hru⟩ := h2.get (nthV_get hr)
        simp only [Array.getElem?_toList] at hu
        exact Gives.here h (u := u) (by simp [execOp, e1, Instr.extract, hu]) hru
      · cases hv
    · cases hv
  | nilCheck x =>
    simp only [Option.map_eq_some_iff] at hc
    obtain ⟨a, ha, rfl⟩ := hc
    have hxr := AXR ha
    simp only [val] at hv
    split at hv
    · rename_i b o hev
      rw [hev] at hxr
      cases hv
      have hx0 := hxr
      simp only [VRel] at hxr
      obtain ⟨L, hL, e1⟩ := hxr
      exact Gives.here h (u := opv tm x) (by simp [execOp, e1]) hx0
    · rename_i f cap hev
      rw [hev] at hxr
      cases hv
      have hx0 := hxr
      simp only [VRel] at hxr
      obtain ⟨vs, e1, _⟩ := hxr
      exact Gives.here h (u := opv tm x) (by simp [execOp, e1]) hx0
    · cases hv
  | call c =>
    dsimp only at hc
    split at hc
    · cases hc
    · rename_i args hargs
      have hr := axs_rel hT hn hb hargs
      split at hc
      · simp only [Option.map_eq_some_iff] at hc
        obtain ⟨f, hf, rfl⟩ := hc
        simp [val] at hv
      · cases hc
      · rename_i bi hbi
        split at hc
        · cases hc
        · have hvs : (c.args.map (opv tm)).toList = c.args.toList.map (opv tm) := Array.toList_map
          have hg := bi_sound h hc hv (vs := c.args.map (opv tm)) (by rw [hvs]; exact hr) type (c.args.map fun | .const _ => true | _ => false)
          have he : execOp (opv tm) ⟨dst, .call c, type, pos, after, guard⟩ = builtin bi c.argTypes type (c.args.map fun | .const _ => true | _ => false) (c.args.map (opv tm)) := by
            simp only [execOp, resolve, hbi]
            rfl
          rw [he]
          exact hg
  | _ => cases hc
where
  fillA_length : ∀ (c : List AV) (ps : List (Nat × Nat × AV)) (c' : List AV), fillA c ps = some c' → c'.length = c.length
    | c, [], c', h => by simp [fillA] at h; rw [h]
    | c, (o, n, v) :: ps, c', h => by
      simp only [fillA] at h
      split at h
      · rename_i k hk
        split at h
        · rename_i hc
          simp only [Bool.and_eq_true] at hc
          have e3 := Nat.eq_of_beq_eq_true hc.1
          have e4 := Nat.le_of_ble_eq_true hc.2
          rw [fillA_length _ ps c' h, putAt_length k c o (by omega)]
        · cases h
      · cases h
end
end Go.AM
