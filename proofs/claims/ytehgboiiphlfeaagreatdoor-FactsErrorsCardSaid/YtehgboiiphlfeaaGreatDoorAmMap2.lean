/- THE ABSTRACT MACHINE: look-ups, stores and deletions in maps. -/
import Derived.Test.YtehgboiiphlfeaaGreatDoorAmMap
namespace Go.AM
open Go

section
variable {P : Program} {B : Nat} {σ : Val} {H : AH} {w : World}

theorem setE_spec {ek : EK} {k v : AV} : ∀ {es es' : List (AV × AV)}, setE ek k v es = some es' →
    (findE ek k es = some none ∧ es' = es ++ [(k, v)]) ∨ (∃ u i a, findE ek k es = some (some u) ∧ idxE ek k es = some i ∧ es[i]? = some (a, u) ∧ es' = es.set i (k, v))
  | [], es', h => by simp [setE] at h; subst h; exact .inl ⟨rfl, rfl⟩
  | (a, u) :: es, es', h => by
    simp only [setE] at h
    split at h
    · rename_i hq
      simp at h; subst h
      exact .inr ⟨u, 0, a, by simp [findE, hq], by simp [idxE, hq], rfl, by simp⟩
    · rename_i hq
      split at h
      · rename_i l hl
        simp at h; subst h
        rcases setE_spec hl with ⟨h1, rfl⟩ | ⟨u', i, a', h1, h2, h3, rfl⟩
        · exact .inl ⟨by simp [findE, hq, h1], by simp⟩
        · exact .inr ⟨u', i + 1, a', by simp [findE, hq, h1], by simp [idxE, hq, h2], by simpa using h3, by simp⟩
      · cases h
    · cases h

theorem delE_spec {ek : EK} {k : AV} : ∀ {es es' : List (AV × AV)}, delE ek k es = some es' →
    (findE ek k es = some none ∧ es' = es) ∨ (∃ u i, findE ek k es = some (some u) ∧ idxE ek k es = some i ∧ es' = es.eraseIdx i)
  | [], es', h => by simp [delE] at h; subst h; exact .inl ⟨rfl, rfl⟩
  | (a, u) :: es, es', h => by
    simp only [delE] at h
    split at h
    · rename_i hq
      simp at h; subst h
      exact .inr ⟨u, 0, by simp [findE, hq], by simp [idxE, hq], by simp⟩
    · rename_i hq
      split at h
      · rename_i l hl
        simp at h; subst h
        rcases delE_spec hl with ⟨h1, rfl⟩ | ⟨u', i, h1, h2, rfl⟩
        · exact .inl ⟨by simp [findE, hq, h1], rfl⟩
        · exact .inr ⟨u', i + 1, by simp [findE, hq, h1], by simp [idxE, hq, h2], by simp⟩
      · cases h
    · cases h

theorem EntsRel.length : ∀ {es : List (AV × AV)} {ms : List MapEntry}, EntsRel σ es ms → ms.length = es.length
  | [], ms, h => by simp only [EntsRel] at h; simp [h]
  | x :: es, ms, h => by simp only [EntsRel] at h; obtain ⟨m, r, rfl, _, h2⟩ := h; simp [EntsRel.length h2]
theorem EntsRel.snoc {k v : AV} {m : MapEntry} (hm : EntRel σ (k, v) m) : ∀ {es : List (AV × AV)} {ms : List MapEntry}, EntsRel σ es ms → EntsRel σ (es ++ [(k, v)]) (ms ++ [m])
  | [], ms, h => by simp only [EntsRel] at h; subst h; exact ⟨m, [], rfl, hm, rfl⟩
  | x :: es, ms, h => by
    simp only [EntsRel] at h; obtain ⟨m', r, rfl, h1, h2⟩ := h
    exact ⟨m', _, rfl, h1, EntsRel.snoc hm h2⟩
theorem EntsRel.set {k v : AV} {f : MapEntry → MapEntry} : ∀ {es : List (AV × AV)} {ms : List MapEntry} {i : Nat}, EntsRel σ es ms → (∀ m, ms[i]? = some m → EntRel σ (k, v) (f m)) → EntsRel σ (es.set i (k, v)) (ms.modify i f)
  | [], ms, i, h, _ => by simp only [EntsRel] at h; subst h; simp [EntsRel]
  | x :: es, ms, i, h, hf => by
    simp only [EntsRel] at h; obtain ⟨m', r, rfl, h1, h2⟩ := h
    cases i with
    | zero => simp only [List.set_cons_zero, List.modify_zero_cons]; exact ⟨_, _, rfl, hf m' rfl, h2⟩
    | succ i => simp only [List.set_cons_succ, List.modify_succ_cons]; exact ⟨_, _, rfl, h1, EntsRel.set h2 fun m hm => hf m (by simpa using hm)⟩
theorem EntsRel.erase : ∀ {es : List (AV × AV)} {ms : List MapEntry} {i : Nat}, EntsRel σ es ms → EntsRel σ (es.eraseIdx i) (ms.eraseIdx i)
  | [], ms, i, h => by simp only [EntsRel] at h; subst h; simp [EntsRel]
  | x :: es, ms, i, h => by
    simp only [EntsRel] at h; obtain ⟨m', r, rfl, h1, h2⟩ := h
    cases i with
    | zero => simpa using h2
    | succ i => simp only [List.eraseIdx_cons_succ]; exact ⟨_, _, rfl, h1, EntsRel.erase h2⟩

/-- a map that is known -/
theorem map_at (h : HRel P B σ H w) {b : Pos} {es : List (AV × AV)} (hb : H.bl.get b = some (.map es)) {a : Value} (ha : VRel σ (.map b) a) :
    ∃ L ms clock, σ b = some L ∧ a = .map (some L.b) ∧ w.heap[L.b]? = some (.map ms clock) ∧ EntsRel σ es ms.toList ∧ H.key b = some (false, b) := by
  simp only [VRel] at ha
  obtain ⟨L, hL, rfl⟩ := ha
  have hk : H.key b = some (false, b) := by simp [AH.key, hb]
  obtain ⟨L', hL', _, _, ms, clock, g1, g2⟩ := h.at_ b _ hb (by simp [hk])
  rw [hL] at hL'; cases hL'
  exact ⟨L, ms, clock, hL, rfl, g1, g2, hk⟩

theorem run_getObj_map {r : Nat} {ms : Array MapEntry} {clock : Nat} (h : w.heap[r]? = some (.map ms clock)) : (getObj r).run P w = .ok (.map ms clock) w := by simp [getObj, Sem.run, h]
theorem run_setObj_map {r : Nat} {ms : Array MapEntry} {clock : Nat} (h : w.heap[r]? = some (.map ms clock)) (o : Obj) : (setObj r o).run P w = .ok () { w with heap := w.heap.setIfInBounds r o } := by simp [setObj, Sem.run, h]

/-- a map is another one now -/
theorem map_over (h : HRel P B σ H w) {b : Pos} {L : Loc} (hL : σ b = some L) (hk : H.key b = some (false, b)) {es' : List (AV × AV)} {ms' : Array MapEntry} {clock' : Nat} (hes : EntsRel σ es' ms'.toList) (hlt : L.b < w.heap.size) :
    HRel P B σ { H with bl := H.bl.set (some (.map es')) b } { w with heap := w.heap.setIfInBounds L.b (.map ms' clock') } ∧
    Ext σ H w σ { H with bl := H.bl.set (some (.map es')) b } { w with heap := w.heap.setIfInBounds L.b (.map ms' clock') } := by
  have hbl : ∀ b', b' ≠ b → (H.bl.set (some (.map es')) b).get b' = H.bl.get b' := fun b' hne => Tr.get_set_ne _ _ _ _ hne
  have hkey : ∀ b', b' ≠ b → AH.key { H with bl := H.bl.set (some (.map es')) b } b' = H.key b' := fun b' hne => AH.key_congr (hbl b' hne) fun _ _ => rfl
  have hkb : AH.key { H with bl := H.bl.set (some (.map es')) b } b = some (false, b) := by simp [AH.key, Tr.get_set_eq]
  have nrow : ∀ e c v vs ex, (H.bl.set (some (AB.map es')) b).get b ≠ some (.row e c v vs ex) := fun e c v vs ex hh => by rw [Tr.get_set_eq] at hh; cases hh
  refine h.over (b := b) (x' := .map es') (L := L) hL (by simp [hk]) { H with bl := H.bl.set (some (.map es')) b } rfl rfl rfl rfl h.kept.cv (fun _ _ _ _ _ hx => by cases hx) (w' := { w with heap := w.heap.setIfInBounds L.b (.map ms' clock') }) rfl rfl rfl (by simp)
    (fun k hne => by simp [Array.getElem?_setIfInBounds, Ne.symm hne]) (fun b' hne hs => ⟨hkey b' hne, ?_⟩) ⟨ms', clock', by simp [hlt], hes⟩ h.newC ?_ ?_ ?_
  · intro e2
    rw [hk] at e2
    unfold AH.key at e2
    split at e2
    · split at e2 <;> simp at e2
    · simp at e2; exact hne e2
    · cases e2
  · intro b' e c v vs ex hx
    by_cases hne : b' = b
    · subst hne; exact absurd hx (nrow _ _ _ _ _)
    · rw [hbl b' hne] at hx; exact h.cls b' e c v vs ex hx
  · intro b' c hk' hc'
    by_cases hne : b' = b
    · subst hne; rw [hkb] at hk'; simp at hk'
    · rw [hkey b' hne] at hk'; exact h.solo b' c hk' hc'
  · intro b1 c1 t L1 Lt e1 v1 vs1 ex1 e2 v2 vs2 ex2 k1 ht k2 s1 s2 hbb q1 q2
    by_cases n1 : b1 = b
    · subst n1; exact absurd q1 (nrow _ _ _ _ _)
    · by_cases n2 : t = b
      · subst n2; exact absurd q2 (nrow _ _ _ _ _)
      · rw [hkey b1 n1] at k1; rw [hkey t n2] at k2; rw [hbl b1 n1] at q1; rw [hbl t n2] at q2
        exact h.top b1 c1 t L1 Lt e1 v1 vs1 ex1 e2 v2 vs2 ex2 k1 ht k2 s1 s2 hbb q1 q2

theorem lt_of_heap {r : Nat} {o : Obj} (h : w.heap[r]? = some o) : r < w.heap.size := (Array.getElem?_eq_some_iff.1 h).1

/-- a store into a map -/
theorem mset_sound (h : HRel P B σ H w) {t kt et : TypeId} {ek : EK} (hu : P.underlying t = some (.map kt et)) (hk : ekKey P kt = some ek) {b : Pos} {es es' : List (AV × AV)} (hb : H.bl.get b = some (.map es)) {k v : AV}
    (hok : okKey ek k = true) (hs : setE ek k v es = some es') {a kv vv : Value} (ha : VRel σ (.map b) a) (hkv : VRel σ k kv) (hvv : VRel σ v vv) :
    ∃ w', (Instr.mapUpdate t a kv vv).run P w = .ok () w' ∧ HRel P B σ { H with bl := H.bl.set (some (.map es')) b } w' ∧ Ext σ H w σ { H with bl := H.bl.set (some (.map es')) b } w' := by
  obtain ⟨L, ms, clock, hL, rfl, g1, g2, hkb⟩ := map_at h hb ha
  have hck := checkKey_run (w := w) hk hkv hok false 9999 (by omega)
  have hlt := lt_of_heap g1
  have hrun : (Instr.mapUpdate t (.map (some L.b)) kv vv).run P w = (match (Instr.findKey kt kv ms.toList).run P w with
      | .ok (some (i, _)) w => (do
        let key ← Instr.keyThatStays (((ms[i]?).map (·.key)).getD kv) kv
        setObj L.b (.map (ms.modify i fun e => { e with key, val := vv }) clock) : Sem Unit).run P w
      | .ok none w => (setObj L.b (.map (ms.push { key := kv, val := vv, born := clock }) (clock + 1))).run P w
      | .halt x w => .halt x w) := by
    unfold Instr.mapUpdate
    simp only [Sem.run_bind, run_underlying hu, Result.andThen_ok, run_getObj_map g1, show (10000 : Nat) = 9999 + 1 from rfl, hck]
    cases (Instr.findKey kt kv ms.toList).run P w with
    | ok r w2 => cases r with
      | none => simp
      | some x => simp
    | halt x w2 => simp
  rcases setE_spec hs with ⟨e1, rfl⟩ | ⟨u, i, x, e1, e2, e3, rfl⟩
  · obtain ⟨f1, _⟩ := findKey_run (w := w) hk hkv g2 e1
    rw [f1] at hrun
    simp only [run_setObj_map g1] at hrun
    have hov := map_over h hL hkb (es' := es ++ [(k, v)]) (ms' := ms.push { key := kv, val := vv, born := clock }) (clock' := clock + 1) (by simpa using EntsRel.snoc (m := { key := kv, val := vv, born := clock }) ⟨hkv, hvv⟩ g2) hlt
    exact ⟨_, hrun, hov.1, hov.2⟩
  · obtain ⟨i', m, a', f1, f2, f3, f4, f5, f6⟩ := findKey_run (w := w) hk hkv g2 e1
    rw [e2] at f2; cases f2
    rw [f1] at hrun
    have hmi : ms[i]? = some m := by simpa using f3
    have hq : eqK ek k x = some true := idxE_eq e2 e3
    have hkm : EntRel σ (x, u) m := by
      have := EntsRel.get g2 e3
      obtain ⟨m', q1, q2⟩ := this
      rw [f3] at q1; cases q1; exact q2
    have hsame := (key_same hk hq hkv hkm.1).2 9999
    simp only [hmi, Option.map_some, Option.getD_some, f6] at hrun
    have hst : (Instr.keyThatStays kv kv).run P w = .ok kv w := by
      unfold Instr.keyThatStays
      rw [if_pos hsame]; simp
    simp only [Sem.run_bind, hst, Result.andThen_ok, run_setObj_map g1] at hrun
    have hov := map_over h hL hkb (es' := es.set i (k, v)) (ms' := ms.modify i fun e => { e with key := kv, val := vv }) (clock' := clock) (by
      rw [Array.toList_modify]
      exact EntsRel.set g2 fun m _ => ⟨hkv, hvv⟩) hlt
    exact ⟨_, hrun, hov.1, hov.2⟩
where
  idxE_eq {ek : EK} {k : AV} : ∀ {es : List (AV × AV)} {i : Nat} {x u : AV}, idxE ek k es = some i → es[i]? = some (x, u) → eqK ek k x = some true
    | [], i, x, u, h, _ => by simp [idxE] at h
    | (a, v) :: es, i, x, u, h, h' => by
      simp only [idxE] at h
      split at h
      · rename_i hq
        simp at h; subst h
        simp at h'
        rw [← h'.1]; exact hq
      · cases hi : idxE ek k es with
        | none => simp [hi] at h
        | some j =>
          simp [hi] at h
          subst h
          exact idxE_eq hi (by simpa using h')
  EntsRel.get {σ : Val} : ∀ {es : List (AV × AV)} {ms : List MapEntry} {i : Nat} {x : AV × AV}, EntsRel σ es ms → es[i]? = some x → ∃ m, ms[i]? = some m ∧ EntRel σ x m
    | [], ms, i, x, _, h => by simp at h
    | y :: es, ms, i, x, h, hi => by
      simp only [EntsRel] at h; obtain ⟨m', r, rfl, h1, h2⟩ := h
      cases i with
      | zero => simp at hi; subst hi; exact ⟨m', rfl, h1⟩
      | succ i => simp at hi; obtain ⟨m, q1, q2⟩ := EntsRel.get h2 hi; exact ⟨m, by simpa using q1, q2⟩

/-- what a look-up gives -/
def lookRes (z : AV) (ok : Bool) : Option AV → AV
  | some v => if ok then .tup [v, .bool true] else v
  | none => if ok then .tup [z, .bool false] else z

/-- a look-up -/
theorem look_sound (h : HRel P B σ H w) {t kt et : TypeId} {ek : EK} (hu : P.underlying t = some (.map kt et)) (hk : ekKey P kt = some ek) {z : AV} (hz : zeroOf P et = some z) {x i : AV} {r : Option AV}
    (hok : okKey ek i = true)
    (hr : H.lookE ek x i = some r) {a iv : Value} (ha : VRel σ x a) (hi : VRel σ i iv) (ok : Bool) :
    ∃ u, (Instr.lookup t a iv ok).run P w = .ok u w ∧ VRel σ (lookRes z ok r) u := by
  obtain ⟨zv, hzv, hzr⟩ := zero_run (w := w) hz
  have fin : ∀ (v : AV) (u : Value) (o : Bool), VRel σ v u → VRel σ (if ok then .tup [v, .bool o] else v) (if ok then .tuple #[u, .bool o] else u) := fun v u o hvu => by
    cases ok
    · simpa using hvu
    · simp only [if_true, VRel]
      exact ⟨_, rfl, by simp [VRelL, VRel, hvu]⟩
  have hck := fun e => checkKey_run (w := w) hk hi hok e 9999 (by omega)
  unfold AH.lookE at hr
  split at hr
  · simp at hr; subst hr
    simp only [VRel] at ha
    subst ha
    refine ⟨if ok then .tuple #[zv, .bool false] else zv, ?_, fin z zv false (hzr σ)⟩
    have hd : ∃ d, P.underlying kt = some d := by
      unfold ekKey at hk
      split at hk <;> first | exact ⟨_, by assumption⟩ | cases hk
    obtain ⟨d, hd⟩ := hd
    have hfk : (Instr.findKey kt iv []).run P w = .ok none w := by simp [Instr.findKey, run_underlying hd, Instr.findNow]
    simp only [Instr.lookup, Sem.run_bind, run_underlying hu, Result.andThen_ok, Sem.run_pure, show (10000 : Nat) = 9999 + 1 from rfl, hck, hfk, hzv]
  · rename_i b
    cases hb : H.bl.get b with
    | none => simp [hb] at hr
    | some ab =>
    cases ab with
    | row _ _ _ _ _ => simp [hb] at hr
    | loop _ _ _ _ _ _ => simp [hb] at hr
    | map es =>
      simp only [hb] at hr
      obtain ⟨L, ms, clock, hL, rfl, g1, g2, hkb⟩ := map_at h hb ha
      have hf := findKey_run (w := w) hk hi g2 hr
      cases r with
      | none =>
        refine ⟨if ok then .tuple #[zv, .bool false] else zv, ?_, fin z zv false (hzr σ)⟩
        simp only [Instr.lookup, Sem.run_bind, run_underlying hu, Result.andThen_ok, run_getObj_map g1, Sem.run_pure, show (10000 : Nat) = 9999 + 1 from rfl, hck, hf.1, hzv]
      | some v =>
        obtain ⟨i', m, a', f1, f2, f3, f4, f5, f6⟩ := hf
        refine ⟨if ok then .tuple #[m.val, .bool true] else m.val, ?_, fin v m.val true f5⟩
        simp only [Instr.lookup, Sem.run_bind, run_underlying hu, Result.andThen_ok, run_getObj_map g1, Sem.run_pure, show (10000 : Nat) = 9999 + 1 from rfl, hck, f1]
  · cases hr
end
end Go.AM
