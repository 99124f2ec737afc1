/- THE ABSTRACT MACHINE: what its values and its heap say of the model's. -/
import Derived.Control
import Derived.Below
import Derived.Laws.CopyRow
import Derived.Test.YtehgboiiphlfeaaGreatDoorAmComp
namespace Go.AM
open Go

/-! ### keys and tries -/
namespace Pos
theorem toNat_pos : ∀ p : Pos, 0 < p.toNat
  | .h => by simp [toNat]
  | .o p => by have := toNat_pos p; simp [toNat]; omega
  | .i p => by simp [toNat]
theorem toNat_inj : ∀ {p q : Pos}, p.toNat = q.toNat → p = q
  | .h, .h, _ => rfl
  | .o p, .o q, e => by simp only [toNat] at e; rw [toNat_inj (p := p) (q := q) (by omega)]
  | .i p, .i q, e => by simp only [toNat] at e; rw [toNat_inj (p := p) (q := q) (by omega)]
  | .h, .o q, e => by have := toNat_pos q; simp only [toNat] at e; omega
  | .h, .i q, e => by have := toNat_pos q; simp only [toNat] at e; omega
  | .o p, .h, e => by have := toNat_pos p; simp only [toNat] at e; omega
  | .i p, .h, e => by have := toNat_pos p; simp only [toNat] at e; omega
  | .o p, .i q, e => by simp only [toNat] at e; omega
  | .i p, .o q, e => by simp only [toNat] at e; omega
theorem beq_iff : ∀ {p q : Pos}, p.beq q = true ↔ p = q
  | .h, .h => by simp [beq]
  | .o p, .o q => by simp [beq, beq_iff (p := p) (q := q)]
  | .i p, .i q => by simp [beq, beq_iff (p := p) (q := q)]
  | .h, .o q => by simp [beq]
  | .h, .i q => by simp [beq]
  | .o p, .h => by simp [beq]
  | .i p, .h => by simp [beq]
  | .o p, .i q => by simp [beq]
  | .i p, .o q => by simp [beq]
theorem toNat_succ : ∀ p : Pos, p.succ.toNat = p.toNat + 1
  | .h => by simp [succ, toNat]
  | .o p => by simp [succ, toNat]
  | .i p => by have := toNat_succ p; simp [succ, toNat, this]; omega
theorem toNat_ofNatFuel : ∀ (f n : Nat), 1 ≤ n → n < 2 ^ f → (ofNatFuel f n).toNat = n
  | 0, n, ha, h2 => by simp at h2; omega
  | f + 1, n, ha, h2 => by
    unfold ofNatFuel
    split
    · rename_i h3; simp [toNat]; omega
    · rename_i h3
      have h4 : n / 2 < 2 ^ f := by rw [Nat.pow_succ] at h2; omega
      split
      · rw [toNat, toNat_ofNatFuel f (n / 2) (by omega) h4]; omega
      · rw [toNat, toNat_ofNatFuel f (n / 2) (by omega) h4]; omega
theorem toNat_ofSlot {t : Nat} (h : t < 1000000000) : (ofSlot t).toNat = t + 1 := toNat_ofNatFuel 40 (t + 1) (by omega) (by omega)
theorem ne_succ (p : Pos) : p ≠ p.succ := fun e => by have := congrArg toNat e; rw [toNat_succ] at this; omega
end Pos

namespace Tr
variable {α : Type}
@[simp] theorem get_lf (p : Pos) : (lf : Tr α).get p = none := by cases p <;> rfl
theorem get_set_eq (x : Option α) : ∀ (t : Tr α) (p : Pos), (t.set x p).get p = x
  | .lf, .h => rfl
  | .lf, .o p => by simp [set, get, get_set_eq x .lf p]
  | .lf, .i p => by simp [set, get, get_set_eq x .lf p]
  | .nd l v r, .h => rfl
  | .nd l v r, .o p => by simp [set, get, get_set_eq x l p]
  | .nd l v r, .i p => by simp [set, get, get_set_eq x r p]
theorem get_set_ne (x : Option α) : ∀ (t : Tr α) (p q : Pos), q ≠ p → (t.set x p).get q = t.get q
  | .lf, .h, .h, h => absurd rfl h
  | .lf, .h, .o q, _ => by simp [set, get]
  | .lf, .h, .i q, _ => by simp [set, get]
  | .lf, .o p, .h, _ => by simp [set, get]
  | .lf, .o p, .o q, h => by have := get_set_ne x .lf p q (fun e => h (by rw [e])); simp [set, get, this]
  | .lf, .o p, .i q, _ => by simp [set, get]
  | .lf, .i p, .h, _ => by simp [set, get]
  | .lf, .i p, .o q, _ => by simp [set, get]
  | .lf, .i p, .i q, h => by have := get_set_ne x .lf p q (fun e => h (by rw [e])); simp [set, get, this]
  | .nd l v r, .h, .h, h => absurd rfl h
  | .nd l v r, .h, .o q, _ => by simp [set, get]
  | .nd l v r, .h, .i q, _ => by simp [set, get]
  | .nd l v r, .o p, .h, _ => by simp [set, get]
  | .nd l v r, .o p, .o q, h => by have := get_set_ne x l p q (fun e => h (by rw [e])); simp [set, get, this]
  | .nd l v r, .o p, .i q, _ => by simp [set, get]
  | .nd l v r, .i p, .h, _ => by simp [set, get]
  | .nd l v r, .i p, .o q, _ => by simp [set, get]
  | .nd l v r, .i p, .i q, h => by have := get_set_ne x r p q (fun e => h (by rw [e])); simp [set, get, this]
open Classical in
theorem get_set (x : Option α) (t : Tr α) (p q : Pos) : (t.set x p).get q = if q = p then x else t.get q := by
  split
  · rename_i h; rw [h, get_set_eq]
  · rename_i h; exact get_set_ne x t p q h
end Tr

/-! ### values -/
/-- where a block lies: the model's block, the first cell, how many cells the model's block has, how many cells an element has -/
structure Loc where
  b : Nat
  o : Nat
  n : Nat
  s : Nat

abbrev Val : Type := Pos → Option Loc

mutual
def VRel (σ : Val) : AV → Value → Prop
  | .unk, _ => True
  | .bool b, v => v = .bool b
  | .int k n, v => v = .int k n
  | .str l, v => ∃ s : ByteArray, v = .string s ∧ s.data.toList.map (·.toNat) = l
  | .ptr b o, v => ∃ L, σ b = some L ∧ v = .pointer (some ⟨L.b, L.o + o, none⟩)
  | .nilp, v => v = .pointer none
  | .slc b o n c s ex, v => ∃ L x cap, σ b = some L ∧ v = .slice (some ⟨L.b, x, none⟩) n cap ∧ n ≤ c ∧ c ≤ cap ∧ (ex = true → cap = c) ∧ (cap ≠ 0 → x = L.o + o) ∧
      L.o + o + cap * s ≤ L.n ∧ 0 < s
  | .nils, v => v = .slice none 0 0
  | .map b, v => ∃ L, σ b = some L ∧ v = .map (some L.b)
  | .nilm, v => v = .map none
  | .fn f cap, v => ∃ vs, v = .func (.func f) #[] vs ∧ VRelL σ cap vs.toList
  | .yld b, v => ∃ L, σ b = some L ∧ v = .func (.yield L.b) #[] #[]
  | .nilf, v => v = .nilFunc
  | .ifc t a, v => ∃ u, v = .iface t u ∧ VRel σ a u
  | .nili, v => v = .nilIface
  | .agg l, v => ∃ vs : Array Value, v = .agg vs ∧ (∀ u ∈ vs.toList, u.oneCell' = true) ∧ VRelL σ l vs.toList
  | .tup l, v => ∃ vs, v = .tuple vs ∧ VRelL σ l vs.toList
def VRelL (σ : Val) : List AV → List Value → Prop
  | [], vs => vs = []
  | a :: l, vs => ∃ v r, vs = v :: r ∧ VRel σ a v ∧ VRelL σ l r
end

def Val.le (σ σ' : Val) : Prop := ∀ b L, σ b = some L → σ' b = some L
theorem Val.le_refl (σ : Val) : σ.le σ := fun _ _ h => h
theorem Val.le_trans {σ σ' σ'' : Val} (h : σ.le σ') (h' : σ'.le σ'') : σ.le σ'' := fun b L e => h' b L (h b L e)

mutual
theorem VRel.mono {σ σ' : Val} (hs : σ.le σ') : ∀ (a : AV) (v : Value), VRel σ a v → VRel σ' a v
  | .unk, _, _ => by simp [VRel]
  | .bool b, v, h => by simpa [VRel] using h
  | .int k n, v, h => by simpa [VRel] using h
  | .str l, v, h => by simpa only [VRel] using h
  | .ptr b o, v, h => by
    simp only [VRel] at h ⊢
    obtain ⟨L, h1, h2⟩ := h
    exact ⟨L, hs _ _ h1, h2⟩
  | .nilp, v, h => by simpa [VRel] using h
  | .slc b o n c s ex, v, h => by
    simp only [VRel] at h ⊢
    obtain ⟨L, x, cap, h1, h2⟩ := h
    exact ⟨L, x, cap, hs _ _ h1, h2⟩
  | .nils, v, h => by simpa [VRel] using h
  | .map b, v, h => by
    simp only [VRel] at h ⊢
    obtain ⟨L, h1, h2⟩ := h
    exact ⟨L, hs _ _ h1, h2⟩
  | .nilm, v, h => by simpa [VRel] using h
  | .fn f cap, v, h => by
    simp only [VRel] at h ⊢
    obtain ⟨vs, h1, h2⟩ := h
    exact ⟨vs, h1, VRelL.mono hs _ _ h2⟩
  | .yld b, v, h => by
    simp only [VRel] at h ⊢
    obtain ⟨L, h1, h2⟩ := h
    exact ⟨L, hs _ _ h1, h2⟩
  | .nilf, v, h => by simpa [VRel] using h
  | .ifc t a, v, h => by
    simp only [VRel] at h ⊢
    obtain ⟨u, h1, h2⟩ := h
    exact ⟨u, h1, VRel.mono hs _ _ h2⟩
  | .nili, v, h => by simpa [VRel] using h
  | .agg l, v, h => by
    simp only [VRel] at h ⊢
    obtain ⟨vs, h1, h0, h2⟩ := h
    exact ⟨vs, h1, h0, VRelL.mono hs _ _ h2⟩
  | .tup l, v, h => by
    simp only [VRel] at h ⊢
    obtain ⟨vs, h1, h2⟩ := h
    exact ⟨vs, h1, VRelL.mono hs _ _ h2⟩
theorem VRelL.mono {σ σ' : Val} (hs : σ.le σ') : ∀ (l : List AV) (vs : List Value), VRelL σ l vs → VRelL σ' l vs
  | [], vs, h => by simpa [VRelL] using h
  | a :: l, vs, h => by
    simp only [VRelL] at h ⊢
    obtain ⟨v, r, h1, h2, h3⟩ := h
    exact ⟨v, r, h1, VRel.mono hs _ _ h2, VRelL.mono hs _ _ h3⟩
end

theorem VRelL.length {σ : Val} : ∀ {l : List AV} {vs : List Value}, VRelL σ l vs → vs.length = l.length
  | [], vs, h => by simp only [VRelL] at h; simp [h]
  | a :: l, vs, h => by simp only [VRelL] at h; obtain ⟨v, r, rfl, _, h2⟩ := h; simp [VRelL.length h2]

theorem VRelL.get {σ : Val} : ∀ {l : List AV} {vs : List Value}, VRelL σ l vs → ∀ {i : Nat} {a : AV}, l[i]? = some a → ∃ v, vs[i]? = some v ∧ VRel σ a v
  | [], vs, h, i, a, e => by simp at e
  | x :: l, vs, h, i, a, e => by
    simp only [VRelL] at h
    obtain ⟨v, r, rfl, h1, h2⟩ := h
    cases i with
    | zero => simp at e; subst e; exact ⟨v, by simp, h1⟩
    | succ i => simp at e; obtain ⟨u, hu, hr⟩ := VRelL.get h2 e; exact ⟨u, by simpa using hu, hr⟩

theorem VRelL.append {σ : Val} : ∀ {l : List AV} {vs : List Value} {l' : List AV} {vs' : List Value}, VRelL σ l vs → VRelL σ l' vs' → VRelL σ (l ++ l') (vs ++ vs')
  | [], vs, l', vs', h, h' => by simp only [VRelL] at h; subst h; simpa using h'
  | a :: l, vs, l', vs', h, h' => by
    simp only [VRelL] at h
    obtain ⟨v, r, rfl, h1, h2⟩ := h
    simp only [List.cons_append, VRelL]
    exact ⟨v, _, rfl, h1, VRelL.append h2 h'⟩

theorem VRelL.of_get {σ : Val} : ∀ {l : List AV} {vs : List Value}, vs.length = l.length → (∀ (i : Nat) (a : AV), l[i]? = some a → ∃ v, vs[i]? = some v ∧ VRel σ a v) → VRelL σ l vs
  | [], vs, h, _ => by simp at h; simp [VRelL, h]
  | a :: l, vs, h, hg => by
    cases vs with
    | nil => simp at h
    | cons v r =>
      simp only [VRelL]
      refine ⟨v, r, rfl, ?_, VRelL.of_get (by simpa using h) fun i a e => ?_⟩
      · obtain ⟨u, hu, hr⟩ := hg 0 a (by simp); simp at hu; subst hu; exact hr
      · obtain ⟨u, hu, hr⟩ := hg (i + 1) a (by simpa using e); exact ⟨u, by simpa using hu, hr⟩

/-! ### the heap -/
def Frozenless (fr : Nat × Nat) (n : Nat) : Prop := ∀ i, i < n → ¬ (fr.1 ≤ i ∧ i < fr.2)

/-- a row: its cells lie in the model's block, from the place's first cell on -/
def RowAt (P : Program) (σ : Val) (w : World) (L : Loc) (e : TypeId) (vs : List AV) (ex : Bool) : Prop :=
  ∃ cs fr, w.heap[L.b]? = some (.cells cs e fr) ∧ cs.size = L.n ∧ Frozenless fr L.n ∧ L.o + vs.length ≤ L.n ∧ (ex = true → L.o + vs.length = L.n) ∧
    (P.info? e).map (·.size) = some L.s ∧ ∀ i a, vs[i]? = some a → ∃ u, cs[L.o + i]? = some u ∧ VRel σ a u ∧ u.oneCell' = true

def EntRel (σ : Val) (x : AV × AV) (m : MapEntry) : Prop := VRel σ x.1 m.key ∧ VRel σ x.2 m.val

def EntsRel (σ : Val) : List (AV × AV) → List MapEntry → Prop
  | [], ms => ms = []
  | x :: l, ms => ∃ m r, ms = m :: r ∧ EntRel σ x m ∧ EntsRel σ l r

def TRel (σ : Val) (T : AT) (tm : Array Value) : Prop := ∀ p, VRel σ ((AX.t p).ev T) (tm.getD (p.toNat - 1) undef)

def lsOf : LS → LoopState
  | .ready => .ready | .busy => .busy | .done => .done | .over => .exhausted

/-- a loop's record -/
def LoopAt (P : Program) (σ : Val) (w : World) (L : Loc) (s : LS) (jump : Option AC) (T : AT) (ps : List Pos) (asg body : AC) : Prop :=
  ∃ r : Loop, w.heap[L.b]? = some (.loop r) ∧ r.state = lsOf s ∧ TRel σ T r.tmps ∧ posOf r.tmps.size r.params.toList = some ps ∧
    codeOf P r.tmps.size r.assign = some asg ∧ codeOf P r.tmps.size r.body = some body ∧
    (match jump with | none => r.pending = none | some j => ∃ c, r.pending = some c ∧ codeOf P r.tmps.size c = some j) ∧
    r.tmps.size < 1000000000 ∧ noRng asg = true ∧ noRng body = true

def BRel (P : Program) (σ : Val) (w : World) (L : Loc) : AB → Prop
  | .row e _ _ vs ex => RowAt P σ w L e vs ex
  | .map es => ∃ ms clock, w.heap[L.b]? = some (.map ms clock) ∧ EntsRel σ es ms.toList
  | .loop s j T ps asg body => LoopAt P σ w L s j T ps asg body

/-- a block that counts: its kind (a row: true) and its class -/
def AH.key (H : AH) (b : Pos) : Option (Bool × Pos) :=
  match H.bl.get b with
  | some (.row _ c v _ _) => if (H.cls c).1 = v then some (true, c) else none
  | some _ => some (false, b)
  | none => none

/-- the names that are kept for later -/
def AH.allr (H : AH) : List Pos := (match H.pk with | some r => [r] | none => []) ++ H.rs.flatten.filterMap id

/-- nothing bears them yet -/
structure Kept (σ : Val) (H : AH) : Prop where
  nodup : H.allr.Nodup
  lt : ∀ r ∈ H.allr, r.toNat < H.nx.toNat
  bl : ∀ r ∈ H.allr, H.bl.get r = none
  cv : ∀ r ∈ H.allr, H.cv.get r = none
  val : ∀ r ∈ H.allr, σ r = none
  cls : ∀ r ∈ H.allr, ∀ b e v vs ex, H.bl.get b ≠ some (.row e r v vs ex)

theorem Kept.over {σ σ' : Val} {H H' : AH} (h : Kept σ H) (hpk : H'.pk = H.pk) (hrs : H'.rs = H.rs) (hnx : H.nx.toNat ≤ H'.nx.toNat) (hbl : ∀ r ∈ H.allr, H'.bl.get r = none) (hcv : ∀ r ∈ H.allr, H'.cv.get r = none)
    (hval : ∀ r ∈ H.allr, σ' r = none) (hcls : ∀ r ∈ H.allr, ∀ b e v vs ex, H'.bl.get b ≠ some (.row e r v vs ex)) : Kept σ' H' := by
  have e : H'.allr = H.allr := by unfold AH.allr; rw [hpk, hrs]
  exact ⟨e ▸ h.nodup, fun r hr => Nat.lt_of_lt_of_le (h.lt r (e ▸ hr)) hnx, fun r hr => hbl r (e ▸ hr), fun r hr => hcv r (e ▸ hr), fun r hr => hval r (e ▸ hr), fun r hr => hcls r (e ▸ hr)⟩

structure HRel (P : Program) (B : Nat) (σ : Val) (H : AH) (w : World) : Prop where
  at_ : ∀ b x, H.bl.get b = some x → (H.key b).isSome → ∃ L, σ b = some L ∧ B ≤ L.b ∧ L.b < w.heap.size ∧ BRel P σ w L x
  sep : ∀ b b' k k' L L', H.key b = some k → H.key b' = some k' → k ≠ k' → σ b = some L → σ b' = some L' → L.b ≠ L'.b
  newB : ∀ b, H.nx.toNat ≤ b.toNat → H.bl.get b = none
  newC : ∀ b, H.nx.toNat ≤ b.toNat → H.cv.get b = none
  newS : ∀ b, H.nx.toNat ≤ b.toNat → σ b = none
  cls : ∀ b e c v vs ex, H.bl.get b = some (.row e c v vs ex) → c.toNat < H.nx.toNat ∧ v ≤ (H.cls c).1
  solo : ∀ b c, H.key b = some (true, c) → (H.cls c).2 = c → b = c
  top : ∀ b c t L Lt e v vs ex e' v' vs' ex', H.key b = some (true, c) → (H.cls c).2 = t → H.key t = some (true, c) → σ b = some L → σ t = some Lt → L.b = Lt.b →
    H.bl.get b = some (.row e c v vs ex) → H.bl.get t = some (.row e' c v' vs' ex') → L.o + vs.length ≤ Lt.o + vs'.length
  hB : B ≤ w.heap.size
  kept : Kept σ H

/-- the model's blocks that may be written -/
def Foot (σ : Val) (H : AH) (k : Nat) : Prop := ∃ b L, (H.key b).isSome ∧ σ b = some L ∧ L.b = k

/-- what became of the world -/
structure Ext (σ : Val) (H : AH) (w : World) (σ' : Val) (H' : AH) (w' : World) : Prop where
  le : σ.le σ'
  os : w'.os = w.os
  tape : w'.tape = w.tape
  output : w'.output = w.output
  size : w.heap.size ≤ w'.heap.size
  keep : ∀ k, k < w.heap.size → ¬ Foot σ H k → w'.heap[k]? = w.heap[k]?
  foot : ∀ k, k < w.heap.size → Foot σ' H' k → Foot σ H k

theorem Ext.refl (σ : Val) (H : AH) (w : World) : Ext σ H w σ H w := ⟨Val.le_refl σ, rfl, rfl, rfl, Nat.le_refl _, fun _ _ _ => rfl, fun _ _ h => h⟩
theorem Ext.trans {σ H w σ' H' w' σ'' H'' w''} (h : Ext σ H w σ' H' w') (h' : Ext σ' H' w' σ'' H'' w'') : Ext σ H w σ'' H'' w'' :=
  ⟨Val.le_trans h.le h'.le, h'.os.trans h.os, h'.tape.trans h.tape, h'.output.trans h.output, Nat.le_trans h.size h'.size,
   fun k hk hf => (h'.keep k (Nat.lt_of_lt_of_le hk h.size) (fun hf' => hf (h.foot k hk hf'))).trans (h.keep k hk hf),
   fun k hk hf => h.foot k hk (h'.foot k (Nat.lt_of_lt_of_le hk h.size) hf)⟩
/-- a draw -/
theorem Ext.drew (σ : Val) (H : AH) (w : World) (n : Nat) : Ext σ H w σ H { w with drawn := n } := ⟨Val.le_refl σ, rfl, rfl, rfl, Nat.le_refl _, fun _ _ _ => rfl, fun _ _ h => h⟩
theorem HRel.drew {P B σ H w} (h : HRel P B σ H w) (n : Nat) : HRel P B σ H { w with drawn := n } :=
  ⟨fun b x hx hk => by
      obtain ⟨L, h1, h2, h3, h4⟩ := h.at_ b x hx hk
      exact ⟨L, h1, h2, h3, by cases x <;> exact h4⟩, h.sep, h.newB, h.newC, h.newS, h.cls, h.solo, h.top, h.hB, h.kept⟩

theorem TRel.mono {σ σ' : Val} (hs : σ.le σ') {T tm} (h : TRel σ T tm) : TRel σ' T tm := fun p => VRel.mono hs _ _ (h p)

theorem EntsRel.mono {σ σ' : Val} (hs : σ.le σ') : ∀ {l ms}, EntsRel σ l ms → EntsRel σ' l ms
  | [], ms, h => h
  | x :: l, ms, ⟨m, r, e, h1, h2⟩ => ⟨m, r, e, ⟨VRel.mono hs _ _ h1.1, VRel.mono hs _ _ h1.2⟩, EntsRel.mono hs h2⟩

/-- a block's relation, in a world in which the model's block is the same -/
theorem BRel.keep {P σ σ' w w' L x} (hs : Val.le σ σ') (hw : w'.heap[L.b]? = w.heap[L.b]?) (h : BRel P σ w L x) : BRel P σ' w' L x := by
  cases x with
  | row e c v vs ex =>
    obtain ⟨cs, fr, h1, h2, h3, h4, h5, h6, h7⟩ := h
    exact ⟨cs, fr, hw.trans h1, h2, h3, h4, h5, h6, fun i a e => by obtain ⟨u, hu, hr, h1⟩ := h7 i a e; exact ⟨u, hu, VRel.mono hs _ _ hr, h1⟩⟩
  | map es =>
    obtain ⟨ms, clock, h1, h2⟩ := h
    exact ⟨ms, clock, hw.trans h1, EntsRel.mono hs h2⟩
  | loop s j T ps asg body =>
    obtain ⟨r, h1, h2, h3, h4⟩ := h
    exact ⟨r, hw.trans h1, h2, TRel.mono hs h3, h4⟩

def Val.set (σ : Val) (b : Pos) (L : Loc) : Val := fun c => if c.beq b then some L else σ c
theorem Val.set_eq (σ : Val) (b : Pos) (L : Loc) : (σ.set b L) b = some L := by simp [Val.set, Pos.beq_iff.2]
theorem Val.set_ne (σ : Val) {b c : Pos} (L : Loc) (h : c ≠ b) : (σ.set b L) c = σ c := by
  have : c.beq b = false := by
    cases hb : c.beq b with
    | false => rfl
    | true => exact absurd (Pos.beq_iff.1 hb) h
  simp [Val.set, this]
theorem Val.le_set {σ : Val} {b : Pos} (L : Loc) (h : σ b = none) : σ.le (σ.set b L) := fun c L' e => by
  by_cases hc : c = b
  · subst hc; rw [h] at e; cases e
  · rw [Val.set_ne _ _ hc]; exact e

/-- keys: blocks of the heap with one block set anew -/
theorem AH.key_congr {H H' : AH} {b : Pos} (hb : H'.bl.get b = H.bl.get b) (hc : ∀ c, (∃ e v vs ex, H.bl.get b = some (.row e c v vs ex)) → H'.cls c = H.cls c) : H'.key b = H.key b := by
  unfold AH.key
  rw [hb]
  cases hx : H.bl.get b with
  | none => rfl
  | some x =>
    cases x with
    | row e c v vs ex => simp only []; rw [hc c ⟨e, v, vs, ex, hx⟩]
    | map es => rfl
    | loop _ _ _ _ _ _ => rfl
end Go.AM
