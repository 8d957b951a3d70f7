/- Plain laws, the first part: words on numbers, what an Option yields, loops, permutations of small numbers. -/
import Derived.Test.YthhgemlaiekjpabA
import Derived.Test.YthhgemlaiekjpabM
set_option linter.unusedVariables false
set_option linter.unusedSimpArgs false
namespace Go.Pu
open Go Go.Abs

/-! ## Numbers -/
theorem w64 {n : Int} (h : -9223372036854775808 ≤ n ∧ n ≤ 9223372036854775807) : IntKind.i64.wrap n = n := by
  have e : IntKind.i64.bits = 64 := rfl
  have s : IntKind.i64.signed = true := rfl
  simp only [IntKind.wrap, e, s, Bool.true_and, decide_eq_true_eq]
  split <;> omega
theorem w8 {n : Int} (h : 0 ≤ n ∧ n ≤ 255) : IntKind.u8.wrap n = n := by
  have e : IntKind.u8.bits = 8 := rfl
  have s : IntKind.u8.signed = false := rfl
  simp only [IntKind.wrap, e, s, Bool.false_and]
  rw [if_neg (by simp)]
  omega
theorem w8_lt (n : Int) : 0 ≤ IntKind.u8.wrap n ∧ IntKind.u8.wrap n ≤ 255 := by
  have e : IntKind.u8.bits = 8 := rfl
  have s : IntKind.u8.signed = false := rfl
  simp only [IntKind.wrap, e, s, Bool.false_and]
  rw [if_neg (by simp)]
  omega
theorem wu64_lt (n : Int) : 0 ≤ IntKind.u64.wrap n ∧ IntKind.u64.wrap n ≤ 18446744073709551615 := by
  have e : IntKind.u64.bits = 64 := rfl
  have s : IntKind.u64.signed = false := rfl
  simp only [IntKind.wrap, e, s, Bool.false_and]
  rw [if_neg (by simp)]
  omega
theorem wu64 {n : Int} (h : 0 ≤ n ∧ n ≤ 18446744073709551615) : IntKind.u64.wrap n = n := by
  have e : IntKind.u64.bits = 64 := rfl
  have s : IntKind.u64.signed = false := rfl
  simp only [IntKind.wrap, e, s, Bool.false_and]
  rw [if_neg (by simp)]
  omega
theorem ne_true_of_false {b : Bool} (h : b = false) : ¬ b = true := by simp [h]

/-! ## What an Option yields -/
def W {α : Type} (m : Option α) (Q : α → Prop) : Prop := ∃ r, m = some r ∧ Q r
section
variable {α β σ ρ : Type} {Q : α → Prop}
theorem W.some {r : α} (h : Q r) : W (some r) Q := ⟨r, rfl, h⟩
theorem W.bind {m : Option β} {f : β → Option α} (h : W m fun b => W (f b) Q) : W (m.bind f) Q := by
  obtain ⟨b, e, r, e2, q⟩ := h
  exact ⟨r, by rw [e]; exact e2, q⟩
theorem W.mono {m : Option α} {Q' : α → Prop} (h : W m Q') (k : ∀ r, Q' r → Q r) : W m Q := by
  obtain ⟨r, e, q⟩ := h
  exact ⟨r, e, k r q⟩
/-- a step that is known, then the rest -/
theorem W.call {m : Option β} {f : β → Option α} {R : β → Prop} (h : W m R) (k : ∀ b, R b → W (f b) Q) : W (m.bind f) Q := W.bind (h.mono k)
theorem W.chk {p : Prop} [Decidable p] {x : Option α} (h : p) (k : W x Q) : W (if p then x else none) Q := by rw [if_pos h]; exact k
theorem W.cond {b : Bool} {x y : Option α} (ht : b = true → W x Q) (hf : b = false → W y Q) : W (cond b x y) Q := by
  cases b with
  | true => exact ht rfl
  | false => exact hf rfl
theorem W.condP {p : Prop} [Decidable p] {x y : Option α} (ht : p → W x Q) (hf : ¬ p → W y Q) : W (_root_.cond (decide p) x y) Q := by
  by_cases h : p
  · simp only [h, decide_true, cond_true]; exact ht h
  · simp only [h, decide_false, cond_false]; exact hf h
theorem W.condEq {γ : Type} [BEq γ] [LawfulBEq γ] {a c : γ} {x y : Option α} (ht : a = c → W x Q) (hf : a ≠ c → W y Q) : W (_root_.cond (a == c) x y) Q := by
  by_cases h : a = c
  · subst h; simp only [beq_self_eq_true, cond_true]; exact ht rfl
  · rw [beq_eq_false_iff_ne.2 h]; exact hf h
theorem W.condNe {γ : Type} [BEq γ] [LawfulBEq γ] {a c : γ} {x y : Option α} (ht : a ≠ c → W x Q) (hf : a = c → W y Q) : W (_root_.cond (a != c) x y) Q := by
  by_cases h : a = c
  · subst h; simp only [bne_self_eq_false, cond_false]; exact hf rfl
  · rw [bne_iff_ne.2 h]; exact ht h
theorem W.condNot {b : Bool} {x y : Option α} (ht : b = false → W x Q) (hf : b = true → W y Q) : W (_root_.cond (!b) x y) Q := by
  cases b with
  | true => exact hf rfl
  | false => exact ht rfl
theorem W.get {m : Option α} {r : α} (h : W m Q) (e : m = Option.some r) : Q r := by
  obtain ⟨r', e', q⟩ := h
  rw [e] at e'; cases e'; exact q
theorem W.eq {m : Option α} {r : α} (e : m = Option.some r) (h : Q r) : W m Q := ⟨r, e, h⟩
theorem W.and {m : Option α} {Q' : α → Prop} (h : W m Q) (h' : W m Q') : W m fun r => Q r ∧ Q' r := by
  obtain ⟨r, e, q⟩ := h
  exact ⟨r, e, q, h'.get e⟩

/-- A loop and what comes behind it: 'I' holds at each head, 'm' goes down. -/
theorem W.loop {step : σ → Option (Out σ ρ)} {k : Out σ ρ → Option α} {s : σ} (I : σ → Prop) (m : σ → Nat) (hi : I s)
    (h : ∀ s, I s → W (step s) fun o => match o with | .next s' => I s' ∧ m s' < m s | .stop s' id => W (k (.stop s' id)) Q | .ret r => W (k (.ret r)) Q) :
    W ((loopV step s).bind k) Q := by
  have := loopV_inv (step := step) I m (fun o => W (k o) Q) (fun s hs => by
    obtain ⟨o, e, q⟩ := h s hs
    cases o with
    | next s' => exact .inl ⟨s', e, q⟩
    | stop s' id => exact .inr ⟨_, e, by simp, q⟩
    | ret r => exact .inr ⟨_, e, by simp, q⟩) hi
  obtain ⟨o, e, q⟩ := this
  exact W.bind ⟨o, e, q⟩

/-- A loop that counts a number up to 'n'. -/
theorem W.upto {step : σ → Option (Out σ ρ)} {k : Out σ ρ → Option α} {s : σ} (c : σ → Int) (n : Int) (I : σ → Prop) (hi : I s)
    (h : ∀ s, I s → W (step s) fun o => match o with | .next s' => I s' ∧ c s < c s' ∧ c s < n | .stop s' id => W (k (.stop s' id)) Q | .ret r => W (k (.ret r)) Q) :
    W ((loopV step s).bind k) Q := by
  refine W.loop I (fun s => (n - c s).toNat) hi fun s hs => ?_
  refine (h s hs).mono fun o q => ?_
  cases o with
  | next s' => exact ⟨q.1, by have := q.2; omega⟩
  | stop s' id => exact q
  | ret r => exact q
end

/-! ## Functions on small numbers -/
/-- 'f' leads the numbers below n to numbers below n. -/
def Into (n : Nat) (f : Nat → Nat) : Prop := ∀ i, i < n → f i < n
def Inj (n : Nat) (f : Nat → Nat) : Prop := ∀ i j, i < n → j < n → f i = f j → i = j
def Onto (n : Nat) (f : Nat → Nat) : Prop := ∀ v, v < n → ∃ i, i < n ∧ f i = v

theorem nodup_map {n : Nat} {f : Nat → Nat} (h : Inj n f) : ∀ {m : Nat}, m ≤ n → ((List.range m).map f).Nodup
  | 0, _ => by simp
  | m + 1, hm => by
    rw [List.range_succ, List.map_append, List.nodup_append]
    refine ⟨nodup_map h (by omega), by simp, ?_⟩
    intro a ha b hb
    simp only [List.map_cons, List.map_nil, List.mem_singleton] at hb
    obtain ⟨i, hi, rfl⟩ := List.mem_map.1 ha
    rw [List.mem_range] at hi
    subst hb
    intro e
    have := h i m (by omega) (by omega) e
    omega

theorem onto_of_inj {n : Nat} {f : Nat → Nat} (h1 : Into n f) (h2 : Inj n f) : Onto n f := by
  intro v hv
  by_cases hex : ∃ i, i < n ∧ f i = v
  · exact hex
  · exfalso
    have hnd : (v :: (List.range n).map f).Nodup := by
      rw [List.nodup_cons]
      refine ⟨?_, nodup_map h2 (Nat.le_refl _)⟩
      intro hm
      obtain ⟨i, hi, e⟩ := List.mem_map.1 hm
      exact hex ⟨i, List.mem_range.1 hi, e⟩
    have hsub : (v :: (List.range n).map f) ⊆ List.range n := by
      intro x hx
      rw [List.mem_cons] at hx
      rcases hx with rfl | hx
      · exact List.mem_range.2 hv
      · obtain ⟨i, hi, e⟩ := List.mem_map.1 hx
        subst e
        exact List.mem_range.2 (h1 i (List.mem_range.1 hi))
    have := hnd.length_le_of_subset hsub
    simp at this; omega

theorem inj_of_onto {n : Nat} {f : Nat → Nat} (h2 : Onto n f) : Inj n f := by
  intro i j hi hj e
  by_cases hij : i = j
  · exact hij
  · exfalso
    have hnd : (List.range n).Nodup := List.nodup_range
    have hsub : List.range n ⊆ ((List.range n).erase j).map f := by
      intro v hv
      obtain ⟨k, hk, ek⟩ := h2 v (List.mem_range.1 hv)
      by_cases hkj : k = j
      · subst hkj
        exact List.mem_map.2 ⟨i, (List.mem_erase_of_ne hij).2 (List.mem_range.2 hi), e.trans ek⟩
      · exact List.mem_map.2 ⟨k, (List.mem_erase_of_ne hkj).2 (List.mem_range.2 hk), ek⟩
    have := hnd.length_le_of_subset hsub
    rw [List.length_map, List.length_erase_of_mem (List.mem_range.2 hj)] at this
    simp at this
    omega

end Go.Pu

/- Plain laws: what draws a number, places. -/
namespace Go.Pu
open Go Go.Abs Go.Lab

/-- The code that came in. -/
structure Code (l : List Int) : Prop where
  len : l.length ≤ 4096
  byte : ∀ i, 0 ≤ l.getD i 0 ∧ l.getD i 0 ≤ 255

structure SrcOk (l : List Int) (s : Rng) : Prop where
  lo : 0 ≤ s.at_
  hi : s.at_ ≤ l.length
  h0 : 0 ≤ s.hash
  h1 : s.hash ≤ 18446744073709551615

theorem and_le (a b : Int) (hb : 0 ≤ b) (hb' : b < 9223372036854775808) : 0 ≤ bits .and .u64 a b ∧ bits .and .u64 a b ≤ b := by
  show 0 ≤ IntKind.u64.wrap ((BitVec.ofInt 64 a &&& BitVec.ofInt 64 b).toNat : Int) ∧ IntKind.u64.wrap ((BitVec.ofInt 64 a &&& BitVec.ofInt 64 b).toNat : Int) ≤ b
  have h1 : (BitVec.ofInt 64 a &&& BitVec.ofInt 64 b).toNat ≤ (BitVec.ofInt 64 b).toNat := by
    rw [BitVec.toNat_and]; exact Nat.and_le_right
  have h2 : ((BitVec.ofInt 64 b).toNat : Int) = b := by
    rw [BitVec.toNat_ofInt]; omega
  have h3 : 0 ≤ ((BitVec.ofInt 64 a &&& BitVec.ofInt 64 b).toNat : Int) ∧ ((BitVec.ofInt 64 a &&& BitVec.ofInt 64 b).toNat : Int) ≤ b := by omega
  rw [wu64 (by omega)]
  exact h3

section
variable {l : List Int} (hl : Code l)
include hl

theorem l01From_W : W (m_spec_l01From l) (SrcOk l) := by
  have := hl.len
  unfold m_spec_l01From
  refine W.upto (fun s => s.1) l.length (fun s => 0 ≤ s.1 ∧ s.1 ≤ l.length ∧ SrcOk l s.2) ⟨by simp, by simp, by simp, by simp, (wu64_lt _).1, (wu64_lt _).2⟩ ?_
  rintro ⟨x1, x2⟩ ⟨h1, h2, h3⟩
  simp only at h1 h2 h3
  unfold m_spec_l01From_l0
  refine W.condP (fun h => W.condP (fun h' => ?_) (fun h' => ?_)) (fun h => ?_)
  · refine W.chk (by omega) (W.some ?_)
    simp only
    rw [w64 (by omega)]
    exact ⟨⟨by omega, by omega, h3.lo, h3.hi, (wu64_lt _).1, (wu64_lt _).2⟩, by omega, by omega⟩
  · exact W.some (W.some h3)
  · exact W.some (W.some h3)

theorem l01Next_W {s : Rng} (hs : SrcOk l s) (n : Int) (hn : n ≤ 1099511627776) : W (m_spec_l01Next s l n) fun r => SrcOk l r.2 ∧ (1 ≤ n → 0 ≤ r.1 ∧ r.1 < n) ∧ (n < 1 → r.1 = 0) := by
  have := hl.len
  obtain ⟨a1, a2, a3, a4⟩ := hs
  unfold m_spec_l01Next
  refine W.condP (fun h => W.some ⟨⟨a1, a2, a3, a4⟩, by simp only; omega, by simp⟩) (fun h => ?_)
  have hb := hl.byte s.at_.toNat
  have hx := and_le (Int.fdiv (IntKind.u64.wrap (IntKind.u64.wrap (s.hash * 6364136223846793005) + 1442695040888963407)) (2 ^ min (33 : Int).toNat IntKind.u64.bits)) 16777215 (by omega) (by omega)
  refine W.condP (fun h' => ?_) (fun h' => ?_)
  · refine W.chk (by simp only at h' ⊢; omega) (W.chk (by omega) (W.some ?_))
    simp only at h' ⊢
    rw [w64 (n := bits _ _ _ _) (by omega), w64 (n := l.getD _ _) (by omega), w64 (n := bits _ _ _ _ + _) (by omega), w64 (n := s.at_ + 1) (by omega)]
    refine ⟨⟨by simp only; omega, by simp only; omega, (wu64_lt _).1, (wu64_lt _).2⟩, fun _ => ⟨Int.tmod_nonneg _ (by omega), Int.tmod_lt_of_pos _ (by omega)⟩, fun h => by omega⟩
  · refine W.chk (by omega) (W.some ?_)
    simp only at h' ⊢
    rw [w64 (n := bits _ _ _ _) (by omega)]
    refine ⟨⟨by simp only; omega, by simp only; omega, (wu64_lt _).1, (wu64_lt _).2⟩, fun _ => ⟨Int.tmod_nonneg _ (by omega), Int.tmod_lt_of_pos _ (by omega)⟩, fun h => by omega⟩

theorem l01Pick_W {s : Rng} (hs : SrcOk l s) (m : List Int) (h0 : 0 < m.length) (h1 : m.length ≤ 100) : W (m_spec_l01Pick s l m) fun r => SrcOk l r.2 ∧ r.1 ∈ m := by
  unfold m_spec_l01Pick
  refine W.call (l01Next_W hl hs _ (by omega)) fun r hr => ?_
  have := hr.2.1 (by omega)
  refine W.chk (by omega) (W.some ⟨hr.1, ?_⟩)
  simp only
  rw [List.getD_eq_getElem?_getD, List.getElem?_eq_getElem (by omega)]
  exact List.getElem_mem _

end

/-! ## Places -/
/-- 'p' leads the numbers below n to numbers below n, no two to one. -/
structure PermP (n : Int) (p : Nat → Int) : Prop where
  lo : ∀ i : Nat, (i : Int) < n → 0 ≤ p i ∧ p i < n
  inj : ∀ i j : Nat, (i : Int) < n → (j : Int) < n → p i = p j → i = j

def Zt (n : Int) (p : Nat → Int) : Prop := ∀ i : Nat, n ≤ i → i < 10 → p i = 0
def ByP (p : Nat → Int) : Prop := ∀ i : Nat, i < 10 → 0 ≤ p i ∧ p i ≤ 255

theorem PermP.ext {n : Int} {p q : Nat → Int} (h : PermP n p) (e : ∀ i : Nat, (i : Int) < n → q i = p i) : PermP n q :=
  ⟨fun i hi => by rw [e i hi]; exact h.lo i hi, fun i j hi hj he => h.inj i j hi hj (by rw [← e i hi, ← e j hj, he])⟩
theorem fset_eq {α : Type} (f : Nat → α) (i : Nat) (v : α) (j : Nat) : fset f i v j = if j = i then v else f j := rfl

theorem l01Same_W {n : Int} (hn : n ≤ 10) : W (m_spec_l01Same n) fun p => (∀ i : Nat, (i : Int) < n → p i = i) ∧ ∀ i : Nat, n ≤ i → p i = 0 := by
  unfold m_spec_l01Same
  refine W.upto (fun s => s.1) n (fun s => 0 ≤ s.1 ∧ (s.1 ≤ n ∨ s.1 = 0) ∧ (∀ i : Nat, (i : Int) < s.1 → s.2 i = i) ∧ ∀ i : Nat, s.1 ≤ i → s.2 i = 0) ⟨by simp, by simp, by simp; omega, by simp [pl0]⟩ ?_
  rintro ⟨x1, x2⟩ ⟨h1, h2, h3, h4⟩
  simp only at h1 h2 h3 h4
  unfold m_spec_l01Same_l0
  refine W.condP (fun h => ?_) (fun h => ?_)
  · refine W.chk (by omega) (W.some ?_)
    simp only
    rw [w64 (by omega), w8 (by omega)]
    refine ⟨⟨by omega, by omega, fun i hi => ?_, fun i hi => ?_⟩, by omega, by omega⟩
    · rw [fset_eq]
      split
      · omega
      · exact h3 i (by omega)
    · rw [fset_eq, if_neg (by omega)]
      exact h4 i (by omega)
  · refine W.some (W.some ⟨fun i hi => h3 i (by omega), fun i hi => ?_⟩)
    exact h4 i (by omega)

theorem PermP.id {n : Int} {p : Nat → Int} (h : ∀ i : Nat, (i : Int) < n → p i = i) : PermP n p :=
  ⟨fun i hi => by rw [h i hi]; omega, fun i j hi hj e => by rw [h i hi, h j hj] at e; omega⟩

theorem PermP.swap {n : Int} {p : Nat → Int} (h : PermP n p) {a b : Nat} (ha : (a : Int) < n) (hb : (b : Int) < n) : PermP n (fset (fset p a (p b)) b (p a)) := by
  refine ⟨fun i hi => ?_, fun i j hi hj e => ?_⟩
  · simp only [fset_eq]
    split
    · exact h.lo a ha
    · split
      · exact h.lo b hb
      · exact h.lo i hi
  · simp only [fset_eq] at e
    have I := h.inj
    split at e <;> split at e <;> (try split at e) <;> (try split at e) <;> first
      | omega
      | (have := I _ _ ha hj e; omega)
      | (have := I _ _ hi ha e; omega)
      | (have := I _ _ hb hj e; omega)
      | (have := I _ _ hi hb e; omega)
      | (have := I _ _ ha hb e; omega)
      | (have := I _ _ hb ha e; omega)
      | (have := I _ _ hi hj e; omega)

section
variable {l : List Int} (hl : Code l)
include hl

theorem l01DrawPlaces_W {s : Rng} (hs : SrcOk l s) {n : Int} (hn : n ≤ 10) (hn0 : -1000 ≤ n) : W (m_spec_l01DrawPlaces s l n) fun r => PermP n r.1 ∧ Zt n r.1 ∧ SrcOk l r.2 := by
  unfold m_spec_l01DrawPlaces
  refine W.call (l01Same_W hn) fun p hp => ?_
  refine W.call (l01Next_W hl hs _ (by omega)) fun r hr => ?_
  refine W.cond (fun h => W.some ⟨PermP.id hp.1, fun i hi _ => hp.2 i hi, hr.1⟩) (fun h => ?_)
  rw [w64 (by omega)]
  refine W.loop (fun s => s.1 < n ∧ PermP n s.2.1 ∧ Zt n s.2.1 ∧ SrcOk l s.2.2) (fun s => s.1.toNat) ⟨by simp only; omega, PermP.id hp.1, fun i hi _ => hp.2 i hi, hr.1⟩ ?_
  rintro ⟨x1, x2, x3⟩ ⟨h1, h2, h3, h4⟩
  simp only at h1 h2 h3 h4
  unfold m_spec_l01DrawPlaces_l0
  refine W.condP (fun h => ?_) (fun h => W.some (W.some ⟨h2, h3, h4⟩))
  rw [w64 (by omega), w64 (by omega)]
  refine W.call (l01Next_W hl h4 _ (by omega)) fun r3 hr3 => ?_
  have := hr3.2.1 (by omega)
  refine W.chk (by omega) (W.chk (by omega) (W.chk (by omega) (W.chk (by omega) (W.some ⟨⟨by simp only; omega, ?_, ?_, hr3.1⟩, by simp only; omega⟩))))
  · exact h2.swap (by omega) (by omega)
  · intro i hi hi'
    simp only [fset_eq]
    rw [if_neg (by omega), if_neg (by omega)]
    exact h3 i hi hi'

end
end Go.Pu

/- Plain laws: permutations; what the program's and the reference's functions tell of them. -/
namespace Go.Pu
open Go Go.Abs Go.Lab

theorem or_i64 {a b : Nat} (ha : a < 2 ^ 62) (hb : b < 2 ^ 62) : bits .or .i64 (a : Int) (b : Int) = ((a ||| b : Nat) : Int) := by
  show IntKind.i64.wrap ((BitVec.ofInt 64 (a : Int) ||| BitVec.ofInt 64 (b : Int)).toNat : Int) = _
  have h : a ||| b < 2 ^ 62 := Nat.or_lt_two_pow ha hb
  have e1 : (BitVec.ofInt 64 (a : Int)).toNat = a := by rw [BitVec.toNat_ofInt]; omega
  have e2 : (BitVec.ofInt 64 (b : Int)).toNat = b := by rw [BitVec.toNat_ofInt]; omega
  rw [BitVec.toNat_or, e1, e2]
  exact w64 (by omega)
/-- one bit -/
theorem bit_i64 {v : Int} (h0 : 0 ≤ v) (h1 : v ≤ 60) : IntKind.i64.wrap (1 * 2 ^ (min v.toNat IntKind.i64.bits)) = ((2 ^ v.toNat : Nat) : Int) := by
  have e : min v.toNat IntKind.i64.bits = v.toNat := Nat.min_eq_left (by show _ ≤ 64; omega)
  rw [e, Int.one_mul]
  have : 2 ^ v.toNat ≤ 2 ^ 60 := Nat.pow_le_pow_right (by omega) (by omega)
  rw [show (2 : Int) ^ v.toNat = ((2 ^ v.toNat : Nat) : Int) from by simp]
  generalize 2 ^ v.toNat = k at this
  exact w64 (by omega)

theorem permP_iff {n : Int} {p : Nat → Int} (h : ByP p) (hn : n ≤ 10) :
    PermP n p ↔ (∀ i : Nat, (i : Int) < n → p i < n) ∧ ∀ v : Nat, (v : Int) < n → ∃ i : Nat, (i : Int) < n ∧ p i = v := by
  constructor
  · intro hp
    refine ⟨fun i hi => (hp.lo i hi).2, fun v hv => ?_⟩
    obtain ⟨i, hi, e⟩ := onto_of_inj (n := n.toNat) (f := fun i => (p i).toNat) (fun i hi => by have := hp.lo i (by omega); show (p i).toNat < _; omega)
      (fun i j hi hj e => hp.inj i j (by omega) (by omega) (by have := hp.lo i (by omega); have := hp.lo j (by omega); simp only at e; omega)) v (by omega)
    refine ⟨i, by omega, ?_⟩
    have := hp.lo i (by omega)
    simp only at e; omega
  · rintro ⟨h1, h2⟩
    refine ⟨fun i hi => ⟨(h i (by omega)).1, h1 i hi⟩, fun i j hi hj e => ?_⟩
    refine inj_of_onto (n := n.toNat) (f := fun i => (p i).toNat) (fun v hv => ?_) i j (by omega) (by omega) (by simp only [e])
    obtain ⟨k, hk, e⟩ := h2 v (by omega)
    exact ⟨k, by omega, by simp only [e]; omega⟩

/-- 'p' is a permutation of n numbers. -/
structure IsP (n : Int) (p : Nat → Int) : Prop where
  n1 : 1 ≤ n
  n10 : n ≤ 10
  perm : PermP n p
  zero : Zt n p

theorem within_W (a b c : Int) : W (m_impl_within a b c) fun r => r = true ↔ b ≤ a ∧ a ≤ c := by
  unfold m_impl_within
  refine W.condP (fun h => W.some ?_) (fun h => W.some ?_)
  · simp; omega
  · simp; omega
theorem l01In_W (a b c : Int) : W (m_spec_l01In a b c) fun r => r = true ↔ b ≤ a ∧ a ≤ c := by
  unfold m_spec_l01In
  refine W.condP (fun h => W.some ?_) (fun h => W.some ?_)
  · simp; omega
  · simp; omega

/-- the bits of what has been met -/
structure Met (m : Nat) (P : Nat → Prop) : Prop where
  lt : m < 1024
  bit : ∀ v, m.testBit v = true ↔ P v
theorem Met.zero {P : Nat → Prop} (h : ∀ v, ¬ P v) : Met 0 P := ⟨by omega, fun v => by simp [h v]⟩
theorem Met.add {m : Nat} {P P' : Nat → Prop} (h : Met m P) {v : Int} (h0 : 0 ≤ v) (hv : v < 10) (e : ∀ u, P' u ↔ P u ∨ (u : Int) = v) :
    ∃ m' : Nat, bits .or .i64 (m : Int) (IntKind.i64.wrap (1 * 2 ^ (min v.toNat IntKind.i64.bits))) = m' ∧ Met m' P' := by
  have hp : 2 ^ v.toNat < 1024 := by
    have : 2 ^ v.toNat ≤ 2 ^ 9 := Nat.pow_le_pow_right (by omega) (by omega)
    omega
  have := h.lt
  refine ⟨m ||| 2 ^ v.toNat, ?_, Nat.or_lt_two_pow (n := 10) h.lt hp, fun u => ?_⟩
  · rw [bit_i64 h0 (by omega), or_i64 (by omega) (by omega)]
  · rw [Nat.testBit_or, e u, Bool.or_eq_true, h.bit u, Nat.testBit_two_pow, decide_eq_true_eq]
    constructor
    · rintro (h | h)
      · exact .inl h
      · exact .inr (by omega)
    · rintro (h | h)
      · exact .inl h
      · exact .inr (by omega)
/-- all bits below n are met -/
theorem Met.full {m : Nat} {P : Nat → Prop} (h : Met m P) {n : Int} (h1 : 1 ≤ n) (h10 : n ≤ 10) (hP : ∀ v : Nat, P v → (v : Int) < n) :
    ((m : Int) = IntKind.i64.wrap (IntKind.i64.wrap (1 * 2 ^ (min n.toNat IntKind.i64.bits)) - 1)) ↔ ∀ v : Nat, (v : Int) < n → P v := by
  rw [bit_i64 (by omega) (by omega)]
  have hp : 2 ^ n.toNat ≤ 1024 := by
    have : 2 ^ n.toNat ≤ 2 ^ 10 := Nat.pow_le_pow_right (by omega) (by omega)
    omega
  have hpos : 0 < 2 ^ n.toNat := Nat.pow_pos (by omega)
  rw [w64 (by omega)]
  have e : ((2 ^ n.toNat : Nat) : Int) - 1 = ((2 ^ n.toNat - 1 : Nat) : Int) := by omega
  rw [e, Int.ofNat_inj]
  constructor
  · intro e v hv
    rw [← h.bit v, e, Nat.testBit_two_pow_sub_one]
    simp; omega
  · intro hall
    refine Nat.eq_of_testBit_eq fun v => ?_
    rw [Nat.testBit_two_pow_sub_one, Bool.eq_iff_iff, h.bit v, decide_eq_true_eq]
    exact ⟨fun hv => by have := hP v hv; omega, fun hv => hall v (by omega)⟩

theorem l01Perm_W {p : Nat → Int} {n : Int} (hb : ByP p) : W (m_spec_l01Perm p n) fun r => r = true ↔ IsP n p := by
  unfold m_spec_l01Perm
  refine W.call (l01In_W _ _ _) fun b hbn => W.condNot (fun h => W.some ?_) (fun h => ?_)
  · simp only [h, Bool.false_eq_true, false_iff] at hbn ⊢
    exact fun hp => hbn ⟨hp.n1, hp.n10⟩
  obtain ⟨n1, n10⟩ := hbn.1 h
  refine W.upto (fun s => s.1) 10 (fun s => 0 ≤ s.1 ∧ s.1 ≤ 10 ∧ (∀ v : Nat, s.2 v = true ↔ ∃ i : Nat, (i : Int) < s.1 ∧ (i : Int) < n ∧ p i = v) ∧ (∀ i : Nat, (i : Int) < s.1 → (i : Int) < n → p i < n) ∧ (∀ i : Nat, (i : Int) < s.1 → n ≤ i → p i = 0)
      ∧ (∀ i j : Nat, (i : Int) < s.1 → (i : Int) < n → (j : Int) < s.1 → (j : Int) < n → p i = p j → i = j))
    ⟨by simp, by simp, by intro v; simp [bl0]; omega, by simp; omega, by simp; omega, by simp; omega⟩ ?_
  rintro ⟨x1, x2⟩ ⟨h1, h2, hM, h4, h5, h6⟩
  simp only at h1 h2 hM h4 h5 h6
  unfold m_spec_l01Perm_l0
  refine W.condP (fun h => ?_) (fun h => ?_)
  · have hx := hb x1.toNat (by omega)
    refine W.condP (fun h' => W.chk (by omega) (W.condNe (fun h0 => W.some (W.some ?_)) (fun h0 => W.some ?_))) (fun h' => W.chk (by omega) ?_)
    · simp only [Bool.false_eq_true, false_iff]
      exact fun hp => h0 (hp.zero _ (by omega) (by omega))
    · simp only
      rw [w64 (by omega)]
      refine ⟨⟨by omega, by omega, fun v => (hM v).trans ?_, fun i hi hn => h4 i (by omega) hn, fun i hi hn => ?_, fun i j a b c d => h6 i j (by omega) b (by omega) d⟩, by omega, by omega⟩
      · exact ⟨fun ⟨i, a, b, c⟩ => ⟨i, by omega, b, c⟩, fun ⟨i, a, b, c⟩ => ⟨i, by omega, b, c⟩⟩
      · by_cases e : (i : Int) = x1
        · subst e; exact h0
        · exact h5 i (by omega) hn
    · rw [w64 (n := p _) (by omega)]
      refine W.condP (fun h0 => W.some (W.some ?_)) (fun h0 => W.chk (by omega) (W.chk (by omega) (W.cond (fun hm => W.some (W.some ?_)) (fun hm => W.chk (by omega) (W.chk (by omega) (W.some ?_))))))
      · simp only [Bool.false_eq_true, false_iff]
        exact fun hp => by have := hp.perm.lo x1.toNat (by omega); omega
      · simp only [Bool.false_eq_true, false_iff]
        obtain ⟨i, a, b, c⟩ := (hM _).1 hm
        exact fun hp => by have := hp.perm.inj i x1.toNat b (by omega) (by omega); omega
      · simp only
        have hno := mt (hM _).2 (ne_true_of_false hm)
        rw [w64 (by omega)]
        refine ⟨⟨by omega, by omega, fun v => ?_, fun i hi hn => ?_, fun i hi hn => h5 i (by omega) hn, fun i j a b c d e => ?_⟩, by omega, by omega⟩
        · rw [fset_eq]
          split
          · simp only [true_iff]
            exact ⟨x1.toNat, by omega, by omega, by omega⟩
          · rw [hM v]
            constructor
            · exact fun ⟨i, a, b, c⟩ => ⟨i, by omega, b, c⟩
            · rintro ⟨i, a, b, c⟩
              by_cases e : (i : Int) = x1
              · subst e; simp only [Int.toNat_natCast] at *; omega
              · exact ⟨i, by omega, b, c⟩
        · by_cases e : (i : Int) = x1
          · subst e; simp only [Int.toNat_natCast] at h0; omega
          · exact h4 i (by omega) hn
        · by_cases ei : (i : Int) = x1
          · by_cases ej : (j : Int) = x1
            · omega
            · exact absurd ⟨j, by omega, d, by subst ei; simp only [Int.toNat_natCast] at hx ⊢; omega⟩ hno
          · by_cases ej : (j : Int) = x1
            · exact absurd ⟨i, by omega, b, by subst ej; simp only [Int.toNat_natCast] at hx ⊢; omega⟩ hno
            · exact h6 i j (by omega) b (by omega) d e
  · refine W.some ?_
    simp only [if_true]
    refine W.some ?_
    simp only [true_iff]
    exact ⟨n1, n10, ⟨fun i hi => ⟨(hb i (by omega)).1, h4 i (by omega) hi⟩, fun i j hi hj e => h6 i j (by omega) hi (by omega) hj e⟩, fun i hi hi' => h5 i (by omega) hi⟩
end Go.Pu

/- Plain laws: permutations one after the other, back, and their signs. -/
namespace Go.Pu
open Go Go.Abs Go.Lab

/-! ## Products over pairs -/
/-- 1 in order, -1 out of order -/
def eo (a b : Int) : Int := if a > b then -1 else 1
/-- p then q -/
def thenF (n : Int) (p q : Nat → Int) : Nat → Int := fun i => if (i : Int) < n then q (p i).toNat else 0

/-! ## The functions -/
theorem eqPl_refl (p : Nat → Int) : eqPl p p = true := by simp [eqPl]
theorem eqPl_iff {p q : Nat → Int} : eqPl p q = true ↔ ∀ i : Nat, i < 10 → p i = q i := by
  simp [eqPl]

/-- 'r' leads back what 'p' has led. -/
structure BackOf (n : Int) (p r : Nat → Int) : Prop where
  at_ : ∀ i : Nat, (i : Int) < n → r (p i).toNat = i
  zero : ∀ i : Nat, n ≤ i → r i = 0

theorem BackOf.perm {n : Int} {p r : Nat → Int} (hb : ByP p) (h10 : n ≤ 10) (hp : PermP n p) (h : BackOf n p r) : PermP n r := by
  have on := ((permP_iff hb h10).1 hp).2
  refine ⟨fun v hv => ?_, fun v u hv hu e => ?_⟩
  · obtain ⟨i, hi, e⟩ := on v hv
    have := h.at_ i hi
    rw [e] at this; simp only [Int.toNat_natCast] at this; omega
  · obtain ⟨i, hi, e1⟩ := on v hv
    obtain ⟨j, hj, e2⟩ := on u hu
    have a := h.at_ i hi; have b := h.at_ j hj
    rw [e1] at a; rw [e2] at b
    simp only [Int.toNat_natCast] at a b
    have : i = j := by omega
    subst this; omega

/-! ## Signs -/
end Go.Pu

/- Plain laws: squares as tables; the reference's functions on them. -/
namespace Go.Pu
open Go Go.Abs Go.Lab

/-- The table of a function below n, else 0. -/
def tabF (n : Int) (g : Nat → Nat → Int) : Nat → Nat → Int := fun i j => if (i : Int) < n ∧ (j : Int) < n then g i j else 0
def Fil (n : Int) (g : Nat → Nat → Int) (x y : Int) (t : Nat → Nat → Int) : Prop :=
  ∀ i j : Nat, t i j = if (j : Int) < n ∧ ((i : Int) < x ∨ (i : Int) = x ∧ (j : Int) < y) then g i j else 0
theorem Fil.zero {n : Int} {g : Nat → Nat → Int} : Fil n g 0 0 tb0 := fun i j => by rw [if_neg (by omega)]; rfl
theorem Fil.step {n : Int} {g : Nat → Nat → Int} {x y : Int} {t : Nat → Nat → Int} (h : Fil n g x y t) (hx : 0 ≤ x) (hy : 0 ≤ y) (hn : y < n) : Fil n g x (y + 1) (tset t x.toNat y.toNat (g x.toNat y.toNat)) := fun i j => by
  unfold tset
  by_cases e : i = x.toNat ∧ j = y.toNat
  · rw [if_pos e, if_pos (by omega), e.1, e.2]
  · rw [if_neg e, h i j]
    by_cases e2 : (j : Int) < n ∧ ((i : Int) < x ∨ (i : Int) = x ∧ (j : Int) < y)
    · rw [if_pos e2, if_pos (by omega)]
    · rw [if_neg e2, if_neg (by omega)]
theorem Fil.row {n : Int} {g : Nat → Nat → Int} {x y : Int} {t : Nat → Nat → Int} (h : Fil n g x y t) (hy : n ≤ y) : Fil n g (x + 1) 0 t := fun i j => by
  rw [h i j]
  by_cases e2 : (j : Int) < n ∧ ((i : Int) < x ∨ (i : Int) = x ∧ (j : Int) < y)
  · rw [if_pos e2, if_pos (by omega)]
  · rw [if_neg e2, if_neg (by omega)]
theorem Fil.full {n : Int} {g : Nat → Nat → Int} {x : Int} {t : Nat → Nat → Int} (h : Fil n g x 0 t) (hx : x = n) : t = tabF n g := by
  funext i j
  rw [h i j]; unfold tabF
  by_cases e2 : (i : Int) < n ∧ (j : Int) < n
  · rw [if_pos e2, if_pos (by omega)]
  · rw [if_neg e2, if_neg (by omega)]

/-- Two loops that fill a square. -/
theorem W.fill {α ρ : Type} {Q : α → Prop} {n ord : Int} (h0n : 0 ≤ n) (hn : n ≤ 10) {g : Nat → Nat → Int} {step1 : Int → Int × Sq → Option (Out (Int × Sq) ρ)} {step0 : Int × Sq → Option (Out (Int × Sq) ρ)}
    (h1 : ∀ x y t, 0 ≤ x → x < n → 0 ≤ y → y < n → W (step1 x (y, ⟨ord, t⟩)) fun o => o = Out.next (y + 1, ⟨ord, tset t x.toNat y.toNat (g x.toNat y.toNat)⟩))
    (h1e : ∀ x y t, 0 ≤ x → x < n → n ≤ y → W (step1 x (y, ⟨ord, t⟩)) fun o => o = Out.stop (y, ⟨ord, t⟩) 2)
    (h0 : ∀ x t, 0 ≤ x → x < n → ∀ Q' : Out (Int × Sq) ρ → Prop, (∀ k : Out (Int × Sq) ρ → Option (Out (Int × Sq) ρ), (∀ y s, k (.stop (y, s) 2) = Option.some (.next (IntKind.i64.wrap (x + 1), s))) → W ((loopV (step1 x) (0, ⟨ord, t⟩)).bind k) Q') → W (step0 (x, ⟨ord, t⟩)) Q')
    (h0e : ∀ x t, 0 ≤ x → n ≤ x → W (step0 (x, ⟨ord, t⟩)) fun o => o = Out.stop (x, ⟨ord, t⟩) 0)
    {k : Out (Int × Sq) ρ → Option α} (hk : ∀ x, W (k (.stop (x, ⟨ord, tabF n g⟩) 0)) Q) : W ((loopV step0 (0, ⟨ord, tb0⟩)).bind k) Q := by
  refine W.upto (fun s => s.1) n (fun s => 0 ≤ s.1 ∧ s.1 ≤ n ∧ s.2.order = ord ∧ Fil n g s.1 0 s.2.t) ⟨by simp, by simp; omega, rfl, Fil.zero⟩ ?_
  rintro ⟨x, ⟨o, t⟩⟩ ⟨a1, a2, a3, a4⟩
  simp only at a1 a2 a3 a4
  subst a3
  by_cases hx : x < n
  · refine h0 x t a1 hx _ fun kk hkk => ?_
    refine W.upto (fun s => s.1) n (fun s => 0 ≤ s.1 ∧ s.2.order = o ∧ Fil n g x s.1 s.2.t) ⟨by simp, rfl, a4⟩ ?_
    rintro ⟨y, ⟨o', t'⟩⟩ ⟨b1, b2, b3⟩
    simp only at b1 b2 b3
    subst b2
    by_cases hy : y < n
    · refine (h1 x y t' a1 hx b1 hy).mono fun o ho => ?_
      subst ho
      exact ⟨⟨by simp only; omega, rfl, b3.step a1 b1 hy⟩, by simp only; omega, by simp only; omega⟩
    · refine (h1e x y t' a1 hx (by omega)).mono fun o ho => ?_
      subst ho
      simp only
      rw [hkk]
      refine W.some ?_
      simp only
      rw [w64 (by omega)]
      exact ⟨⟨by omega, by omega, trivial, b3.row (by omega)⟩, by omega, by omega⟩
  · refine (h0e x t a1 (by omega)).mono fun o ho => ?_
    subst ho
    simp only
    rw [a4.full (by omega)]
    exact hk x

/-! ## Squares -/
def Byt (t : Nat → Nat → Int) : Prop := ∀ x y : Nat, x < 10 → y < 10 → 0 ≤ t x y ∧ t x y ≤ 255

structure Latin (q : Sq) : Prop where
  n1 : 1 ≤ q.order
  n10 : q.order ≤ 10
  row : ∀ x : Nat, (x : Int) < q.order → PermP q.order (q.t x)
  col : ∀ y : Nat, (y : Int) < q.order → PermP q.order fun x => q.t x y
  zero : ∀ x y : Nat, x < 10 → y < 10 → q.order ≤ x ∨ q.order ≤ y → q.t x y = 0

theorem Latin.byt {q : Sq} (h : Latin q) : Byt q.t := fun x y hx hy => by
  by_cases e : q.order ≤ x ∨ q.order ≤ y
  · rw [h.zero x y hx hy e]; omega
  · have := h.n10
    have := (h.row x (by omega)).lo y (by omega)
    omega
theorem Latin.lt {q : Sq} (h : Latin q) {x y : Nat} (hx : (x : Int) < q.order) (hy : (y : Int) < q.order) : 0 ≤ q.t x y ∧ q.t x y < q.order := (h.row x hx).lo y hy

theorem l01Rows_W {t : Nat → Nat → Int} {n : Int} (hb : Byt t) (h0 : 1 ≤ n) (h10 : n ≤ 10) :
    W (m_spec_l01Rows t n) fun r => r = true ↔ (∀ x : Nat, x < 10 → (x : Int) < n → IsP n (t x)) ∧ ∀ x : Nat, x < 10 → n ≤ x → ∀ y : Nat, y < 10 → t x y = 0 := by
  unfold m_spec_l01Rows
  refine W.upto (fun s => s) 10 (fun s => 0 ≤ s ∧ s ≤ 10 ∧ (∀ x : Nat, (x : Int) < s → (x : Int) < n → IsP n (t x)) ∧ ∀ x : Nat, (x : Int) < s → n ≤ x → ∀ y : Nat, y < 10 → t x y = 0) ⟨by omega, by omega, by omega, by omega⟩ ?_
  rintro x1 ⟨h1, h2, h3, h4⟩
  unfold m_spec_l01Rows_l0
  refine W.condP (fun h => ?_) (fun h => ?_)
  · refine W.condP (fun h' => W.chk (by omega) (W.call (l01Perm_W (fun i hi => hb _ i (by omega) hi)) fun b hbn => W.condNot (fun hf => W.some (W.some ?_)) (fun ht => W.condP (fun h'' => by omega) (fun _ => W.some ?_))))
      (fun h' => W.condP (fun _ => W.chk (by omega) (W.condNot (fun hf => W.some (W.some ?_)) (fun ht => W.some ?_))) (fun h'' => by omega))
    · simp only [hf, Bool.false_eq_true, false_iff] at hbn ⊢
      exact fun x => hbn (x.1 _ (by omega) (by omega))
    · simp only
      rw [w64 (by omega)]
      refine ⟨⟨by omega, by omega, fun i hi hn => ?_, fun i hi hn => h4 i (by omega) hn⟩, by omega, by omega⟩
      by_cases e : (i : Int) = x1
      · have := hbn.1 ht; subst e; simpa using this
      · exact h3 i (by omega) hn
    · simp only [Bool.false_eq_true, false_iff]
      rintro ⟨_, hz⟩
      refine ne_true_of_false hf (eqPl_iff.2 fun i hi => ?_)
      exact hz _ (by omega) (by omega) i hi
    · simp only
      rw [w64 (by omega)]
      refine ⟨⟨by omega, by omega, fun i hi hn => h3 i (by omega) hn, fun i hi hn => ?_⟩, by omega, by omega⟩
      by_cases e : (i : Int) = x1
      · subst e
        intro y hy
        have := eqPl_iff.1 ht y hy
        simpa [pl0] using this
      · exact h4 i (by omega) hn
  · refine W.some ?_
    simp only [if_true]
    refine W.some ?_
    simp only [true_iff]
    exact ⟨fun x hx hn => h3 x (by omega) hn, fun x hx hn => h4 x (by omega) hn⟩

theorem l01Turned_W (t : Nat → Nat → Int) : W (m_spec_l01Turned t) fun r => ∀ x y : Nat, r x y = if x < 10 ∧ y < 10 then t y x else 0 := by
  unfold m_spec_l01Turned
  refine W.upto (fun s => s.1) 10 (fun s => 0 ≤ s.1 ∧ s.1 ≤ 10 ∧ ∀ x y : Nat, s.2 x y = if (y : Int) < s.1 ∧ x < 10 then t y x else 0) ⟨by simp, by simp, fun x y => by rw [if_neg (by simp only; omega)]; rfl⟩ ?_
  rintro ⟨x1, x2⟩ ⟨h1, h2, h3⟩
  simp only at h1 h2 h3
  unfold m_spec_l01Turned_l0
  refine W.condP (fun h => ?_) (fun h => ?_)
  · refine W.upto (fun s => s.1) 10 (fun s => 0 ≤ s.1 ∧ s.1 ≤ 10 ∧ ∀ x y : Nat, s.2 x y = if x < 10 ∧ ((y : Int) < x1 ∨ (y : Int) = x1 ∧ (x : Int) < s.1) then t y x else 0) ⟨by simp, by simp, fun x y => ?_⟩ ?_
    · simp only
      rw [h3 x y]
      by_cases e : (y : Int) < x1 ∧ x < 10
      · rw [if_pos e, if_pos (by omega)]
      · rw [if_neg e, if_neg (by omega)]
    rintro ⟨x3, x4⟩ ⟨g1, g2, g3⟩
    simp only at g1 g2 g3
    unfold m_spec_l01Turned_l1
    refine W.condP (fun h' => W.chk (by omega) (W.chk (by omega) (W.chk (by omega) (W.chk (by omega) (W.some ?_))))) (fun h' => W.some ?_)
    · simp only
      rw [w64 (by omega)]
      refine ⟨⟨by omega, by omega, fun x y => ?_⟩, by omega, by omega⟩
      unfold tset
      by_cases e : x = x3.toNat ∧ y = x1.toNat
      · rw [if_pos e, if_pos (by omega), e.1, e.2]
      · rw [if_neg e, g3 x y]
        by_cases e2 : x < 10 ∧ ((y : Int) < x1 ∨ (y : Int) = x1 ∧ (x : Int) < x3)
        · rw [if_pos e2, if_pos (by omega)]
        · rw [if_neg e2, if_neg (by omega)]
    · simp only [if_true]
      refine W.some ?_
      simp only
      rw [w64 (by omega)]
      refine ⟨⟨by omega, by omega, fun x y => ?_⟩, by omega, by omega⟩
      rw [g3 x y]
      by_cases e2 : x < 10 ∧ ((y : Int) < x1 ∨ (y : Int) = x1 ∧ (x : Int) < x3)
      · rw [if_pos e2, if_pos (by omega)]
      · rw [if_neg e2, if_neg (by omega)]
  · refine W.some (W.some fun x y => ?_)
    rw [h3 x y]
    by_cases e2 : x < 10 ∧ y < 10
    · rw [if_pos e2, if_pos (by omega)]
    · rw [if_neg e2, if_neg (by omega)]

theorem latin_iff {q : Sq} (h1 : 1 ≤ q.order) (h10 : q.order ≤ 10) {r : Nat → Nat → Int} (hr : ∀ x y : Nat, r x y = if x < 10 ∧ y < 10 then q.t y x else 0) :
    Latin q ↔ ((∀ x : Nat, x < 10 → (x : Int) < q.order → IsP q.order (q.t x)) ∧ ∀ x : Nat, x < 10 → q.order ≤ x → ∀ y : Nat, y < 10 → q.t x y = 0)
      ∧ ((∀ x : Nat, x < 10 → (x : Int) < q.order → IsP q.order (r x)) ∧ ∀ x : Nat, x < 10 → q.order ≤ x → ∀ y : Nat, y < 10 → r x y = 0) := by
  have hr' : ∀ x y : Nat, x < 10 → y < 10 → r x y = q.t y x := fun x y hx hy => by rw [hr x y, if_pos ⟨hx, hy⟩]
  constructor
  · intro h
    refine ⟨⟨fun x hx hn => ⟨h1, h10, h.row x hn, fun i hi hi' => h.zero x i hx hi' (.inr hi)⟩, fun x hx hn y hy => h.zero x y hx hy (.inl hn)⟩, fun x hx hn => ⟨h1, h10, (h.col x hn).ext fun i hi => hr' x i hx (by omega), fun i hi hi' => ?_⟩, fun x hx hn y hy => ?_⟩
    · rw [hr' x i hx hi']; exact h.zero i x hi' hx (.inl hi)
    · rw [hr' x y hx hy]; exact h.zero y x hy hx (.inr hn)
  · rintro ⟨⟨a, b⟩, c, d⟩
    refine ⟨h1, h10, fun x hx => (a x (by omega) hx).perm, fun y hy => (c y (by omega) hy).perm.ext fun i hi => (hr' y i (by omega) (by omega)).symm, fun x y hx hy hn => ?_⟩
    rcases hn with hn | hn
    · exact b x hx hn y hy
    · have := d y hy hn x hx
      rw [hr' y x hy hx] at this; exact this

theorem l01Is_W {q : Sq} (hb : Byt q.t) : W (m_spec_l01Is q) fun r => r = true ↔ Latin q := by
  unfold m_spec_l01Is
  refine W.call (l01In_W _ _ _) fun b hbn => W.cond (fun h => ?_) (fun h => W.some ?_)
  · obtain ⟨n1, n10⟩ := hbn.1 h
    obtain ⟨rt, et, hrt⟩ := l01Turned_W q.t
    have iff := latin_iff n1 n10 hrt
    refine W.call (l01Rows_W hb n1 n10) fun b2 h2 => W.cond (fun h => ?_) (fun h => W.some ?_)
    · rw [et]
      refine W.call (W.some rfl) fun r3 e3 => ?_
      subst e3
      refine W.call (l01Rows_W (fun x y hx hy => by rw [hrt, if_pos ⟨hx, hy⟩]; exact hb y x hy hx) n1 n10) fun b4 h4 => W.some ?_
      rw [h4, iff]
      exact ⟨fun x => ⟨h2.1 h, x⟩, fun x => x.2⟩
    · simp only [h, Bool.false_eq_true, false_iff] at h2 ⊢
      exact fun x => h2 (iff.1 x).1
  · simp only [h, Bool.false_eq_true, false_iff] at hbn ⊢
    exact fun x => hbn ⟨x.n1, x.n10⟩
end Go.Pu

/- Plain laws: squares that are read, moved, ordered, made. -/
namespace Go.Pu
open Go Go.Abs Go.Lab

theorem l01Split_W {s : ByteArray} (hs : s.size ≤ 1000000) (c : Int) : W (m_spec_l01Split s c) fun r => 1 ≤ r.length ∧ r.length ≤ s.size + 1 := by
  unfold m_spec_l01Split
  refine W.upto (fun t => t.2.2) s.size (fun t => 0 ≤ t.2.1 ∧ t.2.1 ≤ t.2.2 ∧ t.2.2 ≤ s.size ∧ (t.1.length : Int) ≤ t.2.2) ⟨by simp, by simp, by simp, by simp⟩ ?_
  rintro ⟨x1, x2, x3⟩ ⟨h1, h2, h3, h4⟩
  simp only at h1 h2 h3 h4
  unfold m_spec_l01Split_l0
  refine W.condP (fun h => W.chk (by omega) (W.cond (fun h' => W.chk (by omega) (W.chk (by omega) (W.some ?_))) (fun h' => W.some ?_))) (fun h => ?_)
  · simp only
    rw [w64 (by omega)]
    refine ⟨⟨by omega, by omega, by omega, by simp; omega⟩, by omega, by omega⟩
  · simp only
    rw [w64 (by omega)]
    refine ⟨⟨by omega, by omega, by omega, by omega⟩, by omega, by omega⟩
  · refine W.some ?_
    simp only [if_true]
    refine W.chk (by omega) (W.chk (by omega) (W.some ?_))
    simp only [List.length_append, List.length_cons, List.length_nil]
    omega

theorem Byt.tset {t : Nat → Nat → Int} (h : Byt t) (a b : Nat) {v : Int} (hv : 0 ≤ v ∧ v ≤ 255) : Byt (Abs.tset t a b v) := fun x y hx hy => by
  unfold Abs.tset
  split
  · exact hv
  · exact h x y hx hy
theorem Byt.zero : Byt tb0 := fun _ _ _ _ => by simp [tb0]

theorem l01Read_W {s : ByteArray} (hs : s.size ≤ 1000000) : W (m_spec_l01Read s) fun r => Byt r.1.t ∧ (r.2 = true → Latin r.1) := by
  unfold m_spec_l01Read
  refine W.call (l01Split_W hs _) fun l hl => ?_
  refine W.condP (fun h => W.some ⟨Byt.zero, by simp⟩) (fun h => ?_)
  refine W.upto (fun t => t.1) l.length (fun t => 0 ≤ t.1 ∧ t.1 ≤ l.length ∧ Byt t.2.2.t) ⟨by simp, by simp, Byt.zero⟩ ?_
  rintro ⟨x1, x2, x3⟩ ⟨h1, h2, h3⟩
  simp only at h1 h2 h3
  unfold m_spec_l01Read_l0
  refine W.condP (fun h' => W.chk (by omega) (W.condNe (fun h4 => W.some (W.some ⟨Byt.zero, by simp⟩)) (fun h4 => ?_))) (fun h' => ?_)
  · refine W.upto (fun t => t.1) l.length (fun t => 0 ≤ t.1 ∧ t.1 ≤ l.length ∧ Byt t.2.2.t) ⟨by simp, by simp, h3⟩ ?_
    rintro ⟨x4, x5, x6⟩ ⟨g1, g2, g3⟩
    simp only at g1 g2 g3
    unfold m_spec_l01Read_l1
    refine W.condP (fun g => W.chk (by omega) (W.chk (by omega) (W.condP (fun _ => W.some (W.some (W.some ⟨Byt.zero, by simp⟩))) (fun _ => W.chk (by omega) (W.chk (by omega) (W.condP (fun _ => W.some (W.some (W.some ⟨Byt.zero, by simp⟩))) (fun _ => W.chk (by omega) (W.chk (by omega) (W.chk (by omega) (W.chk (by omega) (W.some ?_)))))))))))
      (fun g => W.some ?_)
    · simp only
      rw [w64 (by omega)]
      exact ⟨⟨by omega, by omega, g3.tset _ _ (w8_lt _)⟩, by omega, by omega⟩
    · simp only [if_true]
      refine W.some ?_
      simp only
      rw [w64 (by omega)]
      exact ⟨⟨by omega, by omega, g3⟩, by omega, by omega⟩
  · refine W.some ?_
    simp only [if_true]
    exact W.call (l01Is_W h3) fun b hb => W.some ⟨h3, fun e => hb.1 e⟩

theorem l01Row_W {q : Sq} {x : Int} (h0 : 0 ≤ x) (h1 : x < 10) : W (m_spec_l01Row q x) fun r => r = q.t x.toNat := by
  unfold m_spec_l01Row
  exact W.chk (by omega) (W.some rfl)

theorem l01Column_W {q : Sq} {y : Int} (hn : q.order ≤ 10) (hn0 : 0 ≤ q.order) (h0 : 0 ≤ y) (h1 : y < 10) : W (m_spec_l01Column q y) fun r => r = fun i : Nat => if (i : Int) < q.order then q.t i y.toNat else 0 := by
  unfold m_spec_l01Column
  refine W.upto (fun t => t.1) q.order (fun t => 0 ≤ t.1 ∧ t.1 ≤ q.order ∧ ∀ i : Nat, t.2 i = if (i : Int) < t.1 then q.t i y.toNat else 0) ⟨by simp, by simp; omega, fun i => by rw [if_neg (by simp only; omega)]; rfl⟩ ?_
  rintro ⟨x1, x2⟩ ⟨h2, h3, h4⟩
  simp only at h2 h3 h4
  unfold m_spec_l01Column_l0
  refine W.condP (fun h => W.chk (by omega) (W.chk (by omega) (W.chk (by omega) (W.some ?_)))) (fun h => W.some (W.some ?_))
  · simp only
    rw [w64 (by omega)]
    refine ⟨⟨by omega, by omega, fun i => ?_⟩, by omega, by omega⟩
    rw [fset_eq]
    split
    · rename_i e; rw [if_pos (by omega), e]
    · rw [h4 i]
      by_cases e : (i : Int) < x1
      · rw [if_pos e, if_pos (by omega)]
      · rw [if_neg e, if_neg (by omega)]
  · funext i
    rw [h4 i]
    by_cases e : (i : Int) < x1
    · rw [if_pos e, if_pos (by omega)]
    · rw [if_neg e, if_neg (by omega)]

/-- 'r' has q's products, rows led by a, columns by b, entries by c. -/
structure MovedOf (q : Sq) (a b c : Nat → Int) (r : Sq) : Prop where
  ord : r.order = q.order
  at_ : ∀ x y : Nat, (x : Int) < q.order → (y : Int) < q.order → r.t (a x).toNat (b y).toNat = c (q.t x y).toNat
  zero : ∀ x y : Nat, q.order ≤ x ∨ q.order ≤ y → r.t x y = 0

theorem l01Moved_W {q : Sq} {a b c : Nat → Int} (h1 : 1 ≤ q.order) (h10 : q.order ≤ 10) (hq : ∀ x y : Nat, (x : Int) < q.order → (y : Int) < q.order → 0 ≤ q.t x y ∧ q.t x y < 10) (ha : PermP q.order a) (hb : PermP q.order b) :
    W (m_spec_l01Moved q a b c) (MovedOf q a b c) := by
  unfold m_spec_l01Moved
  refine W.upto (fun t => t.1) q.order (fun t => 0 ≤ t.1 ∧ t.1 ≤ q.order ∧ t.2.order = q.order ∧ (∀ x y : Nat, (x : Int) < t.1 → (y : Int) < q.order → t.2.t (a x).toNat (b y).toNat = c (q.t x y).toNat) ∧ ∀ x y : Nat, q.order ≤ x ∨ q.order ≤ y → t.2.t x y = 0)
    ⟨by simp, by simp; omega, rfl, fun x y hx => by simp only at hx; omega, fun x y _ => rfl⟩ ?_
  rintro ⟨x1, ⟨o, x2⟩⟩ ⟨h2, h3, h4, h5, h6⟩
  simp only at h2 h3 h4 h5 h6
  subst h4
  unfold m_spec_l01Moved_l0
  refine W.condP (fun h => ?_) (fun h => ?_)
  · refine W.upto (fun t => t.1) q.order (fun t => 0 ≤ t.1 ∧ t.2.order = q.order ∧ (∀ x y : Nat, (y : Int) < q.order → (x : Int) < x1 ∨ (x : Int) = x1 ∧ (y : Int) < t.1 → t.2.t (a x).toNat (b y).toNat = c (q.t x y).toNat) ∧ ∀ x y : Nat, q.order ≤ x ∨ q.order ≤ y → t.2.t x y = 0)
      ⟨by simp, rfl, fun x y hy hx => h5 x y (by simp only at hx; omega) hy, h6⟩ ?_
    rintro ⟨x3, ⟨o, x4⟩⟩ ⟨g1, g2, g3, g4⟩
    simp only at g1 g2 g3 g4
    subst g2
    unfold m_spec_l01Moved_l1
    refine W.condP (fun h' => ?_) (fun h' => ?_)
    · have e1 := hq x1.toNat x3.toNat (by omega) (by omega)
      have e2 := ha.lo x1.toNat (by omega)
      have e3 := hb.lo x3.toNat (by omega)
      refine W.chk (by omega) (W.chk (by omega) (W.chk (by omega) (W.chk (by omega) (W.chk (by omega) (W.chk (by omega) (W.chk (by omega) (W.some ?_)))))))
      simp only
      rw [w64 (by omega)]
      refine ⟨⟨by omega, trivial, fun x y hy hx => ?_, fun x y hx => ?_⟩, by omega, by omega⟩
      · unfold Abs.tset
        have ex := ha.lo x (by omega)
        have ey := hb.lo y hy
        split
        · rename_i e
          have := ha.inj x x1.toNat (by omega) (by omega) (by omega)
          have := hb.inj y x3.toNat (by omega) (by omega) (by omega)
          subst x; subst y; rfl
        · rename_i e
          refine g3 x y hy ?_
          by_cases e' : (x : Int) = x1 ∧ (y : Int) = x3
          · obtain ⟨f1, f2⟩ := e'
            subst f1; subst f2; simp at e
          · omega
      · unfold Abs.tset
        rw [if_neg (by omega)]
        exact g4 x y hx
    · refine W.some ?_
      simp only [if_true]
      refine W.some ?_
      simp only
      rw [w64 (by omega)]
      exact ⟨⟨by omega, by omega, trivial, fun x y hx hy => g3 x y hy (by omega), g4⟩, by omega, by omega⟩
  · exact W.some (W.some ⟨rfl, fun x y hx hy => h5 x y (by omega) hy, h6⟩)

theorem PermP.onto {n : Int} {p : Nat → Int} (h : PermP n p) {v : Nat} (hv : (v : Int) < n) : ∃ i : Nat, (i : Int) < n ∧ p i = v := by
  obtain ⟨i, hi, e⟩ := onto_of_inj (n := n.toNat) (f := fun i => (p i).toNat) (fun i hi => by have := h.lo i (by omega); show (p i).toNat < _; omega)
    (fun i j hi hj e => h.inj i j (by omega) (by omega) (by have := h.lo i (by omega); have := h.lo j (by omega); simp only at e; omega)) v (by omega)
  refine ⟨i, by omega, ?_⟩
  have := h.lo i (by omega)
  simp only at e; omega

theorem MovedOf.latin {q r : Sq} {a b c : Nat → Int} (hq : Latin q) (ha : PermP q.order a) (hb : PermP q.order b) (hc : PermP q.order c) (h : MovedOf q a b c r) : Latin r := by
  have key : ∀ i j : Nat, (i : Int) < q.order → (j : Int) < q.order → ∃ x y : Nat, (x : Int) < q.order ∧ (y : Int) < q.order ∧ a x = i ∧ b y = j ∧ r.t i j = c (q.t x y).toNat := fun i j hi hj => by
    obtain ⟨x, hx, ex⟩ := ha.onto hi
    obtain ⟨y, hy, ey⟩ := hb.onto hj
    refine ⟨x, y, hx, hy, ex, ey, ?_⟩
    have := h.at_ x y hx hy
    rw [ex, ey] at this; simpa using this
  have hcq : ∀ x y : Nat, (x : Int) < q.order → (y : Int) < q.order → 0 ≤ c (q.t x y).toNat ∧ c (q.t x y).toNat < q.order := fun x y hx hy => by
    have := hq.lt hx hy
    exact hc.lo _ (by omega)
  have hci : ∀ x y x' y' : Nat, (x : Int) < q.order → (y : Int) < q.order → (x' : Int) < q.order → (y' : Int) < q.order → c (q.t x y).toNat = c (q.t x' y').toNat → q.t x y = q.t x' y' := fun x y x' y' hx hy hx' hy' e => by
    have a := hq.lt hx hy; have b := hq.lt hx' hy'
    have := hc.inj _ _ (by omega) (by omega) e
    omega
  refine ⟨by rw [h.ord]; exact hq.n1, by rw [h.ord]; exact hq.n10, fun i hi => ?_, fun j hj => ?_, fun x y _ _ hz => h.zero x y (by rw [← h.ord]; exact hz)⟩
  · rw [h.ord] at hi ⊢
    refine ⟨fun j hj => ?_, fun j k hj hk e => ?_⟩
    · obtain ⟨x, y, hx, hy, ex, ey, e⟩ := key i j hi hj
      rw [e]; exact hcq x y hx hy
    · obtain ⟨x, y, hx, hy, ex, ey, e1⟩ := key i j hi hj
      obtain ⟨x', y', hx', hy', ex', ey', e2⟩ := key i k hi hk
      rw [e1, e2] at e
      have e' := hci _ _ _ _ hx hy hx' hy' e
      have exx : x = x' := ha.inj _ _ hx hx' (by omega)
      subst exx
      have := (hq.row x hx).inj _ _ hy hy' e'
      subst this; omega
  · rw [h.ord] at hj ⊢
    refine ⟨fun i hi => ?_, fun i k hi hk e => ?_⟩
    · obtain ⟨x, y, hx, hy, ex, ey, e⟩ := key i j hi hj
      simp only [e]; exact hcq x y hx hy
    · obtain ⟨x, y, hx, hy, ex, ey, e1⟩ := key i j hi hj
      obtain ⟨x', y', hx', hy', ex', ey', e2⟩ := key k j hk hj
      simp only [e1, e2] at e
      have e' := hci _ _ _ _ hx hy hx' hy' e
      have eyy : y = y' := hb.inj _ _ hy hy' (by omega)
      subst eyy
      have := (hq.col y hy).inj _ _ hx hx' e'
      subst this; omega

/-- A loop: 0 is neutral. -/
structure Loop (q : Sq) : Prop extends Latin q where
  left : ∀ x : Nat, (x : Int) < q.order → q.t 0 x = x
  right : ∀ x : Nat, (x : Int) < q.order → q.t x 0 = x

theorem l01Ordered_W {q : Sq} (h : Latin q) : W (m_spec_l01Ordered q) fun r => Loop r ∧ r.order = q.order := by
  have n1 := h.n1; have n10 := h.n10
  have h00 : ((0 : Nat) : Int) < q.order := by omega
  unfold m_spec_l01Ordered
  obtain ⟨id, eid, hid⟩ := l01Same_W (n := q.order) n10
  have pid : PermP q.order id := PermP.id hid.1
  refine W.call (W.eq eid rfl) fun r1 e1 => ?_
  refine W.call (l01Row_W (by omega) (by omega)) fun r2 e2 => ?_
  refine W.call (W.eq eid rfl) fun r3 e3 => ?_
  subst e1; subst e2; subst e3
  have hlt : ∀ {q : Sq}, Latin q → ∀ x y : Nat, (x : Int) < q.order → (y : Int) < q.order → 0 ≤ q.t x y ∧ q.t x y < 10 := fun h x y hx hy => by have := h.lt hx hy; have := h.n10; omega
  refine W.call (l01Moved_W n1 n10 (hlt h) pid (h.row 0 h00)) fun r4 h4 => ?_
  have l4 := h4.latin h pid (h.row 0 h00) pid
  have o4 := h4.ord
  -- the row 0 is in order
  have z4 : ∀ v : Nat, (v : Int) < q.order → r4.t 0 v = v := fun v hv => by
    obtain ⟨y, hy, ey⟩ := (h.row 0 h00).onto hv
    have e := h4.at_ 0 y h00 hy
    rw [hid.1 0 h00, show (Int.toNat 0) = 0 from rfl, ey] at e
    simp only [Int.toNat_natCast] at e
    rw [hid.1 v hv] at e
    simpa using e
  refine W.call (l01Column_W (by omega) (by omega) (by omega) (by omega)) fun r5 e5 => ?_
  refine W.call (W.eq eid rfl) fun r6 e6 => ?_
  refine W.call (W.eq eid rfl) fun r7 e7 => ?_
  subst e6; subst e7
  have c5 : ∀ i : Nat, (i : Int) < q.order → r5 i = r4.t i 0 := fun i hi => by rw [e5]; simp only; rw [if_pos (by omega)]; rfl
  have p5 : PermP q.order r5 := by
    have := l4.col 0 (by omega)
    rw [o4] at this
    exact this.ext c5
  refine W.call (l01Moved_W (by omega) (by omega) (hlt l4) (by rw [o4]; exact p5) (by rw [o4]; exact pid)) fun r8 h8 => W.some ?_
  have l8 := h8.latin l4 (by rw [o4]; exact p5) (by rw [o4]; exact pid) (by rw [o4]; exact pid)
  have o8 : r8.order = q.order := by rw [h8.ord, o4]
  refine ⟨⟨l8, fun y hy => ?_, fun v hv => ?_⟩, o8⟩
  · have e := h8.at_ 0 y (by omega) (by omega)
    have z := z4 y (by omega)
    rw [c5 0 h00, z4 0 h00, hid.1 y (by omega), z] at e
    simp only [Int.toNat_natCast] at e
    rw [hid.1 y (by omega)] at e
    simpa using e
  · rw [o8] at hv
    obtain ⟨x, hx, ex⟩ := p5.onto hv
    have e := h8.at_ x 0 (by omega) (by omega)
    have c := c5 x hx
    rw [ex] at c
    rw [ex, hid.1 0 h00, ← c] at e
    simp only [Int.toNat_natCast] at e
    rw [hid.1 v hv] at e
    simpa using e
end Go.Pu

/- Plain laws: cyclic and elementary squares, direct products, exchanges along a cycle. -/
namespace Go.Pu
open Go Go.Abs Go.Lab

theorem xor_i64 {a b : Nat} (ha : a < 2 ^ 62) (hb : b < 2 ^ 62) : bits .xor .i64 (a : Int) (b : Int) = ((a ^^^ b : Nat) : Int) := by
  show IntKind.i64.wrap ((BitVec.ofInt 64 (a : Int) ^^^ BitVec.ofInt 64 (b : Int)).toNat : Int) = _
  have h : a ^^^ b < 2 ^ 62 := Nat.xor_lt_two_pow ha hb
  have e1 : (BitVec.ofInt 64 (a : Int)).toNat = a := by rw [BitVec.toNat_ofInt]; omega
  have e2 : (BitVec.ofInt 64 (b : Int)).toNat = b := by rw [BitVec.toNat_ofInt]; omega
  rw [BitVec.toNat_xor, e1, e2]
  exact w64 (by omega)

theorem tabF_lt {n : Int} {g : Nat → Nat → Int} {x y : Nat} (hx : (x : Int) < n) (hy : (y : Int) < n) : tabF n g x y = g x y := by unfold tabF; rw [if_pos ⟨hx, hy⟩]
theorem tabF_zero {n : Int} {g : Nat → Nat → Int} {x y : Nat} (h : n ≤ x ∨ n ≤ y) : tabF n g x y = 0 := by unfold tabF; rw [if_neg (by omega)]

theorem latin_tabF {n : Int} {g : Nat → Nat → Int} (h1 : 1 ≤ n) (h10 : n ≤ 10) (hlo : ∀ x y : Nat, (x : Int) < n → (y : Int) < n → 0 ≤ g x y ∧ g x y < n)
    (hr : ∀ x y z : Nat, (x : Int) < n → (y : Int) < n → (z : Int) < n → g x y = g x z → y = z) (hc : ∀ x y z : Nat, (x : Int) < n → (y : Int) < n → (z : Int) < n → g y x = g z x → y = z) : Latin ⟨n, tabF n g⟩ := by
  refine ⟨h1, h10, fun x hx => ⟨fun y hy => ?_, fun y z hy hz e => ?_⟩, fun x hx => ⟨fun y hy => ?_, fun y z hy hz e => ?_⟩, fun x y _ _ h => tabF_zero h⟩ <;> simp only at *
  · rw [tabF_lt hx hy]; exact hlo x y hx hy
  · rw [tabF_lt hx hy, tabF_lt hx hz] at e; exact hr x y z hx hy hz e
  · rw [tabF_lt hy hx]; exact hlo y x hy hx
  · rw [tabF_lt hy hx, tabF_lt hz hx] at e; exact hc x y z hx hy hz e

/-! ## Cyclic squares -/
def cycG (n : Int) (x y : Nat) : Int := ((x : Int) + y) % n
theorem cycG_eq {n : Int} {x y : Nat} (hx : (x : Int) < n) (hy : (y : Int) < n) : cycG n x y = if (x : Int) + y < n then (x : Int) + y else x + y - n := by
  unfold cycG
  split
  · exact Int.emod_eq_of_lt (by omega) (by omega)
  · rw [← Int.sub_emod_right ((x : Int) + y) n]
    exact Int.emod_eq_of_lt (by omega) (by omega)
def cycS (n : Int) : Sq := ⟨n, tabF n (cycG n)⟩
theorem cycS_latin {n : Int} (h1 : 1 ≤ n) (h10 : n ≤ 10) : Latin (cycS n) := by
  refine latin_tabF h1 h10 (fun x y hx hy => ?_) (fun x y z hx hy hz e => ?_) (fun x y z hx hy hz e => ?_)
  · rw [cycG_eq hx hy]; split <;> omega
  · rw [cycG_eq hx hy, cycG_eq hx hz] at e; split at e <;> split at e <;> omega
  · rw [cycG_eq hy hx, cycG_eq hz hx] at e; split at e <;> split at e <;> omega

theorem l01Cyclic_W {n : Int} (h1 : 1 ≤ n) (h10 : n ≤ 10) : W (m_spec_l01Cyclic n) fun r => r = cycS n := by
  unfold m_spec_l01Cyclic
  refine W.fill (n := n) (g := cycG n) (by omega) h10 (step1 := fun x => m_spec_l01Cyclic_l1 n x) (fun x y t hx hx' hy hy' => ?_) (fun x y t hx hx' hy => ?_) (fun x t hx hx' Q' h => ?_) (fun x t hx hx' => ?_) (fun x => ?_)
  · unfold m_spec_l01Cyclic_l1
    refine W.condP (fun h => W.chk (by omega) (W.chk (by omega) (W.chk (by omega) (W.some ?_)))) (fun h => by omega)
    rw [w64 (by omega), w64 (by omega)]
    have e : (x + y).tmod n = cycG n x.toNat y.toNat := by
      unfold cycG
      rw [Int.tmod_eq_emod_of_nonneg (by omega)]
      congr 1; omega
    have := Int.emod_nonneg ((x.toNat : Int) + y.toNat) (show n ≠ 0 by omega)
    have := Int.emod_lt_of_pos ((x.toNat : Int) + y.toNat) (show 0 < n by omega)
    rw [e, w8 (by unfold cycG; omega)]
  · unfold m_spec_l01Cyclic_l1
    exact W.condP (fun h => by omega) (fun h => W.some rfl)
  · unfold m_spec_l01Cyclic_l0
    exact W.condP (fun _ => h _ fun _ _ => rfl) (fun h => by omega)
  · unfold m_spec_l01Cyclic_l0
    exact W.condP (fun h => by omega) (fun h => W.some rfl)
  · exact W.some rfl

/-! ## Elementary squares -/
def eleG (x y : Nat) : Int := ((x ^^^ y : Nat) : Int)
def eleS (k : Nat) : Sq := ⟨((2 ^ k : Nat) : Int), tabF ((2 ^ k : Nat) : Int) eleG⟩
theorem eleG_lt {k : Nat} {x y : Nat} (hx : (x : Int) < ((2 ^ k : Nat) : Int)) (hy : (y : Int) < ((2 ^ k : Nat) : Int)) : 0 ≤ eleG x y ∧ eleG x y < ((2 ^ k : Nat) : Int) := by
  have := Nat.xor_lt_two_pow (n := k) (x := x) (y := y) (by omega) (by omega)
  unfold eleG; omega
theorem xor_cancel {a b c : Nat} (h : a ^^^ b = a ^^^ c) : b = c := by
  have : a ^^^ (a ^^^ b) = a ^^^ (a ^^^ c) := by rw [h]
  simpa [← Nat.xor_assoc, Nat.xor_self] using this
theorem pow3 {k : Nat} (h : k ≤ 3) : 1 ≤ 2 ^ k ∧ 2 ^ k ≤ 8 := by
  have : 2 ^ k ≤ 2 ^ 3 := Nat.pow_le_pow_right (by omega) h
  have : 0 < 2 ^ k := Nat.pow_pos (by omega)
  omega
theorem eleS_latin {k : Nat} (h : k ≤ 3) : Latin (eleS k) := by
  have := pow3 h
  refine latin_tabF (by omega) (by omega) (fun x y hx hy => eleG_lt hx hy) (fun x y z hx hy hz e => ?_) (fun x y z hx hy hz e => ?_)
  · unfold eleG at e; exact xor_cancel (a := x) (by omega)
  · unfold eleG at e
    rw [Nat.xor_comm y x, Nat.xor_comm z x] at e
    exact xor_cancel (a := x) (by omega)

theorem l01Elementary_W {k : Int} (h0 : 0 ≤ k) (h3 : k ≤ 3) : W (m_spec_l01Elementary k) fun r => r = eleS k.toNat := by
  have e : IntKind.i64.wrap (1 * 2 ^ (min ((IntKind.u64.wrap k)).toNat IntKind.i64.bits)) = ((2 ^ k.toNat : Nat) : Int) := by
    rw [wu64 (by omega)]; exact bit_i64 h0 (by omega)
  have hp := pow3 (k := k.toNat) (by omega)
  unfold m_spec_l01Elementary
  rw [e]
  refine W.chk (wu64_lt _).1 ?_
  refine W.fill (n := ((2 ^ k.toNat : Nat) : Int)) (g := eleG) (by omega) (by omega) (step1 := fun x => m_spec_l01Elementary_l1 k x) (fun x y t hx hx' hy hy' => ?_) (fun x y t hx hx' hy => ?_) (fun x t hx hx' Q' h => ?_) (fun x t hx hx' => ?_) (fun x => ?_)
  · unfold m_spec_l01Elementary_l1
    rw [e]
    refine W.condP (fun h => W.chk (by omega) (W.chk (by omega) (W.some ?_))) (fun h => by omega)
    rw [w64 (by omega)]
    have e' : bits .xor .i64 x y = eleG x.toNat y.toNat := by
      have := xor_i64 (a := x.toNat) (b := y.toNat) (by omega) (by omega)
      unfold eleG
      rw [← this]; congr 1 <;> omega
    have := eleG_lt (k := k.toNat) (x := x.toNat) (y := y.toNat) (by omega) (by omega)
    rw [e', w8 (by omega)]
  · unfold m_spec_l01Elementary_l1
    rw [e]
    exact W.condP (fun h => by omega) (fun h => W.some rfl)
  · unfold m_spec_l01Elementary_l0
    rw [e]
    exact W.condP (fun _ => h _ fun _ _ => rfl) (fun h => by omega)
  · unfold m_spec_l01Elementary_l0
    rw [e]
    exact W.condP (fun h => by omega) (fun h => W.some rfl)
  · exact W.some rfl

/-! ## Direct products -/
def dirG (q r : Sq) (x y : Nat) : Int := r.order * q.t (x / r.order.toNat) (y / r.order.toNat) + r.t (x % r.order.toNat) (y % r.order.toNat)
def dirS (q r : Sq) : Sq := ⟨q.order * r.order, tabF (q.order * r.order) (dirG q r)⟩
theorem div_lt {n m : Int} {x : Nat} (hn : 0 ≤ n) (hm : 1 ≤ m) (h : (x : Int) < n * m) : ((x / m.toNat : Nat) : Int) < n := by
  have e : ((n.toNat * m.toNat : Nat) : Int) = n * m := by rw [Int.natCast_mul]; congr 1 <;> omega
  have : x < n.toNat * m.toNat := by omega
  have := Nat.div_lt_of_lt_mul (m := x) (n := m.toNat) (k := n.toNat) (by rw [Nat.mul_comm]; exact this)
  omega
theorem mod_lt {m : Int} (x : Nat) (hm : 1 ≤ m) : ((x % m.toNat : Nat) : Int) < m := by
  have := Nat.mod_lt x (show 0 < m.toNat by omega)
  omega
theorem dm_inj {m a b a' b' : Int} (h0 : 0 ≤ b) (h : b < m) (h0' : 0 ≤ b') (h' : b' < m) (e : m * a + b = m * a' + b') : a = a' ∧ b = b' := by
  have e1 : (m * a + b) / m = a := by rw [Int.add_comm, Int.add_mul_ediv_left _ _ (by omega), Int.ediv_eq_zero_of_lt h0 h]; omega
  have e2 : (m * a' + b') / m = a' := by rw [Int.add_comm, Int.add_mul_ediv_left _ _ (by omega), Int.ediv_eq_zero_of_lt h0' h']; omega
  have ea : a = a' := by rw [← e1, ← e2, e]
  subst ea
  exact ⟨rfl, by omega⟩
theorem dm_nat {m x y : Nat} (h1 : x / m = y / m) (h2 : x % m = y % m) : x = y := by
  rw [← Nat.div_add_mod x m, ← Nat.div_add_mod y m, h1, h2]
theorem mul_le10 {n m : Int} (h1 : 1 ≤ n) (h1' : 1 ≤ m) (h : n * m ≤ 10) : n ≤ 10 ∧ m ≤ 10 ∧ 1 ≤ n * m := by
  have a : n * 1 ≤ n * m := Int.mul_le_mul_of_nonneg_left h1' (by omega)
  have b : 1 * m ≤ n * m := Int.mul_le_mul_of_nonneg_right h1 (by omega)
  omega
theorem dirG_lt {q r : Sq} (hq : Latin q) (hr : Latin r) {x y : Nat} (hx : (x : Int) < q.order * r.order) (hy : (y : Int) < q.order * r.order) : 0 ≤ dirG q r x y ∧ dirG q r x y < q.order * r.order := by
  have := hq.n1; have := hr.n1
  have a := hq.lt (div_lt (by omega) hr.n1 hx) (div_lt (by omega) hr.n1 hy)
  have b := hr.lt (mod_lt x hr.n1) (mod_lt y hr.n1)
  unfold dirG
  have c : r.order * q.t (x / r.order.toNat) (y / r.order.toNat) ≤ r.order * (q.order - 1) := Int.mul_le_mul_of_nonneg_left (by omega) (by omega)
  have d : 0 ≤ r.order * q.t (x / r.order.toNat) (y / r.order.toNat) := Int.mul_nonneg (by omega) (by omega)
  have e : r.order * (q.order - 1) = q.order * r.order - r.order := by rw [Int.mul_sub, Int.mul_one, Int.mul_comm]
  omega
theorem dirS_latin {q r : Sq} (hq : Latin q) (hr : Latin r) (h10 : q.order * r.order ≤ 10) : Latin (dirS q r) := by
  have q1 := hq.n1; have r1 := hr.n1
  refine latin_tabF (mul_le10 q1 r1 h10).2.2 h10 (fun x y hx hy => dirG_lt hq hr hx hy) (fun x y z hx hy hz e => ?_) (fun x y z hx hy hz e => ?_)
  · unfold dirG at e
    have dx := div_lt (by omega) r1 hx; have dy := div_lt (by omega) r1 hy; have dz := div_lt (by omega) r1 hz
    have b := hr.lt (mod_lt x r1) (mod_lt y r1); have c := hr.lt (mod_lt x r1) (mod_lt z r1)
    obtain ⟨f, g⟩ := dm_inj b.1 b.2 c.1 c.2 e
    exact dm_nat ((hq.row _ dx).inj _ _ dy dz f) ((hr.row _ (mod_lt x r1)).inj _ _ (mod_lt y r1) (mod_lt z r1) g)
  · unfold dirG at e
    have dx := div_lt (by omega) r1 hx; have dy := div_lt (by omega) r1 hy; have dz := div_lt (by omega) r1 hz
    have b := hr.lt (mod_lt y r1) (mod_lt x r1); have c := hr.lt (mod_lt z r1) (mod_lt x r1)
    obtain ⟨f, g⟩ := dm_inj b.1 b.2 c.1 c.2 e
    exact dm_nat ((hq.col _ dx).inj _ _ dy dz f) ((hr.col _ (mod_lt x r1)).inj _ _ (mod_lt y r1) (mod_lt z r1) g)
theorem tdiv_nat {x m : Int} (hx : 0 ≤ x) (hm : 1 ≤ m) : x.tdiv m = ((x.toNat / m.toNat : Nat) : Int) := by
  rw [Int.tdiv_eq_ediv_of_nonneg hx, Int.natCast_ediv]; congr 1 <;> omega
theorem tmod_nat {x m : Int} (hx : 0 ≤ x) (hm : 1 ≤ m) : x.tmod m = ((x.toNat % m.toNat : Nat) : Int) := by
  rw [Int.tmod_eq_emod_of_nonneg hx, Int.natCast_emod]; congr 1 <;> omega

/-- the entry that is stored -/
theorem dir_entry {q r : Sq} (hq : Latin q) (hr : Latin r) (h10 : q.order * r.order ≤ 10) {x y : Nat} (hx : (x : Int) < q.order * r.order) (hy : (y : Int) < q.order * r.order) :
    IntKind.u8.wrap (IntKind.u8.wrap (r.order * q.t (x / r.order.toNat) (y / r.order.toNat)) + r.t (x % r.order.toNat) (y % r.order.toNat)) = dirG q r x y := by
  have := dirG_lt hq hr hx hy
  have b := hr.lt (mod_lt x hr.n1) (mod_lt y hr.n1)
  have a := hq.lt (div_lt (by have := hq.n1; omega) hr.n1 hx) (div_lt (by have := hq.n1; omega) hr.n1 hy)
  have d : 0 ≤ r.order * q.t (x / r.order.toNat) (y / r.order.toNat) := Int.mul_nonneg (by have := hr.n1; omega) (by omega)
  unfold dirG at *
  rw [w8 (n := r.order * _) (by omega), w8 (by omega)]

theorem l01Direct_W {q r : Sq} (hq : Latin q) (hr : Latin r) (h10 : q.order * r.order ≤ 10) : W (m_spec_l01Direct q r) fun s => s = dirS q r := by
  have q1 := hq.n1; have r1 := hr.n1
  obtain ⟨q10, r10, m1⟩ := mul_le10 q1 r1 h10
  unfold m_spec_l01Direct
  rw [w64 (by omega)]
  refine W.fill (n := q.order * r.order) (g := dirG q r) (by omega) h10 (step1 := fun x => m_spec_l01Direct_l1 q r x) (fun x y t hx hx' hy hy' => ?_) (fun x y t hx hx' hy => ?_) (fun x t hx hx' Q' h => ?_) (fun x t hx hx' => ?_) (fun x => ?_)
  · unfold m_spec_l01Direct_l1
    dsimp only
    have dx := div_lt (x := x.toNat) (n := q.order) (m := r.order) (by omega) r1 (by omega)
    have dy := div_lt (x := y.toNat) (n := q.order) (m := r.order) (by omega) r1 (by omega)
    have mx := mod_lt (m := r.order) x.toNat r1
    have my := mod_lt (m := r.order) y.toNat r1
    have nn : ∀ a : Nat, 0 ≤ (a : Int) := fun a => Int.natCast_nonneg a
    have n1 := nn (x.toNat / r.order.toNat); have n2 := nn (y.toNat / r.order.toNat); have n3 := nn (x.toNat % r.order.toNat); have n4 := nn (y.toNat % r.order.toNat)
    rw [tdiv_nat hx r1, tdiv_nat hy r1, tmod_nat hx r1, tmod_nat hy r1]
    rw [w64 (n := ((x.toNat / r.order.toNat : Nat) : Int)) (by omega), w64 (n := ((y.toNat / r.order.toNat : Nat) : Int)) (by omega)]
    refine W.condP (fun h => W.chk (by omega) (W.chk (by omega) (W.chk (by omega) (W.chk (by omega) (W.chk (by omega) (W.chk (by omega) (W.chk (by omega) (W.chk (by omega) (W.chk (by omega) (W.chk (by omega) (W.some ?_))))))))))) (fun h => by omega)
    simp only [Int.toNat_natCast]
    rw [w64 (by omega), w8 (n := r.order) (by omega), dir_entry hq hr h10 (by omega) (by omega)]
  · unfold m_spec_l01Direct_l1
    exact W.condP (fun h => by simp only at h; omega) (fun h => W.some rfl)
  · unfold m_spec_l01Direct_l0
    exact W.condP (fun _ => h _ fun _ _ => rfl) (fun h => by simp only at h; omega)
  · unfold m_spec_l01Direct_l0
    exact W.condP (fun h => by simp only at h; omega) (fun h => W.some rfl)
  · exact W.some rfl

/-! ## The opposite -/
theorem l01Opposite_W {q : Sq} (h : Latin q) : W (m_spec_l01Opposite q) fun r => Latin r ∧ r.order = q.order ∧ ∀ x y : Nat, r.t x y = if x < 10 ∧ y < 10 then q.t y x else 0 := by
  have n10 := h.n10
  unfold m_spec_l01Opposite
  refine W.call (l01Turned_W _) fun r hr => W.some ⟨⟨h.n1, h.n10, fun x hx => ?_, fun y hy => ?_, fun x y hx hy hz => ?_⟩, rfl, hr⟩ <;> simp only at *
  · exact (h.col x hx).ext fun i hi => by rw [hr, if_pos (by omega)]
  · exact (h.row y hy).ext fun i hi => by rw [hr, if_pos (by omega)]
  · rw [hr, if_pos (by omega)]; exact h.zero y x hy hx (by omega)
end Go.Pu

/- Plain laws: exchanges along a cycle, and the draws of squares. -/
namespace Go.Pu
open Go Go.Abs Go.Lab

/-- Two rows of a square, of which the columns V are exchanged. -/
structure Sw (q0 : Sq) (a b : Nat) (V : Nat → Prop) (t : Nat → Nat → Int) : Prop where
  ina : ∀ c : Nat, V c → t a c = q0.t b c
  inb : ∀ c : Nat, V c → t b c = q0.t a c
  out : ∀ r c : Nat, ¬ V c ∨ (r ≠ a ∧ r ≠ b) → t r c = q0.t r c

theorem Sw.latin {q0 : Sq} (h : Latin q0) {a b : Nat} (ha : (a : Int) < q0.order) (hb : (b : Int) < q0.order) (hab : a ≠ b) {V : Nat → Prop} [∀ c, Decidable (V c)] {t : Nat → Nat → Int} (s : Sw q0 a b V t)
    (hV : ∀ c, V c → (c : Int) < q0.order) (c1 : ∀ v, V v → ∃ u, V u ∧ q0.t a u = q0.t b v) (c2 : ∀ u, V u → ∃ v, V v ∧ q0.t b v = q0.t a u) : Latin ⟨q0.order, t⟩ := by
  have ra := h.row a ha; have rb := h.row b hb
  have ea : ∀ c, t a c = if V c then q0.t b c else q0.t a c := fun c => by
    split
    · exact s.ina c ‹_›
    · exact s.out a c (.inl ‹_›)
  have eb : ∀ c, t b c = if V c then q0.t a c else q0.t b c := fun c => by
    split
    · exact s.inb c ‹_›
    · exact s.out b c (.inl ‹_›)
  refine ⟨h.n1, h.n10, fun x hx => ?_, fun y hy => ?_, fun x y hx hy hz => ?_⟩ <;> simp only at *
  · by_cases hxa : x = a
    · subst hxa
      refine ⟨fun i hi => ?_, fun i j hi hj e => ?_⟩
      · rw [ea]; split
        · exact rb.lo i hi
        · exact ra.lo i hi
      · rw [ea, ea] at e
        split at e <;> split at e
        · exact rb.inj i j hi hj e
        · rename_i vi vj
          obtain ⟨u, hu, eu⟩ := c1 i vi
          exact absurd (ra.inj u j (hV u hu) hj (eu.trans e) ▸ hu) vj
        · rename_i vi vj
          obtain ⟨u, hu, eu⟩ := c1 j vj
          exact absurd (ra.inj u i (hV u hu) hi (eu.trans e.symm) ▸ hu) vi
        · exact ra.inj i j hi hj e
    · by_cases hxb : x = b
      · subst hxb
        refine ⟨fun i hi => ?_, fun i j hi hj e => ?_⟩
        · rw [eb]; split
          · exact ra.lo i hi
          · exact rb.lo i hi
        · rw [eb, eb] at e
          split at e <;> split at e
          · exact ra.inj i j hi hj e
          · rename_i vi vj
            obtain ⟨u, hu, eu⟩ := c2 i vi
            exact absurd (rb.inj u j (hV u hu) hj (eu.trans e) ▸ hu) vj
          · rename_i vi vj
            obtain ⟨u, hu, eu⟩ := c2 j vj
            exact absurd (rb.inj u i (hV u hu) hi (eu.trans e.symm) ▸ hu) vi
          · exact rb.inj i j hi hj e
      · exact (h.row x hx).ext fun i _ => s.out x i (.inr ⟨hxa, hxb⟩)
  · by_cases hv : V y
    · have := (h.col y hy).swap ha hb
      refine this.ext fun i hi => ?_
      simp only [fset_eq]
      by_cases e1 : i = b
      · rw [if_pos e1, e1, eb, if_pos hv]
      · rw [if_neg e1]
        by_cases e2 : i = a
        · rw [if_pos e2, e2, ea, if_pos hv]
        · rw [if_neg e2]; exact s.out i y (.inr ⟨e2, e1⟩)
    · exact (h.col y hy).ext fun i _ => s.out i y (.inl hv)
  · have hva : V y → (y : Int) < q0.order := hV y
    by_cases hv : V y
    · rw [s.out x y (.inr ⟨by have := hva hv; omega, by have := hva hv; omega⟩)]
      exact h.zero x y hx hy hz
    · rw [s.out x y (.inl hv)]
      exact h.zero x y hx hy hz

theorem Sw.step {q0 : Sq} {a b : Nat} (hab : a ≠ b) {V : List Nat} {t : Nat → Nat → Int} (s : Sw q0 a b (· ∈ V) t) {y : Nat} (hy : y ∉ V) : Sw q0 a b (· ∈ y :: V) (tset (tset t a y (t b y)) b y (t a y)) := by
  refine ⟨fun c hc => ?_, fun c hc => ?_, fun r c hrc => ?_⟩
  · unfold tset
    rw [if_neg (fun e => hab e.1)]
    split
    · rename_i e; rw [e.2]; exact s.out b y (.inl hy)
    · rename_i e
      rcases List.mem_cons.1 hc with e' | hc
      · exact absurd ⟨rfl, e'⟩ e
      · exact s.ina c hc
  · unfold tset
    split
    · rename_i e; rw [e.2]; exact s.out a y (.inl hy)
    · rename_i e
      rw [if_neg (fun e => hab e.1.symm)]
      rcases List.mem_cons.1 hc with e' | hc
      · exact absurd ⟨rfl, e'⟩ e
      · exact s.inb c hc
  · unfold tset
    have hy' : ∀ r', (r' = a ∨ r' = b) → ¬ (r = r' ∧ c = y) := fun r' hr' ⟨e1, e2⟩ => by
      rcases hrc with h | h
      · exact h (by rw [e2]; exact List.mem_cons_self)
      · rcases hr' with hr' | hr'
        · exact h.1 (e1.trans hr')
        · exact h.2 (e1.trans hr')
    rw [if_neg (hy' b (.inr rfl)), if_neg (hy' a (.inl rfl))]
    refine s.out r c ?_
    rcases hrc with h | h
    · exact .inl fun hc => h (List.mem_cons_of_mem _ hc)
    · exact .inr h

theorem l01Switch_W {q : Sq} (h : Latin q) {a b y0 : Int} (ha0 : 0 ≤ a) (ha : a < q.order) (hb0 : 0 ≤ b) (hb : b < q.order) (hy0 : 0 ≤ y0) (hy : y0 < q.order) :
    W (m_spec_l01Switch q a b y0) fun r => Latin r ∧ r.order = q.order := by
  have n1 := h.n1; have n10 := h.n10
  unfold m_spec_l01Switch
  refine W.condEq (fun e => W.some ⟨h, rfl⟩) (fun hab => ?_)
  have hab' : a.toNat ≠ b.toNat := by omega
  have ra := h.row a.toNat (by omega)
  have rb := h.row b.toNat (by omega)
  refine W.bind (W.mono (Q' := fun o => match o with | .ret r => Latin r ∧ r.order = q.order | _ => False) ?_ ?_)
  rotate_left
  · intro o ho
    match o, ho with
    | .ret r, ho => exact W.some ho
  let I : List Nat → Int × Sq × Sq → Prop := fun V s => 0 ≤ s.1 ∧ s.1 < q.order ∧ s.2.1.order = q.order ∧ Sw q a.toNat b.toNat (· ∈ V) s.2.1.t ∧ s.1.toNat ∉ V ∧ V.Nodup ∧ (∀ v, v ∈ V → (v : Int) < q.order)
      ∧ (∀ v, v ∈ V → ∃ u, (u ∈ V ∨ u = s.1.toNat) ∧ q.t a.toNat u = q.t b.toNat v) ∧ (∀ u, u ∈ V ∨ u = s.1.toNat → u = y0.toNat ∨ ∃ v, v ∈ V ∧ q.t b.toNat v = q.t a.toNat u)
  have main : ∀ (m : Nat) (V : List Nat) (s : Int × Sq × Sq), q.order.toNat - V.length = m → I V s → W (loopV (m_spec_l01Switch_l0 a b) s) fun o => match o with | .ret r => Latin r ∧ r.order = q.order | _ => False := by
    intro m
    induction m using Nat.strongRecOn with
    | _ m ih =>
      rintro V ⟨y, ⟨o, t⟩, z⟩ hm ⟨h1, h2, h3, h4, h5, h6, h7, h8, h9⟩
      simp only at h1 h2 h3 h4 h5 h8 h9
      subst h3
      have hlen : V.length + 1 ≤ q.order.toNat := by
        have hnd : (y.toNat :: V).Nodup := List.nodup_cons.2 ⟨h5, h6⟩
        have hsub : (y.toNat :: V) ⊆ List.range q.order.toNat := by
          intro x hx
          rw [List.mem_range]
          rcases List.mem_cons.1 hx with e | hx
          · omega
          · have := h7 x hx; omega
        have := hnd.length_le_of_subset hsub
        simpa using this
      have s' := Sw.step hab' h4 h5
      have tin : ∀ c : Nat, c ∈ y.toNat :: V → (tset (tset t a.toNat y.toNat (t b.toNat y.toNat)) b.toNat y.toNat (t a.toNat y.toNat)) a.toNat c = q.t b.toNat c := s'.ina
      have tout : ∀ c : Nat, c ∉ y.toNat :: V → (tset (tset t a.toNat y.toNat (t b.toNat y.toNat)) b.toNat y.toNat (t a.toNat y.toNat)) a.toNat c = q.t a.toNat c := fun c hc => s'.out _ c (.inl hc)
      rw [loopV_eq]
      unfold m_spec_l01Switch_l0
      dsimp only
      generalize et : tset (tset t a.toNat y.toNat (t b.toNat y.toNat)) b.toNat y.toNat (t a.toNat y.toNat) = t' at s' tin tout ⊢
      refine W.bind ?_
      refine W.chk (by omega) (W.chk (by omega) (W.chk (by omega) (W.chk (by omega) (W.chk (by omega) (W.chk (by omega) (W.chk (by omega) (W.chk (by omega) ?_)))))))
      refine W.upto (fun s => s.1) q.order (fun s => 0 ≤ s.1 ∧ s.1 < q.order ∧ ∀ c : Nat, (c : Int) < s.1 → c = y.toNat ∨ t' a.toNat c ≠ t' a.toNat y.toNat) ⟨by simp, by simp only; omega, fun c hc => by simp only at hc; omega⟩ ?_
      rintro ⟨x4, x5⟩ ⟨g1, g2, g3⟩
      simp only at g1 g2 g3
      unfold m_spec_l01Switch_l1
      dsimp only
      rw [et]
      -- none is left: the cycle is closed
      have closed : (∀ c : Nat, (c : Int) < x4 + 1 → c = y.toNat ∨ t' a.toNat c ≠ t' a.toNat y.toNat) → x4 + 1 = q.order → Latin ⟨q.order, t'⟩ := by
        intro hall hx4
        have hy' : t' a.toNat y.toNat = q.t b.toNat y.toNat := tin _ List.mem_cons_self
        have e1 : ∃ u, u ∈ y.toNat :: V ∧ q.t a.toNat u = q.t b.toNat y.toNat := by
          have := rb.lo y.toNat (by omega)
          obtain ⟨u, hu, eu⟩ := ra.onto (v := (q.t b.toNat y.toNat).toNat) (by omega)
          refine ⟨u, ?_, by omega⟩
          by_cases hm : u ∈ y.toNat :: V
          · exact hm
          · exfalso
            have e := tout u hm
            rcases hall u (by omega) with e' | e'
            · exact hm (by rw [e']; exact List.mem_cons_self)
            · exact e' (by rw [e, hy']; omega)
        refine Sw.latin h (by omega) (by omega) hab' s' (fun c hc => ?_) (fun v hv => ?_) (fun u hu => ?_)
        · rcases List.mem_cons.1 hc with e | hc
          · omega
          · exact h7 c hc
        · rcases List.mem_cons.1 hv with e | hv
          · subst e; exact e1
          · obtain ⟨u, hu, eu⟩ := h8 v hv
            refine ⟨u, ?_, eu⟩
            rcases hu with hu | hu
            · exact List.mem_cons_of_mem _ hu
            · rw [hu]; exact List.mem_cons_self
        · have hu' : u ∈ V ∨ u = y.toNat := by
            rcases List.mem_cons.1 hu with e | hu
            · exact .inr e
            · exact .inl hu
          rcases h9 u hu' with e | ⟨v, hv, ev⟩
          · obtain ⟨u0, hu0, eu0⟩ := e1
            have hu0' : u0 ∈ V ∨ u0 = y.toNat := by
              rcases List.mem_cons.1 hu0 with e | hu
              · exact .inr e
              · exact .inl hu
            rcases h9 u0 hu0' with e' | ⟨v, hv, ev⟩
            · exact ⟨y.toNat, List.mem_cons_self, by rw [e, ← e', eu0]⟩
            · have := rb.inj v y.toNat (h7 v hv) (by omega) (by rw [ev, eu0])
              exact absurd (this ▸ hv) h5
          · exact ⟨v, List.mem_cons_of_mem _ hv, ev⟩
      have stepup : (x4.toNat = y.toNat ∨ t' a.toNat x4.toNat ≠ t' a.toNat y.toNat) → ∀ c : Nat, (c : Int) < x4 + 1 → c = y.toNat ∨ t' a.toNat c ≠ t' a.toNat y.toNat := fun hx c hc => by
        by_cases e : (c : Int) = x4
        · have : c = x4.toNat := by omega
          subst this; exact hx
        · exact g3 c (by omega)
      refine W.condEq (fun e => ?_) (fun e => ?_)
      · rw [w8 (by omega), w64 (by omega)]
        have up := stepup (.inl (by omega))
        refine W.condEq (fun e' => W.some (W.some (W.some ⟨closed up e', rfl⟩))) (fun e' => W.some ?_)
        exact ⟨⟨by omega, by omega, up⟩, by omega, by omega⟩
      · refine W.chk (by omega) (W.chk (by omega) (W.chk (by omega) (W.chk (by omega) ?_)))
        refine W.condNe (fun ht => ?_) (fun ht => ?_)
        · rw [w8 (by omega), w64 (by omega)]
          have up := stepup (.inr ht)
          refine W.condEq (fun e' => W.some (W.some (W.some ⟨closed up e', rfl⟩))) (fun e' => W.some ?_)
          exact ⟨⟨by omega, by omega, up⟩, by omega, by omega⟩
        · refine W.some ?_
          simp only [if_true]
          refine W.some ?_
          simp only
          have hy' : t' a.toNat y.toNat = q.t b.toNat y.toNat := tin _ List.mem_cons_self
          have hnot : x4.toNat ∉ y.toNat :: V := fun hm => by
            have e2 := tin _ hm
            have := rb.inj x4.toNat y.toNat (by omega) (by omega) (by rw [← e2, ht, hy'])
            omega
          have ex : q.t a.toNat x4.toNat = q.t b.toNat y.toNat := by rw [← tout _ hnot, ht, hy']
          refine ih (q.order.toNat - (y.toNat :: V).length) (by simp only [List.length_cons]; omega) (y.toNat :: V) _ rfl ⟨g1, g2, rfl, s', hnot, List.nodup_cons.2 ⟨h5, h6⟩, fun v hv => ?_, fun v hv => ?_, fun u hu => ?_⟩
          · rcases List.mem_cons.1 hv with e | hv
            · omega
            · exact h7 v hv
          · rcases List.mem_cons.1 hv with e | hv
            · exact ⟨x4.toNat, .inr rfl, by rw [e]; exact ex⟩
            · obtain ⟨u, hu, eu⟩ := h8 v hv
              refine ⟨u, .inl ?_, eu⟩
              rcases hu with hu | hu
              · exact List.mem_cons_of_mem _ hu
              · rw [hu]; exact List.mem_cons_self
          · rcases hu with hu | hu
            · have hu' : u ∈ V ∨ u = y.toNat := by
                rcases List.mem_cons.1 hu with e | hu
                · exact .inr e
                · exact .inl hu
              rcases h9 u hu' with e | ⟨v, hv, ev⟩
              · exact .inl e
              · exact .inr ⟨v, List.mem_cons_of_mem _ hv, ev⟩
            · exact .inr ⟨y.toNat, List.mem_cons_self, by rw [hu]; exact ex.symm⟩
  refine main _ [] _ rfl ⟨hy0, hy, rfl, ⟨fun c hc => by simp at hc, fun c hc => by simp at hc, fun _ _ _ => rfl⟩, by simp, by simp, by simp, by simp, fun u hu => ?_⟩
  rcases hu with hu | hu
  · simp at hu
  · exact .inl hu
end Go.Pu

/- Plain laws: the draws of squares. -/
namespace Go.Pu
open Go Go.Abs Go.Lab

section
variable {l : List Int} (hl : Code l)
include hl

theorem l01Known_W {s : Rng} (hs : SrcOk l s) : W (m_spec_l01Known s l) fun r => Latin r.1 ∧ SrcOk l r.2 := by
  unfold m_spec_l01Known
  have cyc : ∀ {s : Rng}, SrcOk l s → W ((m_spec_l01Next s l 5).bind fun r5 => ((m_spec_l01Next r5.2 l 8).bind fun r6 => ((m_spec_l01Next r6.2 l 10).bind fun r7 => ((m_spec_l01Pick r7.2 l ([r5.1, r6.1, r7.1])).bind fun r8 => ((m_spec_l01Cyclic (IntKind.i64.wrap (1 + r8.1))).bind fun r9 => some (r9, r8.2)))))) fun r => Latin r.1 ∧ SrcOk l r.2 := by
    intro s hs
    refine W.call (l01Next_W hl hs _ (by omega)) fun r5 h5 => ?_
    refine W.call (l01Next_W hl h5.1 _ (by omega)) fun r6 h6 => ?_
    refine W.call (l01Next_W hl h6.1 _ (by omega)) fun r7 h7 => ?_
    refine W.call (l01Pick_W hl h7.1 _ (by simp) (by simp)) fun r8 h8 => ?_
    have a := h5.2.1 (by omega); have b := h6.2.1 (by omega); have c := h7.2.1 (by omega)
    have d := h8.2
    simp only [List.mem_cons, List.not_mem_nil, or_false] at d
    rw [w64 (by omega)]
    refine W.call (l01Cyclic_W (by omega) (by omega)) fun r9 h9 => W.some ⟨?_, h8.1⟩
    rw [h9]; exact cycS_latin (by omega) (by omega)
  refine W.call (l01Next_W hl hs _ (by omega)) fun r1 h1 => ?_
  have a1 := h1.2.1 (by omega)
  refine W.cond (fun _ => ?_) (fun _ => W.cond (fun _ => ?_) (fun _ => W.cond (fun _ => ?_) (fun _ => cyc h1.1)))
  · refine W.call (l01Next_W hl h1.1 _ (by omega)) fun r2 h2 => ?_
    have a2 := h2.2.1 (by omega)
    refine W.chk (by omega) ?_
    refine W.call (l01Read_W ?_) fun r3 h3 => ?_
    · have : r2.1.toNat = 0 ∨ r2.1.toNat = 1 ∨ r2.1.toNat = 2 ∨ r2.1.toNat = 3 := by omega
      rcases this with e | e | e | e <;> rw [e] <;> decide
    refine W.cond (fun e => ?_) (fun e => cyc h2.1)
    exact W.call (l01Ordered_W (h3.2 e)) fun r4 h4 => W.some ⟨h4.1.toLatin, h2.1⟩
  · refine W.call (l01Next_W hl h1.1 _ (by omega)) fun r2 h2 => ?_
    have a2 := h2.2.1 (by omega)
    refine W.call (l01Elementary_W (by omega) (by omega)) fun r3 h3 => W.some ⟨?_, h2.1⟩
    rw [h3]; exact eleS_latin (by omega)
  · refine W.call (l01Next_W hl h1.1 _ (by omega)) fun r2 h2 => ?_
    have a2 := h2.2.1 (by omega)
    rw [w64 (by omega)]
    refine W.call (l01Cyclic_W (by omega) (by omega)) fun r3 h3 => ?_
    refine W.call (l01Next_W hl h2.1 _ (by omega)) fun r4 h4 => ?_
    have a4 := h4.2.1 (by omega)
    rw [w64 (by omega)]
    refine W.call (l01Cyclic_W (by omega) (by omega)) fun r5 h5 => ?_
    subst h3; subst h5
    have c1 := cycS_latin (n := 1 + r2.1) (by omega) (by omega)
    have c2 := cycS_latin (n := 1 + r4.1) (by omega) (by omega)
    have hm : (1 + r2.1) * (1 + r4.1) ≤ 10 := by
      have : (1 + r2.1) * (1 + r4.1) ≤ 3 * 3 := Int.mul_le_mul (by omega) (by omega) (by omega) (by omega)
      omega
    refine W.call (l01Direct_W c1 c2 hm) fun r6 h6 => W.some ⟨?_, h4.1⟩
    rw [h6]; exact dirS_latin c1 c2 hm

theorem l01Draw_W {s : Rng} (hs : SrcOk l s) : W (m_spec_l01Draw s l) fun r => Loop r.1 ∧ SrcOk l r.2 := by
  unfold m_spec_l01Draw
  refine W.call (l01Known_W hl hs) fun r1 h1 => ?_
  refine W.call (l01Pick_W hl h1.2 _ (by simp) (by simp)) fun r2 h2 => ?_
  have n1 := h1.1.n1; have n10 := h1.1.n10
  have d := h2.2
  simp only [List.mem_cons, List.not_mem_nil, or_false] at d
  refine W.loop (fun s => s.1 ≤ 4 ∧ Latin s.2.1 ∧ s.2.1.order = r1.1.order ∧ SrcOk l s.2.2) (fun s => s.1.toNat) ⟨by simp only; omega, h1.1, rfl, h2.1⟩ ?_
  rintro ⟨x1, x2, x3⟩ ⟨g1, g2, g3, g4⟩
  simp only at g1 g2 g3 g4
  unfold m_spec_l01Draw_l0
  refine W.condP (fun h => ?_) (fun h => ?_)
  · refine W.call (l01Next_W hl g4 _ (by omega)) fun r3 h3 => ?_
    rw [← g3] at n1 n10 ⊢
    have sw : ∀ {q : Sq} {s : Rng}, Latin q → q.order = x2.order → SrcOk l s → W ((m_spec_l01Next s l x2.order).bind fun r5 => ((m_spec_l01Next r5.2 l x2.order).bind fun r6 => ((m_spec_l01Next r6.2 l x2.order).bind fun r7 => ((m_spec_l01Switch q (IntKind.u8.wrap r5.1) (IntKind.u8.wrap r6.1) (IntKind.u8.wrap r7.1)).bind fun r8 => some (Out.next (ρ := Sq × Rng) (IntKind.i64.wrap (x1 - 1), r8, r7.2))))))
        fun o => match o with | .next s' => (s'.1 ≤ 4 ∧ Latin s'.2.1 ∧ s'.2.1.order = x2.order ∧ SrcOk l s'.2.2) ∧ s'.1.toNat < x1.toNat | _ => False := by
      intro q s hq ho hs
      refine W.call (l01Next_W hl hs _ (by omega)) fun r5 h5 => ?_
      refine W.call (l01Next_W hl h5.1 _ (by omega)) fun r6 h6 => ?_
      refine W.call (l01Next_W hl h6.1 _ (by omega)) fun r7 h7 => ?_
      have a := h5.2.1 (by omega); have b := h6.2.1 (by omega); have c := h7.2.1 (by omega)
      rw [w8 (by omega), w8 (by omega), w8 (by omega)]
      refine W.call (l01Switch_W hq a.1 (by omega) b.1 (by omega) c.1 (by omega)) fun r8 h8 => W.some ?_
      simp only
      rw [w64 (by omega)]
      exact ⟨⟨by omega, h8.1, by rw [h8.2, ho], h7.1⟩, by omega⟩
    refine W.mono (Q' := fun o => match o with | .next s' => (s'.1 ≤ 4 ∧ Latin s'.2.1 ∧ s'.2.1.order = x2.order ∧ SrcOk l s'.2.2) ∧ s'.1.toNat < x1.toNat | _ => False) ?_ ?_
    · refine W.cond (fun _ => ?_) (fun _ => sw g2 rfl h3.1)
      exact W.call (l01Opposite_W g2) fun r4 h4 => sw h4.1 h4.2.1 h3.1
    · intro o ho
      match o, ho with
      | .next s', ho => exact ho
  · refine W.some ?_
    simp only [if_true]
    refine W.call (l01Next_W hl g4 _ (by omega)) fun r13 h13 => ?_
    rw [← g3] at n1 n10 ⊢
    have hlt : ∀ x y : Nat, (x : Int) < x2.order → (y : Int) < x2.order → 0 ≤ x2.t x y ∧ x2.t x y < 10 := fun x y hx hy => by have := g2.lt hx hy; omega
    refine W.cond (fun _ => ?_) (fun _ => W.call (l01Ordered_W g2) fun r h => W.some ⟨h.1, h13.1⟩)
    refine W.call (l01DrawPlaces_W hl h13.1 n10 (by omega)) fun r14 h14 => ?_
    refine W.call (l01DrawPlaces_W hl h14.2.2 n10 (by omega)) fun r15 h15 => ?_
    refine W.call (l01DrawPlaces_W hl h15.2.2 n10 (by omega)) fun r16 h16 => ?_
    refine W.call (l01Moved_W n1 n10 hlt h14.1 h15.1) fun r17 h17 => ?_
    exact W.call (l01Ordered_W (h17.latin g2 h14.1 h15.1 h16.1)) fun r h => W.some ⟨h.1, h16.2.2⟩

theorem l01DrawSquare_W {s : Rng} (hs : SrcOk l s) : W (m_spec_l01DrawSquare s l) fun r => Latin r.1 ∧ SrcOk l r.2 := by
  unfold m_spec_l01DrawSquare
  refine W.call (l01Draw_W hl hs) fun r1 h1 => ?_
  have g2 := h1.1.toLatin
  have n1 := g2.n1; have n10 := g2.n10
  have hlt : ∀ x y : Nat, (x : Int) < r1.1.order → (y : Int) < r1.1.order → 0 ≤ r1.1.t x y ∧ r1.1.t x y < 10 := fun x y hx hy => by have := g2.lt hx hy; omega
  refine W.call (l01Next_W hl h1.2 _ (by omega)) fun r2 h2 => ?_
  refine W.cond (fun _ => W.some ⟨g2, h2.1⟩) (fun _ => ?_)
  refine W.call (l01DrawPlaces_W hl h2.1 n10 (by omega)) fun r14 h14 => ?_
  refine W.call (l01DrawPlaces_W hl h14.2.2 n10 (by omega)) fun r15 h15 => ?_
  refine W.call (l01DrawPlaces_W hl h15.2.2 n10 (by omega)) fun r16 h16 => ?_
  exact W.call (l01Moved_W n1 n10 hlt h14.1 h15.1) fun r17 h17 => W.some ⟨h17.latin g2 h14.1 h15.1 h16.1, h16.2.2⟩

/-- A struct that the program can bear: entries are bytes. -/
structure SqOk (q : Sq) : Prop where
  o0 : -1 ≤ q.order
  o1 : q.order ≤ 11
  byt : Byt q.t

theorem l01Broken_W {s : Rng} (hs : SrcOk l s) {q : Sq} (hq : Latin q) : W (m_spec_l01Broken s l q) fun r => SqOk r.1 ∧ SrcOk l r.2 := by
  have n1 := hq.n1; have n10 := hq.n10
  unfold m_spec_l01Broken
  refine W.call (l01Next_W hl hs _ (by omega)) fun r1 h1 => ?_
  refine W.cond (fun _ => W.some ⟨⟨by simp only; omega, by simp only; omega, hq.byt.tset _ _ (w8_lt _)⟩, h1.1⟩) (fun _ => W.cond (fun _ => ?_) (fun _ => W.cond (fun _ => ?_) (fun _ => W.some ⟨⟨by simp only; omega, by simp only; omega, hq.byt⟩, h1.1⟩)))
  · rw [w64 (by omega), w64 (by omega)]
    refine W.call (l01Pick_W hl h1.1 _ (by simp) (by simp)) fun r2 h2 => W.some ⟨⟨?_, ?_, hq.byt⟩, h2.1⟩ <;>
    · have d := h2.2
      simp only [List.mem_cons, List.not_mem_nil, or_false] at d ⊢
      omega
  · exact W.call (l01Pick_W hl h1.1 _ (by simp) (by simp)) fun r3 h3 => W.some ⟨⟨by simp only; omega, by simp only; omega, hq.byt.tset _ _ (w8_lt _)⟩, h3.1⟩

theorem l01Spoil_W {s : Rng} (hs : SrcOk l s) : W (m_spec_l01Spoil s l) fun r => SqOk r.1 ∧ SrcOk l r.2 := by
  unfold m_spec_l01Spoil
  refine W.call (l01Next_W hl hs _ (by omega)) fun r1 h1 => W.cond (fun _ => ?_) (fun _ => ?_)
  · exact W.call (l01Draw_W hl h1.1) fun r2 h2 => W.call (l01Broken_W hl h2.2 h2.1.toLatin) fun r3 h3 => W.some h3
  · exact W.call (l01DrawSquare_W hl h1.1) fun r2 h2 => W.call (l01Broken_W hl h2.2 h2.1) fun r3 h3 => W.some h3

end
end Go.Pu

/- Plain laws: the program's functions on squares. -/
namespace Go.Pu
open Go Go.Abs Go.Lab

theorem elements_W {q : Sq} (h0 : 0 ≤ q.order) (h1 : q.order ≤ 200) : W (m_impl_Square_elements q) fun r => (r.length : Int) = q.order ∧ ∀ i : Nat, (i : Int) < q.order → r.getD i 0 = i := by
  unfold m_impl_Square_elements
  refine W.upto (fun s => s.2) q.order (fun s => 0 ≤ s.2 ∧ s.2 ≤ q.order ∧ (s.1.length : Int) = s.2 ∧ ∀ i : Nat, (i : Int) < s.2 → s.1.getD i 0 = i) ⟨by simp, by simp; omega, by simp, fun i hi => by simp only at hi; omega⟩ ?_
  rintro ⟨x1, x2⟩ ⟨h2, h3, h4, h5⟩
  simp only at h2 h3 h4 h5
  unfold m_impl_Square_elements_l0
  dsimp only
  rw [w8 (n := q.order) (by omega)]
  refine W.condP (fun h => W.chk (by omega) (W.some ?_)) (fun h => W.some (W.some ⟨by show (x1.length : Int) = _; omega, fun i hi => h5 i (by omega)⟩))
  simp only
  rw [w8 (by omega)]
  refine ⟨⟨by omega, by omega, by simp; omega, fun i hi => ?_⟩, by omega, by omega⟩
  rw [List.getD_eq_getElem?_getD, List.getElem?_append]
  split
  · rw [← List.getD_eq_getElem?_getD]; exact h5 i (by omega)
  · have e : i - x1.length = 0 := by omega
    rw [e]; simp; omega

theorem made_W {n : Int} (h0 : 0 ≤ n) (h10 : n ≤ 10) {f : Int → Int → Option Int} {g : Nat → Nat → Int} (hf : ∀ x y : Nat, (x : Int) < n → (y : Int) < n → W (f x y) fun r => r = g x y) : W (m_impl_made n f) fun r => r = ⟨n, tabF n g⟩ := by
  unfold m_impl_made
  refine W.call (elements_W h0 (by simp only; omega)) fun r1 h1 => ?_
  obtain ⟨l1, e1⟩ := h1
  simp only at l1 e1
  obtain ⟨r2, er2, l2, e2⟩ := elements_W (q := ⟨n, tb0⟩) h0 (by simp only; omega)
  have hel : ∀ t, m_impl_Square_elements ⟨n, t⟩ = some r2 := by
    intro t
    rw [← er2]
    rfl
  refine W.fill (n := n) (g := g) h0 h10 (step1 := fun x => m_impl_made_l1 f r1 x r2) (fun x y t hx hx' hy hy' => ?_) (fun x y t hx hx' hy => ?_) (fun x t hx hx' Q' h => ?_) (fun x t hx hx' => ?_) (fun x => ?_)
  · unfold m_impl_made_l1
    dsimp only
    have ex := e1 x.toNat (by omega)
    have ey := e2 y.toNat (by simp only; omega)
    rw [ex, ey]
    simp only at l2
    refine W.condP (fun h => W.chk (by omega) (W.call (hf _ _ (by omega) (by omega)) fun r hr => W.chk (by omega) (W.chk (by omega) (W.some ?_)))) (fun h => by omega)
    rw [w64 (by omega), hr]
    simp only [Int.toNat_natCast]
  · unfold m_impl_made_l1
    simp only at l2
    exact W.condP (fun h => by omega) (fun h => W.some rfl)
  · unfold m_impl_made_l0
    dsimp only
    refine W.condP (fun _ => W.chk (by omega) ?_) (fun h => by omega)
    rw [hel]
    exact h _ fun _ _ => rfl
  · unfold m_impl_made_l0
    exact W.condP (fun h => by omega) (fun h => W.some rfl)
  · exact W.some rfl

/-! ## IsSquare -/
theorem IsSquare_W {q : Sq} (hb : Byt q.t) : W (m_impl_IsSquare q) fun r => r = true ↔ Latin q := by
  unfold m_impl_IsSquare
  refine W.call (within_W _ _ _) fun b hbn => W.condNot (fun h => W.some ?_) (fun h => ?_)
  · simp only [h, Bool.false_eq_true, false_iff] at hbn ⊢
    exact fun x => hbn ⟨x.n1, x.n10⟩
  obtain ⟨n1, n10⟩ := hbn.1 h
  have hrow : ∀ x : Nat, (x : Int) < q.order → ByP (q.t x) := fun x hx i hi => hb x i (by omega) hi
  have hcol : ∀ x : Nat, (x : Int) < q.order → ByP fun i => q.t i x := fun x hx i hi => hb i x hi (by omega)
  refine W.upto (fun s => s) 10 (fun s => 0 ≤ s ∧ s ≤ 10 ∧ (∀ x : Nat, (x : Int) < s → (x : Int) < q.order → PermP q.order (q.t x) ∧ PermP q.order fun i => q.t i x) ∧ ∀ x y : Nat, (x : Int) < s → y < 10 → q.order ≤ x ∨ q.order ≤ y → q.t x y = 0) ⟨by omega, by omega, fun x hx => by omega, fun x y hx => by omega⟩ ?_
  rintro x1 ⟨h1, h2, h3, h4⟩
  unfold m_impl_IsSquare_l0
  refine W.condP (fun hx1 => ?_) (fun hx1 => ?_)
  · refine W.upto (fun s => s.2.2) 10 (fun s => 0 ≤ s.2.2 ∧ s.2.2 ≤ 10 ∧ (∀ y : Nat, (y : Int) < s.2.2 → q.order ≤ x1 ∨ q.order ≤ y → q.t x1.toNat y = 0) ∧ (x1 < q.order → (∃ m : Nat, s.1 = m ∧ Met m fun v => ∃ i : Nat, (i : Int) < s.2.2 ∧ (i : Int) < q.order ∧ q.t x1.toNat i = v)
        ∧ (∃ m : Nat, s.2.1 = m ∧ Met m fun v => ∃ i : Nat, (i : Int) < s.2.2 ∧ (i : Int) < q.order ∧ q.t i x1.toNat = v) ∧ ∀ i : Nat, (i : Int) < s.2.2 → (i : Int) < q.order → q.t x1.toNat i < q.order ∧ q.t i x1.toNat < q.order))
      ⟨by simp, by simp, fun y hy => by simp only at hy; omega, fun _ => ⟨⟨0, rfl, Met.zero (by simp; omega)⟩, ⟨0, rfl, Met.zero (by simp; omega)⟩, fun i hi => by simp only at hi; omega⟩⟩ ?_
    rintro ⟨x2, x3, x4⟩ ⟨g1, g2, g3, g4⟩
    simp only at g1 g2 g3 g4
    unfold m_impl_IsSquare_l1
    dsimp only
    have bad : ∀ {P : Prop}, ¬ P → ((false = true) ↔ P) := fun hp => by simp only [Bool.false_eq_true, false_iff]; exact hp
    -- a round inside the square
    have inside : x4 < 10 → x1 < q.order → x4 < q.order → ∀ {k : Option (Out (Int × Int × Int) Bool)}, k = some (.next ((bits .or .i64 x2 (IntKind.i64.wrap (1 * 2 ^ (min (((q.t (x1).toNat (x4).toNat) : Int).toNat) IntKind.i64.bits)))), (bits .or .i64 x3 (IntKind.i64.wrap (1 * 2 ^ (min (((q.t (x4).toNat (x1).toNat) : Int).toNat) IntKind.i64.bits)))), (IntKind.i64.wrap (x4 + 1)))) →
        q.t x1.toNat x4.toNat < q.order → q.t x4.toNat x1.toNat < q.order →
        W k fun o => match o with | .next s' => (0 ≤ s'.2.2 ∧ s'.2.2 ≤ 10 ∧ (∀ y : Nat, (y : Int) < s'.2.2 → q.order ≤ x1 ∨ q.order ≤ y → q.t x1.toNat y = 0) ∧ (x1 < q.order → (∃ m : Nat, s'.1 = m ∧ Met m fun v => ∃ i : Nat, (i : Int) < s'.2.2 ∧ (i : Int) < q.order ∧ q.t x1.toNat i = v)
        ∧ (∃ m : Nat, s'.2.1 = m ∧ Met m fun v => ∃ i : Nat, (i : Int) < s'.2.2 ∧ (i : Int) < q.order ∧ q.t i x1.toNat = v) ∧ ∀ i : Nat, (i : Int) < s'.2.2 → (i : Int) < q.order → q.t x1.toNat i < q.order ∧ q.t i x1.toNat < q.order)) ∧ x4 < s'.2.2 ∧ x4 < 10 | _ => False := by
      intro ha hb1 hc k hk hlt1 hlt2
      subst hk
      refine W.some ?_
      obtain ⟨⟨m, em, hM⟩, ⟨m2, em2, hM2⟩, hi⟩ := g4 hb1
      have v1 := hb x1.toNat x4.toNat (by omega) (by omega)
      have v2 := hb x4.toNat x1.toNat (by omega) (by omega)
      obtain ⟨m', e', hM'⟩ := hM.add (v := q.t x1.toNat x4.toNat) (P' := fun v => ∃ i : Nat, (i : Int) < x4 + 1 ∧ (i : Int) < q.order ∧ q.t x1.toNat i = v) (by omega) (by omega) (fun u => by
        constructor
        · rintro ⟨i, a, b, c⟩
          by_cases e : (i : Int) = x4
          · subst e; right; simp only [Int.toNat_natCast] at c ⊢; omega
          · exact .inl ⟨i, by omega, b, c⟩
        · rintro (⟨i, a, b, c⟩ | e)
          · exact ⟨i, by omega, b, c⟩
          · exact ⟨x4.toNat, by omega, by omega, by omega⟩)
      obtain ⟨m2', e2', hM2'⟩ := hM2.add (v := q.t x4.toNat x1.toNat) (P' := fun v => ∃ i : Nat, (i : Int) < x4 + 1 ∧ (i : Int) < q.order ∧ q.t i x1.toNat = v) (by omega) (by omega) (fun u => by
        constructor
        · rintro ⟨i, a, b, c⟩
          by_cases e : (i : Int) = x4
          · subst e; right; simp only [Int.toNat_natCast] at c ⊢; omega
          · exact .inl ⟨i, by omega, b, c⟩
        · rintro (⟨i, a, b, c⟩ | e)
          · exact ⟨i, by omega, b, c⟩
          · exact ⟨x4.toNat, by omega, by omega, by omega⟩)
      subst em; subst em2
      simp only
      rw [e', e2', w64 (by omega)]
      refine ⟨⟨by omega, by omega, fun y hy ho => g3 y (by omega) (by omega), fun _ => ⟨⟨m', rfl, hM'⟩, ⟨m2', rfl, hM2'⟩, fun i hi' hn => ?_⟩⟩, by omega, ha⟩
      by_cases e : (i : Int) = x4
      · subst e; simp only [Int.toNat_natCast] at hlt1 hlt2; exact ⟨hlt1, hlt2⟩
      · exact hi i (by omega) hn
    have outside : x4 < 10 → (q.order ≤ x1 ∨ q.order ≤ x4) → q.t x1.toNat x4.toNat = 0 → ∀ {k : Option (Out (Int × Int × Int) Bool)}, k = some (.next (x2, x3, (IntKind.i64.wrap (x4 + 1)))) →
        W k fun o => match o with | .next s' => (0 ≤ s'.2.2 ∧ s'.2.2 ≤ 10 ∧ (∀ y : Nat, (y : Int) < s'.2.2 → q.order ≤ x1 ∨ q.order ≤ y → q.t x1.toNat y = 0) ∧ (x1 < q.order → (∃ m : Nat, s'.1 = m ∧ Met m fun v => ∃ i : Nat, (i : Int) < s'.2.2 ∧ (i : Int) < q.order ∧ q.t x1.toNat i = v)
        ∧ (∃ m : Nat, s'.2.1 = m ∧ Met m fun v => ∃ i : Nat, (i : Int) < s'.2.2 ∧ (i : Int) < q.order ∧ q.t i x1.toNat = v) ∧ ∀ i : Nat, (i : Int) < s'.2.2 → (i : Int) < q.order → q.t x1.toNat i < q.order ∧ q.t i x1.toNat < q.order)) ∧ x4 < s'.2.2 ∧ x4 < 10 | _ => False := by
      intro ha ho hz k hk
      subst hk
      refine W.some ?_
      simp only
      rw [w64 (by omega)]
      refine ⟨⟨by omega, by omega, fun y hy ho' => ?_, fun hb1 => ?_⟩, by omega, ha⟩
      · by_cases e : (y : Int) = x4
        · subst e; exact hz
        · exact g3 y (by omega) ho'
      · obtain ⟨⟨m, em, hM⟩, ⟨m2, em2, hM2⟩, hi⟩ := g4 hb1
        refine ⟨⟨m, em, hM.lt, fun v => (hM.bit v).trans ?_⟩, ⟨m2, em2, hM2.lt, fun v => (hM2.bit v).trans ?_⟩, fun i hi' hn => hi i (by omega) hn⟩
        · exact ⟨fun ⟨i, a, b, c⟩ => ⟨i, by omega, b, c⟩, fun ⟨i, a, b, c⟩ => ⟨i, by omega, b, c⟩⟩
        · exact ⟨fun ⟨i, a, b, c⟩ => ⟨i, by omega, b, c⟩, fun ⟨i, a, b, c⟩ => ⟨i, by omega, b, c⟩⟩
    have fit : ∀ {k : Option (Out (Int × Int × Int) Bool)} {Q : Out (Int × Int × Int) Bool → Prop} {P : (Int × Int × Int) → Prop}, W k (fun o => match o with | .next s' => P s' | _ => False) → (∀ s', P s' → Q (.next s')) → W k Q := fun hk hq => hk.mono fun o ho => by
      match o, ho with
      | .next s', ho => exact hq s' ho
    have v1 : x4 < 10 → 0 ≤ q.t x1.toNat x4.toNat ∧ q.t x1.toNat x4.toNat ≤ 255 := fun h => hb x1.toNat x4.toNat (by omega) (by omega)
    have v2 : x4 < 10 → 0 ≤ q.t x4.toNat x1.toNat ∧ q.t x4.toNat x1.toNat ≤ 255 := fun h => hb x4.toNat x1.toNat (by omega) (by omega)
    refine W.condP (fun hx4 => ?_) (fun hx4 => ?_)
    · have v1 := v1 hx4; have v2 := v2 hx4
      have e1 : IntKind.i64.wrap (q.t x1.toNat x4.toNat) = q.t x1.toNat x4.toNat := w64 (by omega)
      have e2 : IntKind.i64.wrap (q.t x4.toNat x1.toNat) = q.t x4.toNat x1.toNat := w64 (by omega)
      refine W.condP (fun ho => W.chk (by omega) (W.chk (by omega) (W.condNe (fun hz => W.some (W.some (W.some (bad fun hq => hz (hq.zero _ _ (by omega) (by omega) (by omega)))))) (fun hz => W.condP (fun hn => by omega) (fun _ => fit (outside hx4 (.inl ho) hz rfl) fun _ h => h)))))
        (fun hx => W.condP (fun ho => W.chk (by omega) (W.chk (by omega) (W.condNe (fun hz => W.some (W.some (W.some (bad fun hq => hz (hq.zero _ _ (by omega) (by omega) (by omega)))))) (fun hz => W.condP (fun _ => W.condP (fun hn => by omega) (fun _ => fit (outside hx4 (.inr ho) hz rfl) fun _ h => h)) (fun hn => by omega)))))
          (fun ho => W.condP (fun _ => W.condP (fun _ => ?_) (fun hn => by omega)) (fun hn => by omega)))
      rw [e1, e2]
      refine W.chk (by omega) (W.chk (by omega) (W.condP (fun hg => W.some (W.some (W.some (bad fun hq => ?_)))) (fun hg => W.chk (by omega) (W.chk (by omega) (W.condP (fun hg' => W.some (W.some (W.some (bad fun hq => ?_)))) (fun hg' => W.chk (by omega) (W.chk (by omega) (W.chk (by omega) (W.chk (by omega) (W.chk (by omega) (W.chk (by omega) (fit (inside hx4 (by omega) (by omega) rfl (by omega) (by omega)) fun _ h => h))))))))))))
      · have := hq.lt (x := x1.toNat) (y := x4.toNat) (by omega) (by omega); omega
      · have := hq.lt (x := x4.toNat) (y := x1.toNat) (by omega) (by omega); omega
    · refine W.some ?_
      simp only [if_true]
      have z : ∀ x y : Nat, (x : Int) < x1 + 1 → y < 10 → q.order ≤ x ∨ q.order ≤ y → q.t x y = 0 := fun x y hx hy ho => by
        by_cases e : (x : Int) = x1
        · subst e; exact g3 y (by omega) ho
        · exact h4 x y (by omega) hy ho
      refine W.condP (fun hn => ?_) (fun hn => ?_)
      · obtain ⟨⟨m, em, hM⟩, ⟨m2, em2, hM2⟩, hi⟩ := g4 hn
        subst em; subst em2
        have f1 := hM.full n1 n10 (fun v ⟨i, a, b, c⟩ => by have := (hi i a b).1; omega)
        have f2 := hM2.full n1 n10 (fun v ⟨i, a, b, c⟩ => by have := (hi i a b).2; omega)
        refine W.chk (by omega) (W.condNe (fun hne => W.some (W.some (bad fun hq => hne (f1.2 fun v hv => ?_)))) (fun he => W.chk (by omega) (W.condNe (fun hne => W.some (W.some (bad fun hq => hne (f2.2 fun v hv => ?_)))) (fun he2 => W.some ?_))))
        · obtain ⟨i, a, c⟩ := ((permP_iff (hrow x1.toNat (by omega)) n10).1 (hq.row _ (by omega))).2 v hv
          exact ⟨i, by omega, a, c⟩
        · obtain ⟨i, a, c⟩ := ((permP_iff (hcol x1.toNat (by omega)) n10).1 (hq.col _ (by omega))).2 v hv
          exact ⟨i, by omega, a, c⟩
        · simp only
          rw [w64 (by omega)]
          refine ⟨⟨by omega, by omega, fun x hx hn' => ?_, z⟩, by omega, by omega⟩
          by_cases e : (x : Int) = x1
          · subst e
            refine ⟨(permP_iff (hrow x hn') n10).2 ⟨fun i hi' => (hi i (by omega) hi').1, fun v hv => ?_⟩, (permP_iff (hcol x hn') n10).2 ⟨fun i hi' => (hi i (by omega) hi').2, fun v hv => ?_⟩⟩
            · obtain ⟨i, a, b, c⟩ := f1.1 he v hv; exact ⟨i, b, c⟩
            · obtain ⟨i, a, b, c⟩ := f2.1 he2 v hv; exact ⟨i, b, c⟩
          · exact h3 x (by omega) hn'
      · refine W.some ?_
        simp only
        rw [w64 (by omega)]
        exact ⟨⟨by omega, by omega, fun x hx hn' => h3 x (by omega) hn', z⟩, by omega, by omega⟩
  · refine W.some ?_
    simp only [if_true]
    refine W.some ?_
    simp only [true_iff]
    exact ⟨n1, n10, fun x hx => (h3 x (by omega) hx).1, fun y hy => (h3 y (by omega) hy).2, fun x y hx hy ho => h4 x y (by omega) hy ho⟩
end Go.Pu

/- Plain laws: groups, direct products of groups. -/
namespace Go.Pu
open Go Go.Abs Go.Lab

structure Grp (q : Sq) : Prop extends Loop q where
  assoc : ∀ x y z : Nat, (x : Int) < q.order → (y : Int) < q.order → (z : Int) < q.order → q.t (q.t x y).toNat z = q.t x (q.t y z).toNat

theorem isUnit_W {q : Sq} (h : Latin q) : W (m_impl_Square_isUnit q 0) fun r => r = true ↔ ∀ x : Nat, (x : Int) < q.order → q.t 0 x = x ∧ q.t x 0 = x := by
  have n1 := h.n1; have n10 := h.n10
  unfold m_impl_Square_isUnit
  refine W.call (elements_W (by omega) (by omega)) fun l hl => ?_
  refine W.upto (fun s => s) q.order (fun s => 0 ≤ s ∧ s ≤ q.order ∧ ∀ x : Nat, (x : Int) < s → q.t 0 x = x ∧ q.t x 0 = x) ⟨by omega, by omega, fun x hx => by omega⟩ ?_
  rintro x1 ⟨h1, h2, h3⟩
  unfold m_impl_Square_isUnit_l0
  have bad : ∀ {P : Prop}, ¬ P → ((false = true) ↔ P) := fun hp => by simp only [Bool.false_eq_true, false_iff]; exact hp
  refine W.condP (fun hx => ?_) (fun hx => ?_)
  · have e := hl.2 x1.toNat (by omega)
    rw [e]
    simp only [Int.toNat_natCast, show (0 : Int).toNat = 0 from rfl]
    refine W.chk (by omega) (W.chk (by omega) (W.chk (by omega) (W.condNe (fun hn => W.some (W.some (bad fun hq => hn ?_))) (fun he => W.chk (by omega) (W.chk (by omega) (W.condNe (fun hn => W.some (W.some (bad fun hq => hn ?_))) (fun he2 => W.some ?_)))))))
    · exact (hq _ (by omega)).1
    · exact (hq _ (by omega)).2
    · simp only
      rw [w64 (by omega)]
      refine ⟨⟨by omega, by omega, fun x hx => ?_⟩, by omega, by omega⟩
      by_cases e : (x : Int) = x1
      · have : x = x1.toNat := by omega
        subst this; exact ⟨he, he2⟩
      · exact h3 x (by omega)
  · refine W.some ?_
    simp only [if_true]
    refine W.some ?_
    simp only [true_iff]
    exact fun x hx => h3 x (by omega)

theorem IsLoop_W {q : Sq} (hb : Byt q.t) : W (m_impl_IsLoop q) fun r => r = true ↔ Loop q := by
  unfold m_impl_IsLoop
  refine W.call (IsSquare_W hb) fun b hbn => W.cond (fun h => ?_) (fun h => W.some ?_)
  · have L := hbn.1 h
    refine W.call (isUnit_W L) fun r hr => W.some ?_
    rw [hr]
    exact ⟨fun x => ⟨L, fun i hi => (x i hi).1, fun i hi => (x i hi).2⟩, fun x i hi => ⟨x.left i hi, x.right i hi⟩⟩
  · simp only [h, Bool.false_eq_true, false_iff] at hbn ⊢
    exact fun x => hbn x.toLatin

theorem isAssociative_W {q : Sq} (h : Latin q) : W (m_impl_Square_isAssociative q) fun r => r = true ↔ ∀ x y z : Nat, (x : Int) < q.order → (y : Int) < q.order → (z : Int) < q.order → q.t (q.t x y).toNat z = q.t x (q.t y z).toNat := by
  have n1 := h.n1; have n10 := h.n10
  unfold m_impl_Square_isAssociative
  have bad : ∀ {P : Prop}, ¬ P → ((false = true) ↔ P) := fun hp => by simp only [Bool.false_eq_true, false_iff]; exact hp
  refine W.call (elements_W (by omega) (by omega)) fun l hl => ?_
  refine W.upto (fun s => s) q.order (fun s => 0 ≤ s ∧ s ≤ q.order ∧ ∀ x y z : Nat, (x : Int) < s → (y : Int) < q.order → (z : Int) < q.order → q.t (q.t x y).toNat z = q.t x (q.t y z).toNat) ⟨by omega, by omega, fun x y z hx => by omega⟩ ?_
  rintro x1 ⟨h1, h2, h3⟩
  unfold m_impl_Square_isAssociative_l0
  refine W.condP (fun hx => W.chk (by omega) ?_) (fun hx => ?_)
  · refine W.call (elements_W (by omega) (by omega)) fun l2 hl2 => ?_
    refine W.upto (fun s => s) q.order (fun s => 0 ≤ s ∧ s ≤ q.order ∧ ∀ y z : Nat, (y : Int) < s → (z : Int) < q.order → q.t (q.t x1.toNat y).toNat z = q.t x1.toNat (q.t y z).toNat) ⟨by omega, by omega, fun y z hy => by omega⟩ ?_
    rintro x2 ⟨g1, g2, g3⟩
    unfold m_impl_Square_isAssociative_l1
    refine W.condP (fun hx2 => W.chk (by omega) ?_) (fun hx2 => ?_)
    · refine W.call (elements_W (by omega) (by omega)) fun l3 hl3 => ?_
      refine W.upto (fun s => s) q.order (fun s => 0 ≤ s ∧ s ≤ q.order ∧ ∀ z : Nat, (z : Int) < s → q.t (q.t x1.toNat x2.toNat).toNat z = q.t x1.toNat (q.t x2.toNat z).toNat) ⟨by omega, by omega, fun z hz => by omega⟩ ?_
      rintro x3 ⟨k1, k2, k3⟩
      unfold m_impl_Square_isAssociative_l2
      refine W.condP (fun hx3 => ?_) (fun hx3 => ?_)
      · have e1 := hl.2 x1.toNat (by omega)
        have e2 := hl2.2 x2.toNat (by omega)
        have e3 := hl3.2 x3.toNat (by omega)
        have a := h.lt (x := x1.toNat) (y := x2.toNat) (by omega) (by omega)
        have b := h.lt (x := x2.toNat) (y := x3.toNat) (by omega) (by omega)
        rw [e1, e2, e3]
        simp only [Int.toNat_natCast]
        refine W.chk (by omega) (W.chk (by omega) (W.chk (by omega) (W.chk (by omega) (W.chk (by omega) (W.chk (by omega) (W.chk (by omega) (W.chk (by omega) (W.chk (by omega) (W.condNe (fun hn => W.some (W.some (W.some (W.some (bad fun hq => hn (hq _ _ _ (by omega) (by omega) (by omega))))))) (fun he => W.some ?_))))))))))
        simp only
        rw [w64 (by omega)]
        refine ⟨⟨by omega, by omega, fun z hz => ?_⟩, by omega, by omega⟩
        by_cases e : (z : Int) = x3
        · have : z = x3.toNat := by omega
          subst this; exact he
        · exact k3 z (by omega)
      · refine W.some ?_
        simp only [if_true]
        refine W.some ?_
        simp only
        rw [w64 (by omega)]
        refine ⟨⟨by omega, by omega, fun y z hy hz => ?_⟩, by omega, by omega⟩
        by_cases e : (y : Int) = x2
        · have : y = x2.toNat := by omega
          subst this; exact k3 z (by omega)
        · exact g3 y z (by omega) hz
    · refine W.some ?_
      simp only [if_true]
      refine W.some ?_
      simp only
      rw [w64 (by omega)]
      refine ⟨⟨by omega, by omega, fun x y z hx hy hz => ?_⟩, by omega, by omega⟩
      by_cases e : (x : Int) = x1
      · have : x = x1.toNat := by omega
        subst this; exact g3 y z (by omega) hz
      · exact h3 x y z (by omega) hy hz
  · refine W.some ?_
    simp only [if_true]
    refine W.some ?_
    simp only [true_iff]
    exact fun x y z hx hy hz => h3 x y z (by omega) hy hz

theorem IsGroup_W {q : Sq} (hb : Byt q.t) : W (m_impl_IsGroup q) fun r => r = true ↔ Grp q := by
  unfold m_impl_IsGroup
  refine W.call (IsLoop_W hb) fun b hbn => W.cond (fun h => ?_) (fun h => W.some ?_)
  · have L := hbn.1 h
    refine W.call (isAssociative_W L.toLatin) fun r hr => W.some ?_
    rw [hr]
    exact ⟨fun x => ⟨L, x⟩, fun x => x.assoc⟩
  · simp only [h, Bool.false_eq_true, false_iff] at hbn ⊢
    exact fun x => hbn x.toLoop

/-! ## Cyclic and elementary groups -/
/-! ## Direct products -/
def DirOf (q r : Sq) (s : Sq × Int) : Prop := (¬ (Latin q ∧ Latin r) ∧ s = (sq0, 1)) ∨ (Latin q ∧ Latin r ∧ q.order * r.order > 10 ∧ s = (sq0, 3)) ∨ (Latin q ∧ Latin r ∧ q.order * r.order ≤ 10 ∧ s = (dirS q r, 0))
theorem DirOf.eq {q r : Sq} {s s' : Sq × Int} (h : DirOf q r s) (h' : DirOf q r s') : s = s' := by
  rcases h with ⟨a, b⟩ | ⟨a, b, c, d⟩ | ⟨a, b, c, d⟩ <;> rcases h' with ⟨a', b'⟩ | ⟨a', b', c', d'⟩ | ⟨a', b', c', d'⟩ <;> first
    | (exfalso; omega)
    | (rw [b, b']; done)
    | (rw [d, d']; done)
    | exact absurd ⟨a', b'⟩ a
    | exact absurd ⟨a, b⟩ a'

theorem eqTb_refl (t : Nat → Nat → Int) : eqTb t t = true := by simp [eqTb, eqPl_refl]
theorem eqSq_refl (q : Sq) : eqSq q q = true := by simp [eqSq, eqTb_refl]
end Go.Pu

/- Plain laws: triples; draws that look for isomorphisms. -/
namespace Go.Pu
open Go Go.Abs Go.Lab

/-! ## How many are not led yet -/
/-- 'm'' has what 'm' has. -/
def MpLe (m m' : Mp) : Prop := ∀ i : Nat, 0 ≤ m.a i → 0 ≤ m'.a i
theorem MpLe.trans {a b c : Mp} (h : MpLe a b) (h' : MpLe b c) : MpLe a c := fun i hi => h' i (h i hi)

end Go.Pu

/- Plain laws: isotopes, triples one after the other and back, loops at elements; the law FnTripleIsotopes. -/
namespace Go.Pu
open Go Go.Abs Go.Lab

/-! ## Isotopes -/
theorem MovedOf.eq {q r r' : Sq} {a b c : Nat → Int} (ha : PermP q.order a) (hb : PermP q.order b) (h : MovedOf q a b c r) (h' : MovedOf q a b c r') : r = r' := by
  have e : ∀ i j, r.t i j = r'.t i j := fun i j => by
    by_cases hi : (i : Int) < q.order
    · by_cases hj : (j : Int) < q.order
      · obtain ⟨x, hx, ex⟩ := ha.onto hi
        obtain ⟨y, hy, ey⟩ := hb.onto hj
        have e1 := h.at_ x y hx hy
        have e2 := h'.at_ x y hx hy
        rw [ex, ey] at e1 e2
        simp only [Int.toNat_natCast] at e1 e2
        rw [e1, e2]
      · rw [h.zero i j (.inr (by omega)), h'.zero i j (.inr (by omega))]
    · rw [h.zero i j (.inl (by omega)), h'.zero i j (.inl (by omega))]
  obtain ⟨o, t⟩ := r
  obtain ⟨o', t'⟩ := r'
  have e1 : o = o' := h.ord.trans h'.ord.symm
  have e2 : t = t' := funext fun i => funext fun j => e i j
  subst e1; subst e2; rfl

/-! ## Triples -/
structure IsT (n : Int) (t : Tr) : Prop where
  a : IsP n t.a
  b : IsP n t.b
  c : IsP n t.c
def thenT (n : Int) (s t : Tr) : Tr := ⟨thenF n s.a t.a, thenF n s.b t.b, thenF n s.c t.c⟩
def ThenTOf (n : Int) (s t : Tr) (r : Tr × Int) : Prop := (IsT n s ∧ IsT n t ∧ r = (thenT n s t, 0)) ∨ (¬ (IsT n s ∧ IsT n t) ∧ r = (tr0, 1))
theorem ThenTOf.eq {n : Int} {s t : Tr} {r r' : Tr × Int} (h : ThenTOf n s t r) (h' : ThenTOf n s t r') : r = r' := by
  rcases h with ⟨a, b, c⟩ | ⟨a, c⟩ <;> rcases h' with ⟨a', b', c'⟩ | ⟨a', c'⟩ <;> first
    | (rw [c, c']; done)
    | exact absurd ⟨a, b⟩ a'
    | exact absurd ⟨a', b'⟩ a
def IsoOf (q : Sq) (t : Tr) (r : Sq × Int) : Prop := (Latin q ∧ IsT q.order t ∧ r.2 = 0 ∧ MovedOf q t.a t.b t.c r.1) ∨ (¬ (Latin q ∧ IsT q.order t) ∧ r = (sq0, 1))
theorem IsoOf.eq {q : Sq} {t : Tr} {r r' : Sq × Int} (h : IsoOf q t r) (h' : IsoOf q t r') : r = r' := by
  rcases h with ⟨a, b, c, d⟩ | ⟨a, c⟩ <;> rcases h' with ⟨a', b', c', d'⟩ | ⟨a', c'⟩
  · have := MovedOf.eq b.a.perm b.b.perm d d'
    obtain ⟨x, y⟩ := r; obtain ⟨x', y'⟩ := r'
    simp only at this c c'; subst this; rw [c, c']
  · exact absurd ⟨a, b⟩ a'
  · exact absurd ⟨a', b'⟩ a
  · rw [c, c']
def AutOf (q : Sq) (t : Tr) (r : Bool × Int) : Prop := (Latin q ∧ IsT q.order t ∧ r.2 = 0 ∧ ∃ s, MovedOf q t.a t.b t.c s ∧ r.1 = eqSq s q) ∨ (¬ (Latin q ∧ IsT q.order t) ∧ r = (false, 1))
theorem AutOf.eq {q : Sq} {t : Tr} {r r' : Bool × Int} (h : AutOf q t r) (h' : AutOf q t r') : r = r' := by
  rcases h with ⟨a, b, c, s, d, e⟩ | ⟨a, c⟩ <;> rcases h' with ⟨a', b', c', s', d', e'⟩ | ⟨a', c'⟩
  · have := MovedOf.eq b.a.perm b.b.perm d d'
    subst this
    obtain ⟨x, y⟩ := r; obtain ⟨x', y'⟩ := r'
    simp only at e e' c c'; rw [e, e', c, c']
  · exact absurd ⟨a, b⟩ a'
  · exact absurd ⟨a', b'⟩ a
  · rw [c, c']
/-! ## Loops at elements -/
/-- the exchange of 0 and e -/
def exch (n e : Int) : Nat → Int := fun i => if (i : Int) = e then 0 else if i = 0 then e else if (i : Int) < n then i else 0
theorem exch_perm {n e : Int} (h0 : 0 ≤ e) (he : e < n) : PermP n (exch n e) := by
  refine ⟨fun i hi => ?_, fun i j hi hj h => ?_⟩
  · unfold exch; split
    · omega
    · split
      · omega
      · first | omega | (rw [if_pos hi]; omega)
  · unfold exch at h
    split at h <;> split at h <;> (try split at h) <;> (try split at h) <;> (try split at h) <;> (try split at h) <;> omega

structure ToLoop (q : Sq) (a b : Nat) (t : Tr) : Prop where
  fa : ∀ x : Nat, (x : Int) < q.order → t.a x = exch q.order (q.t a b) (q.t x b).toNat
  fb : ∀ y : Nat, (y : Int) < q.order → t.b y = exch q.order (q.t a b) (q.t a y).toNat
  fc : ∀ z : Nat, (z : Int) < q.order → t.c z = exch q.order (q.t a b) z

theorem column_W {q : Sq} {y : Int} (h0 : 0 ≤ y) (h1 : y < 10) : W (m_impl_Square_column q y) fun r => ∀ i : Nat, i < 10 → r i = q.t i y.toNat := by
  unfold m_impl_Square_column
  refine W.upto (fun t => t.1) 10 (fun t => 0 ≤ t.1 ∧ t.1 ≤ 10 ∧ ∀ i : Nat, (i : Int) < t.1 → t.2 i = q.t i y.toNat) ⟨by simp, by simp, fun i hi => by simp only at hi; omega⟩ ?_
  rintro ⟨x1, x2⟩ ⟨h2, h3, h4⟩
  simp only at h2 h3 h4
  unfold m_impl_Square_column_l0
  refine W.condP (fun h => W.chk (by omega) (W.chk (by omega) (W.chk (by omega) (W.some ?_)))) (fun h => W.some (W.some fun i hi => h4 i (by omega)))
  simp only
  rw [w64 (by omega)]
  refine ⟨⟨by omega, by omega, fun i hi => ?_⟩, by omega, by omega⟩
  rw [fset_eq]
  split
  · rename_i e; rw [e]
  · exact h4 i (by omega)

theorem ToLoop.perm {q : Sq} (hq : Latin q) {a b : Nat} (ha : (a : Int) < q.order) (hb : (b : Int) < q.order) {t : Tr} (h : ToLoop q a b t) : PermP q.order t.a ∧ PermP q.order t.b ∧ PermP q.order t.c := by
  have e0 := hq.lt ha hb
  have P := exch_perm e0.1 e0.2
  refine ⟨⟨fun x hx => ?_, fun x y hx hy e => ?_⟩, ⟨fun x hx => ?_, fun x y hx hy e => ?_⟩, P.ext h.fc⟩
  · have := hq.lt hx hb
    rw [h.fa x hx]; exact P.lo _ (by omega)
  · have a1 := hq.lt hx hb; have a2 := hq.lt hy hb
    rw [h.fa x hx, h.fa y hy] at e
    have := P.inj _ _ (by omega) (by omega) e
    exact (hq.col b hb).inj x y hx hy (by omega)
  · have := hq.lt ha hx
    rw [h.fb x hx]; exact P.lo _ (by omega)
  · have a1 := hq.lt ha hx; have a2 := hq.lt ha hy
    rw [h.fb x hx, h.fb y hy] at e
    have := P.inj _ _ (by omega) (by omega) e
    exact (hq.row a ha).inj x y hx hy (by omega)
theorem exch_e {n e : Int} : ∀ i : Nat, (i : Int) = e → exch n e i = 0 := fun i h => by unfold exch; rw [if_pos h]

/-- The isotope is a loop. -/
theorem ToLoop.loop {q : Sq} (hq : Latin q) {a b : Nat} (ha : (a : Int) < q.order) (hb : (b : Int) < q.order) {t : Tr} (h : ToLoop q a b t) {r : Sq} (hr : MovedOf q t.a t.b t.c r) : Loop r := by
  have e0 := hq.lt ha hb
  obtain ⟨pa, pb, pc⟩ := h.perm hq ha hb
  have L := hr.latin hq pa pb pc
  have ea : t.a a = 0 := by rw [h.fa a ha]; exact exch_e _ (by omega)
  have eb : t.b b = 0 := by rw [h.fb b hb]; exact exch_e _ (by omega)
  refine ⟨L, fun v hv => ?_, fun v hv => ?_⟩ <;> rw [hr.ord] at hv
  · obtain ⟨y, hy, ey⟩ := pb.onto hv
    have k := hr.at_ a y ha hy
    have := hq.lt ha hy
    rw [ea, ey, h.fc _ (by omega), ← h.fb y hy, ey] at k
    simpa using k
  · obtain ⟨x, hx, ex⟩ := pa.onto hv
    have k := hr.at_ x b hx hb
    have := hq.lt hx hb
    rw [eb, ex, h.fc _ (by omega), ← h.fa x hx, ex] at k
    simpa using k

def LoopAtOf (q : Sq) (a b : Int) (r : Sq × Int) : Prop := (¬ Latin q ∧ r = (sq0, 1)) ∨ (Latin q ∧ ¬ (a < q.order ∧ b < q.order) ∧ r = (sq0, 2)) ∨ (Latin q ∧ a < q.order ∧ b < q.order ∧ r.2 = 0 ∧ ∃ t, ToLoop q a.toNat b.toNat t ∧ MovedOf q t.a t.b t.c r.1)
theorem MovedOf.congr {q r : Sq} {a b c a' b' c' : Nat → Int} (hq : Latin q) (h : MovedOf q a b c r) (ea : ∀ x : Nat, (x : Int) < q.order → a x = a' x) (eb : ∀ x : Nat, (x : Int) < q.order → b x = b' x) (ec : ∀ x : Nat, (x : Int) < q.order → c x = c' x) : MovedOf q a' b' c' r :=
  ⟨h.ord, fun x y hx hy => by have := hq.lt hx hy; rw [← ea x hx, ← eb y hy, ← ec _ (by omega)]; exact h.at_ x y hx hy, h.zero⟩
theorem LoopAtOf.eq {q : Sq} {a b : Int} (ha : 0 ≤ a) (hb : 0 ≤ b) {r r' : Sq × Int} (h : LoopAtOf q a b r) (h' : LoopAtOf q a b r') : r = r' := by
  rcases h with ⟨x, e⟩ | ⟨x, y, e⟩ | ⟨x, y, z, e, t, T, M⟩ <;> rcases h' with ⟨x', e'⟩ | ⟨x', y', e'⟩ | ⟨x', y', z', e', t', T', M'⟩
  · rw [e, e']
  · exact absurd x' x
  · exact absurd x' x
  · exact absurd x x'
  · rw [e, e']
  · exact absurd ⟨y', z'⟩ y
  · exact absurd x x'
  · exact absurd ⟨y, z⟩ y'
  · have P := T'.perm x (by omega) (by omega)
    have := MovedOf.eq P.1 P.2.1 (M.congr x (fun i hi => by rw [T.fa i hi, T'.fa i hi]) (fun i hi => by rw [T.fb i hi, T'.fb i hi]) (fun i hi => by rw [T.fc i hi, T'.fc i hi])) M'
    obtain ⟨u, v⟩ := r; obtain ⟨u', v'⟩ := r'
    simp only at this e e'; subst this; rw [e, e']

theorem has_W {q : Sq} {l : List Int} (hl : l.length ≤ 1000) (hb : ∀ i : Nat, i < l.length → 0 ≤ l.getD i 0 ∧ l.getD i 0 ≤ 255) : W (m_impl_Square_has q l) fun r => r = true ↔ ∀ i : Nat, i < l.length → l.getD i 0 < q.order := by
  unfold m_impl_Square_has
  refine W.upto (fun s => s) l.length (fun s => 0 ≤ s ∧ s ≤ l.length ∧ ∀ i : Nat, (i : Int) < s → l.getD i 0 < q.order) ⟨by omega, by omega, fun i hi => by omega⟩ ?_
  rintro x1 ⟨h1, h2, h3⟩
  unfold m_impl_Square_has_l0
  refine W.condP (fun h => ?_) (fun h => ?_)
  · have := hb x1.toNat (by omega)
    rw [w64 (n := l.getD _ _) (by omega)]
    refine W.chk (by omega) (W.condP (fun hg => W.some (W.some ?_)) (fun hg => W.some ?_))
    · simp only [Bool.false_eq_true, false_iff]
      exact fun x => by have := x x1.toNat (by omega); omega
    · simp only
      rw [w64 (by omega)]
      refine ⟨⟨by omega, by omega, fun i hi => ?_⟩, by omega, by omega⟩
      by_cases e : (i : Int) = x1
      · have : i = x1.toNat := by omega
        subst this; omega
      · exact h3 i (by omega)
  · refine W.some ?_
    simp only [if_true]
    refine W.some ?_
    simp only [true_iff]
    exact fun i hi => h3 i (by omega)

theorem checked2_W {q : Sq} (hq : Byt q.t) {a b : Int} (ha : 0 ≤ a ∧ a ≤ 255) (hb : 0 ≤ b ∧ b ≤ 255) : W (m_impl_checked q [a, b]) fun r => (¬ Latin q ∧ r = 1) ∨ (Latin q ∧ ¬ (a < q.order ∧ b < q.order) ∧ r = 2) ∨ (Latin q ∧ a < q.order ∧ b < q.order ∧ r = 0) := by
  unfold m_impl_checked
  refine W.call (IsSquare_W hq) fun b1 h1 => W.condNot (fun e => W.some (.inl ⟨fun x => ne_true_of_false e (h1.2 x), rfl⟩)) (fun e1 => ?_)
  refine W.call (has_W (by simp) (fun i hi => ?_)) fun b2 h2 => W.condNot (fun e => W.some (.inr (.inl ⟨h1.1 e1, fun x => ne_true_of_false e (h2.2 fun i hi => ?_), rfl⟩))) (fun e2 => W.some (.inr (.inr ⟨h1.1 e1, (h2.1 e2) 0 (by simp), (h2.1 e2) 1 (by simp), rfl⟩)))
  · match i, hi with
    | 0, _ => exact ha
    | 1, _ => exact hb
    | i + 2, hi => simp at hi; omega
  · match i, hi with
    | 0, _ => exact x.1
    | 1, _ => exact x.2
    | i + 2, hi => simp at hi; omega

/-! ## Draws -/
section
variable {l : List Int} (hl : Code l)
include hl
end

/-! ## There and back -/
theorem eqTb_iff {s t : Nat → Nat → Int} : eqTb s t = true ↔ ∀ i j : Nat, i < 10 → j < 10 → s i j = t i j := by
  unfold eqTb
  simp only [List.all_eq_true, List.mem_range, eqPl_iff]
  exact ⟨fun h i j hi hj => h i hi j hj, fun h i hi j hj => h i j hi hj⟩
theorem eqSq_iff {p q : Sq} : eqSq p q = true ↔ p.order = q.order ∧ ∀ i j : Nat, i < 10 → j < 10 → p.t i j = q.t i j := by
  unfold eqSq
  rw [Bool.and_eq_true, eqTb_iff, beq_iff_eq]

end Go.Pu

/- Plain laws: sums modulo a prime, their products and augmentations; the law FnSums. -/
namespace Go.Pu
open Go Go.Abs Go.Lab

theorem bad {P : Prop} (h : ¬ P) : (false = true) ↔ P := by simp only [Bool.false_eq_true, false_iff]; exact h

/-! ## Sums of numbers -/
def sumN (f : Nat → Int) : Nat → Int
  | 0 => 0
  | n + 1 => sumN f n + f n
/-! ## Sums -/
def Pr (p : Int) : Prop := p = 2 ∨ p = 3 ∨ p = 5 ∨ p = 7
theorem Pr.le {p : Int} (h : Pr p) : 2 ≤ p ∧ p ≤ 7 := by unfold Pr at h; omega
structure SumP (n p : Int) (a : List Int) : Prop where
  len : (a.length : Int) = n
  at_ : ∀ i : Nat, (i : Int) < n → 0 ≤ a.getD i 0 ∧ a.getD i 0 ≤ p - 1

theorem l01Loop_W {q : Sq} (hb : Byt q.t) : W (m_spec_l01Loop q) fun r => r = true ↔ Loop q := by
  unfold m_spec_l01Loop
  refine W.call (l01Is_W hb) fun b h1 => W.condNot (fun e => W.some (bad fun H => ne_true_of_false e (h1.2 H.toLatin))) (fun e => ?_)
  have L := h1.1 e
  have n1 := L.n1; have n10 := L.n10
  refine W.upto (fun s => s) q.order (fun s => 0 ≤ s ∧ s ≤ q.order ∧ ∀ x : Nat, (x : Int) < s → q.t 0 x = x ∧ q.t x 0 = x) ⟨by omega, by omega, fun x hx => by omega⟩ ?_
  rintro x ⟨g1, g2, g3⟩
  unfold m_spec_l01Loop_l0
  refine W.condP (fun h => ?_) (fun h => W.some ?_)
  · rw [w8 (n := x) (by omega)]
    refine W.chk (by omega) (W.condNe (fun hn => W.some (W.some (bad fun H => hn ?_))) (fun he => W.chk (by omega) (W.condNe (fun hn => W.some (W.some (bad fun H => hn ?_))) (fun he2 => W.some ?_))))
    · have := H.left x.toNat (by omega); omega
    · have := H.right x.toNat (by omega); omega
    · simp only
      rw [w64 (by omega)]
      refine ⟨⟨by omega, by omega, fun i hi => ?_⟩, by omega, by omega⟩
      by_cases e' : (i : Int) = x
      · have : i = x.toNat := by omega
        subst this; omega
      · exact g3 i (by omega)
  · simp only [if_true]
    refine W.some ?_
    simp only [true_iff]
    exact ⟨L, fun i hi => (g3 i (by omega)).1, fun i hi => (g3 i (by omega)).2⟩

/-- the code of a loop, a number and lists -/
def CodeOf (q : Sq) (p : Int) (ls : List (List Int)) (r : Int) : Prop :=
  (¬ Loop q ∧ r = 1) ∨ (Loop q ∧ ¬ (Pr p ∧ ∀ i : Nat, i < ls.length → SumP q.order p (ls.getD i [])) ∧ r = 2) ∨ (Loop q ∧ Pr p ∧ (∀ i : Nat, i < ls.length → SumP q.order p (ls.getD i [])) ∧ r = 0)
theorem CodeOf.eq {q : Sq} {p : Int} {ls : List (List Int)} {r r' : Int} (h : CodeOf q p ls r) (h' : CodeOf q p ls r') : r = r' := by
  rcases h with ⟨a, e⟩ | ⟨a, b, e⟩ | ⟨a, b, c, e⟩ <;> rcases h' with ⟨a', e'⟩ | ⟨a', b', e'⟩ | ⟨a', b', c', e'⟩ <;> first
    | (rw [e, e']; done)
    | exact absurd a a'
    | exact absurd a' a
    | exact absurd ⟨b, c⟩ b'
    | exact absurd ⟨b', c'⟩ b
/-! ## Products -/
/-- the list of a function's values -/
def tabL (n : Int) (f : Nat → Int) : List Int := (List.range n.toNat).map f
/-- what a row gives to z -/
def rowG (q : Sq) (a b : Nat → Int) (z x : Nat) (m : Nat) : Int := sumN (fun y => if (q.t x y).toNat = z then a x * b y else 0) m
def conv (q : Sq) (p : Int) (a b : Nat → Int) (z : Nat) : Int := sumN (fun x => rowG q a b z x q.order.toNat) q.order.toNat % p
def fn (l : List Int) : Nat → Int := fun i => l.getD i 0
def timesL (q : Sq) (p : Int) (a b : List Int) : List Int := tabL q.order (conv q p (fn a) (fn b))

def MulOf (q : Sq) (p : Int) (a b : List Int) (r : List Int × Int) : Prop := (∃ c, CodeOf q p [a, b] c ∧ c ≠ 0 ∧ r = ([], c)) ∨ (CodeOf q p [a, b] 0 ∧ r = (timesL q p a b, 0))
theorem MulOf.eq {q : Sq} {p : Int} {a b : List Int} {r r' : List Int × Int} (h : MulOf q p a b r) (h' : MulOf q p a b r') : r = r' := by
  rcases h with ⟨c, x, y, e⟩ | ⟨x, e⟩ <;> rcases h' with ⟨c', x', y', e'⟩ | ⟨x', e'⟩
  · rw [e, e', x.eq x']
  · exact absurd (x.eq x') y
  · exact absurd (x'.eq x) y'
  · rw [e, e']
section
variable {q : Sq} {p : Int} {a b : List Int} (hq : Byt q.t) (hp : -1000 ≤ p ∧ p ≤ 1000) (ha : a.length ≤ 1000000) (hb : b.length ≤ 1000000)
include hq hp ha hb
/-! ## Sums of sums -/
end
def addL (n p : Int) (a b : List Int) : List Int := tabL n fun i => (a.getD i 0 + b.getD i 0) % p
def AddOf (q : Sq) (p : Int) (a b : List Int) (r : List Int × Int) : Prop := (∃ c, CodeOf q p [a, b] c ∧ c ≠ 0 ∧ r = ([], c)) ∨ (CodeOf q p [a, b] 0 ∧ r = (addL q.order p a b, 0))
theorem AddOf.eq {q : Sq} {p : Int} {a b : List Int} {r r' : List Int × Int} (h : AddOf q p a b r) (h' : AddOf q p a b r') : r = r' := by
  rcases h with ⟨c, x, y, e⟩ | ⟨x, e⟩ <;> rcases h' with ⟨c', x', y', e'⟩ | ⟨x', e'⟩
  · rw [e, e', x.eq x']
  · exact absurd (x.eq x') y
  · exact absurd (x'.eq x) y'
  · rw [e, e']
section
variable {q : Sq} {p : Int} {a b : List Int} (hq : Byt q.t) (hp : -1000 ≤ p ∧ p ≤ 1000) (ha : a.length ≤ 1000000) (hb : b.length ≤ 1000000)
include hq hp ha hb
end

/-! ## Augmentations -/
def augL (p : Int) (a : List Int) : Int := sumN (fn a) a.length % p
def AugOf (q : Sq) (p : Int) (a : List Int) (r : Int × Int) : Prop := (∃ c, CodeOf q p [a] c ∧ c ≠ 0 ∧ r = (0, c)) ∨ (CodeOf q p [a] 0 ∧ r = (augL p a, 0))
theorem AugOf.eq {q : Sq} {p : Int} {a : List Int} {r r' : Int × Int} (h : AugOf q p a r) (h' : AugOf q p a r') : r = r' := by
  rcases h with ⟨c, x, y, e⟩ | ⟨x, e⟩ <;> rcases h' with ⟨c', x', y', e'⟩ | ⟨x', e'⟩
  · rw [e, e', x.eq x']
  · exact absurd (x.eq x') y
  · exact absurd (x'.eq x) y'
  · rw [e, e']
section
variable {q : Sq} {p : Int} {a : List Int} (hq : Byt q.t) (hp : -1000 ≤ p ∧ p ≤ 1000) (ha : a.length ≤ 1000000)
include hq hp ha
end
end Go.Pu

/- Plain laws: products, quotients, row and column maps, opposites. -/
namespace Go.Pu
open Go Go.Abs Go.Lab

/-! ## Groups, as the reference tells them -/
theorem l01Group_W {q : Sq} (h : Latin q) : W (m_spec_l01Group q) fun r => r = true ↔ ∀ x y z : Nat, (x : Int) < q.order → (y : Int) < q.order → (z : Int) < q.order → q.t (q.t x y).toNat z = q.t x (q.t y z).toNat := by
  have n1 := h.n1; have n10 := h.n10
  unfold m_spec_l01Group
  refine W.upto (fun s => s) q.order (fun s => 0 ≤ s ∧ s ≤ q.order ∧ ∀ x y z : Nat, (x : Int) < s → (y : Int) < q.order → (z : Int) < q.order → q.t (q.t x y).toNat z = q.t x (q.t y z).toNat) ⟨by omega, by omega, fun x y z hx => by omega⟩ ?_
  rintro x ⟨g1, g2, g3⟩
  unfold m_spec_l01Group_l0
  refine W.condP (fun hx => ?_) (fun hx => W.some ?_)
  · refine W.upto (fun s => s) q.order (fun s => 0 ≤ s ∧ s ≤ q.order ∧ ∀ y z : Nat, (y : Int) < s → (z : Int) < q.order → q.t (q.t x.toNat y).toNat z = q.t x.toNat (q.t y z).toNat) ⟨by omega, by omega, fun y z hy => by omega⟩ ?_
    rintro y ⟨a1, a2, a3⟩
    unfold m_spec_l01Group_l1
    refine W.condP (fun hy => ?_) (fun hy => W.some ?_)
    · refine W.upto (fun s => s) q.order (fun s => 0 ≤ s ∧ s ≤ q.order ∧ ∀ z : Nat, (z : Int) < s → q.t (q.t x.toNat y.toNat).toNat z = q.t x.toNat (q.t y.toNat z).toNat) ⟨by omega, by omega, fun z hz => by omega⟩ ?_
      rintro z ⟨b1, b2, b3⟩
      unfold m_spec_l01Group_l2
      refine W.condP (fun hz => ?_) (fun hz => W.some ?_)
      · have e1 := h.lt (x := x.toNat) (y := y.toNat) (by omega) (by omega)
        have e2 := h.lt (x := y.toNat) (y := z.toNat) (by omega) (by omega)
        refine W.chk (by omega) (W.chk (by omega) (W.chk (by omega) (W.chk (by omega) (W.chk (by omega) (W.chk (by omega) (W.chk (by omega) (W.chk (by omega) (W.condNe (fun hn => W.some (W.some (W.some (W.some (bad fun H => hn (H _ _ _ (by omega) (by omega) (by omega))))))) (fun he => W.some ?_)))))))))
        simp only
        rw [w64 (by omega)]
        refine ⟨⟨by omega, by omega, fun k hk => ?_⟩, by omega, by omega⟩
        by_cases e' : (k : Int) = z
        · have : k = z.toNat := by omega
          subst this; exact he
        · exact b3 k (by omega)
      · simp only [if_true]
        refine W.some ?_
        simp only
        rw [w64 (by omega)]
        refine ⟨⟨by omega, by omega, fun j k hj hk => ?_⟩, by omega, by omega⟩
        by_cases e' : (j : Int) = y
        · have : j = y.toNat := by omega
          subst this; exact b3 k (by omega)
        · exact a3 j k (by omega) hk
    · simp only [if_true]
      refine W.some ?_
      simp only
      rw [w64 (by omega)]
      refine ⟨⟨by omega, by omega, fun i j k hi hj hk => ?_⟩, by omega, by omega⟩
      by_cases e' : (i : Int) = x
      · have : i = x.toNat := by omega
        subst this; exact a3 j k (by omega) hk
      · exact g3 i j k (by omega) hj hk
  · simp only [if_true]
    refine W.some ?_
    simp only [true_iff]
    exact fun i j k hi hj hk => g3 i j k (by omega) hj hk

theorem spec_IsGroup_W {q : Sq} (hb : Byt q.t) : W (m_spec_IsGroup q) fun r => r = true ↔ Grp q := by
  unfold m_spec_IsGroup
  refine W.call (l01Loop_W hb) fun b hb' => W.cond (fun e => W.call (l01Group_W (hb'.1 e).toLatin) fun r hr => W.some ?_) (fun e => W.some (bad fun H => ne_true_of_false e (hb'.2 H.toLoop)))
  rw [hr]
  exact ⟨fun x => ⟨hb'.1 e, x⟩, fun x => x.assoc⟩
theorem spec_IsLoop_W {q : Sq} (hb : Byt q.t) : W (m_spec_IsLoop q) fun r => r = true ↔ Loop q := by
  unfold m_spec_IsLoop
  exact W.call (l01Loop_W hb) fun b hb' => W.some hb'
theorem spec_IsSquare_W {q : Sq} (hb : Byt q.t) : W (m_spec_IsSquare q) fun r => r = true ↔ Latin q := by
  unfold m_spec_IsSquare
  exact W.call (l01Is_W hb) fun b hb' => W.some hb'
theorem same_bool {a b : Bool} {P : Prop} (h : a = true ↔ P) (h' : b = true ↔ P) : a = b := by
  cases a <;> cases b <;> simp_all

/-! ## The code of a square and two elements -/
def TwoOf (q : Sq) (a b : Int) (r : Int) : Prop := (¬ Latin q ∧ r = 1) ∨ (Latin q ∧ ¬ (a < q.order ∧ b < q.order) ∧ r = 2) ∨ (Latin q ∧ a < q.order ∧ b < q.order ∧ r = 0)
theorem l01Two_W {q : Sq} (hq : Byt q.t) {a b : Int} (ha : 0 ≤ a ∧ a ≤ 255) (hb : 0 ≤ b ∧ b ≤ 255) : W (m_spec_l01Two q a b) (TwoOf q a b) := by
  unfold m_spec_l01Two
  rw [w64 (n := a) (by omega), w64 (n := b) (by omega)]
  exact W.call (l01Is_W hq) fun b1 h1 => W.condNot (fun e => W.some (.inl ⟨fun x => ne_true_of_false e (h1.2 x), rfl⟩)) (fun e1 => W.condP (fun h => W.some (.inr (.inl ⟨h1.1 e1, by omega, rfl⟩))) (fun h => W.condP (fun h' => W.some (.inr (.inl ⟨h1.1 e1, by omega, rfl⟩))) (fun h' => W.some (.inr (.inr ⟨h1.1 e1, by omega, by omega, rfl⟩)))))

/-- what a function of a square and two elements returns: a code, or what P says -/
def CdOf (q : Sq) (a b : Int) (P : Int → Prop) (r : Int × Int) : Prop := (¬ Latin q ∧ r = (0, 1)) ∨ (Latin q ∧ ¬ (a < q.order ∧ b < q.order) ∧ r = (0, 2)) ∨ (Latin q ∧ a < q.order ∧ b < q.order ∧ r.2 = 0 ∧ P r.1)
theorem CdOf.eq {q : Sq} {a b : Int} {P : Int → Prop} {r r' : Int × Int} (h : CdOf q a b P r) (h' : CdOf q a b P r') (u : Latin q → a < q.order → b < q.order → ∀ x y, P x → P y → x = y) : r = r' := by
  rcases h with ⟨x, e⟩ | ⟨x, y, e⟩ | ⟨x, y, z, e, p⟩ <;> rcases h' with ⟨x', e'⟩ | ⟨x', y', e'⟩ | ⟨x', y', z', e', p'⟩
  · rw [e, e']
  · exact absurd x' x
  · exact absurd x' x
  · exact absurd x x'
  · rw [e, e']
  · exact absurd ⟨y', z'⟩ y
  · exact absurd x x'
  · exact absurd ⟨y, z⟩ y'
  · exact Prod.ext (u x y z _ _ p p') (by rw [e, e'])
theorem W.code {q : Sq} {a b : Int} {P : Int → Prop} {m : Option Int} {k : Option (Int × Int)} (h : W m (TwoOf q a b)) (hk : Latin q → a < q.order → b < q.order → W k fun r => r.2 = 0 ∧ P r.1) :
    W (m.bind fun r1 => _root_.cond (r1 != 0) (Option.some (0, r1)) k) (CdOf q a b P) := by
  refine W.call h fun r hr => W.condNe (fun e => ?_) (fun e => ?_)
  · rcases hr with ⟨x, y⟩ | ⟨x, y, z⟩ | ⟨x, y, z, w⟩
    · exact W.some (.inl ⟨x, by rw [y]⟩)
    · exact W.some (.inr (.inl ⟨x, y, by rw [z]⟩))
    · exact absurd w e
  · rcases hr with ⟨x, y⟩ | ⟨x, y, z⟩ | ⟨x, y, z, w⟩
    · rw [y] at e; exact absurd e (by decide)
    · rw [z] at e; exact absurd e (by decide)
    · exact (hk x y z).mono fun r h => .inr (.inr ⟨x, y, z, h⟩)

def ProdP (q : Sq) (a b : Int) (r : Int) : Prop := r = q.t a.toNat b.toNat
def LeftP (q : Sq) (a c : Int) (r : Int) : Prop := 0 ≤ r ∧ r < q.order ∧ q.t a.toNat r.toNat = c
def RightP (q : Sq) (c b : Int) (r : Int) : Prop := 0 ≤ r ∧ r < q.order ∧ q.t r.toNat b.toNat = c
section
variable {q : Sq} (hq : Byt q.t) {a b : Int} (ha : 0 ≤ a ∧ a ≤ 255) (hb : 0 ≤ b ∧ b ≤ 255)
include hq ha hb
theorem ProductIn_W : W (m_impl_ProductIn q a b) (CdOf q a b (ProdP q a b)) := by
  unfold m_impl_ProductIn
  exact W.code (checked2_W hq ha hb) fun L h1 h2 => by have := L.n10; exact W.chk (by omega) (W.chk (by omega) (W.some ⟨rfl, rfl⟩))
theorem spec_ProductIn_W : W (m_spec_ProductIn q a b) (CdOf q a b (ProdP q a b)) := by
  unfold m_spec_ProductIn
  exact W.code (l01Two_W hq ha hb) fun L h1 h2 => by have := L.n10; exact W.chk (by omega) (W.chk (by omega) (W.some ⟨rfl, rfl⟩))
end
section
variable {q : Sq} (L : Latin q) {a c : Int} (ha : 0 ≤ a) (ha' : a < q.order) (hc : 0 ≤ c) (hc' : c < q.order)
include L ha ha' hc hc'
theorem left_W : W (m_impl_Square_left q a c) (LeftP q a c) := by
  have n1 := L.n1; have n10 := L.n10
  obtain ⟨y, hy, ey⟩ := (L.row a.toNat (by omega)).onto (v := c.toNat) (by omega)
  unfold m_impl_Square_left
  refine W.upto (fun s => s) y (fun s => 0 ≤ s ∧ s ≤ y) ⟨by omega, by omega⟩ ?_
  rintro s ⟨g1, g2⟩
  unfold m_impl_Square_left_l0
  refine W.chk (by omega) (W.chk (by omega) (W.condNe (fun hn => W.some ?_) (fun he => W.some (W.some ⟨g1, by omega, he⟩))))
  have : s ≠ y := fun e => hn (by rw [e, Int.toNat_natCast, ey]; omega)
  simp only
  rw [w8 (by omega)]
  exact ⟨⟨by omega, by omega⟩, by omega, by omega⟩
theorem right_W : W (m_impl_Square_right q c a) (RightP q c a) := by
  have n1 := L.n1; have n10 := L.n10
  obtain ⟨y, hy, ey⟩ := (L.col a.toNat (by omega)).onto (v := c.toNat) (by omega)
  unfold m_impl_Square_right
  refine W.upto (fun s => s) y (fun s => 0 ≤ s ∧ s ≤ y) ⟨by omega, by omega⟩ ?_
  rintro s ⟨g1, g2⟩
  unfold m_impl_Square_right_l0
  refine W.chk (by omega) (W.chk (by omega) (W.condNe (fun hn => W.some ?_) (fun he => W.some (W.some ⟨g1, by omega, he⟩))))
  have : s ≠ y := fun e => hn (by rw [e, Int.toNat_natCast]; have : q.t y a.toNat = c.toNat := ey; rw [this]; omega)
  simp only
  rw [w8 (by omega)]
  exact ⟨⟨by omega, by omega⟩, by omega, by omega⟩
end
theorem left_same : m_impl_Square_left = m_spec_l01Left := rfl
theorem right_same : m_impl_Square_right = m_spec_l01Right := rfl
section
variable {q : Sq} (hq : Byt q.t) {a b : Int} (ha : 0 ≤ a ∧ a ≤ 255) (hb : 0 ≤ b ∧ b ≤ 255)
include hq ha hb
theorem LeftQuotient_W : W (m_impl_LeftQuotient q a b) (CdOf q a b (LeftP q a b)) := by
  unfold m_impl_LeftQuotient
  exact W.code (checked2_W hq ha hb) fun L h1 h2 => W.call (left_W L ha.1 h1 hb.1 h2) fun r hr => W.some ⟨rfl, hr⟩
theorem spec_LeftQuotient_W : W (m_spec_LeftQuotient q a b) (CdOf q a b (LeftP q a b)) := by
  unfold m_spec_LeftQuotient
  rw [← left_same]
  exact W.code (l01Two_W hq ha hb) fun L h1 h2 => W.call (left_W L ha.1 h1 hb.1 h2) fun r hr => W.some ⟨rfl, hr⟩
theorem RightQuotient_W : W (m_impl_RightQuotient q a b) (CdOf q a b (RightP q a b)) := by
  unfold m_impl_RightQuotient
  exact W.code (checked2_W hq ha hb) fun L h1 h2 => W.call (right_W L hb.1 h2 ha.1 h1) fun r hr => W.some ⟨rfl, hr⟩
theorem spec_RightQuotient_W : W (m_spec_RightQuotient q a b) (CdOf q a b (RightP q a b)) := by
  unfold m_spec_RightQuotient
  rw [← right_same]
  exact W.code (l01Two_W hq ha hb) fun L h1 h2 => W.call (right_W L hb.1 h2 ha.1 h1) fun r hr => W.some ⟨rfl, hr⟩
end
theorem LeftP.uniq {q : Sq} (L : Latin q) {a b : Int} (ha : 0 ≤ a) (h : a < q.order) {x y : Int} (p : LeftP q a b x) (p' : LeftP q a b y) : x = y := by
  have := (L.row a.toNat (by omega)).inj x.toNat y.toNat (by have := p.2.1; have := p.1; omega) (by have := p'.2.1; have := p'.1; omega) (by rw [p.2.2, p'.2.2])
  have := p.1; have := p'.1; omega
theorem RightP.uniq {q : Sq} (L : Latin q) {a b : Int} (hb : 0 ≤ b) (h : b < q.order) {x y : Int} (p : RightP q a b x) (p' : RightP q a b y) : x = y := by
  have := (L.col b.toNat (by omega)).inj x.toNat y.toNat (by have := p.2.1; have := p.1; omega) (by have := p'.2.1; have := p'.1; omega) (by show q.t _ _ = q.t _ _; rw [p.2.2, p'.2.2])
  have := p.1; have := p'.1; omega

/-! ## Row and column maps -/
theorem checked1_W {q : Sq} (L : Latin q) {a : Int} (ha : 0 ≤ a) (h : a < q.order) : W (m_impl_checked q [a]) fun r => r = 0 := by
  have n10 := L.n10
  unfold m_impl_checked
  refine W.call (IsSquare_W L.byt) fun b1 h1 => W.condNot (fun e => absurd (h1.2 L) (ne_true_of_false e)) (fun e1 => ?_)
  have one : ∀ i : Nat, i < [a].length → [a].getD i 0 = a := fun i hi => by
    match i, hi with
    | 0, _ => rfl
    | i + 1, hi => simp at hi
  refine W.call (has_W (by simp) (fun i hi => by rw [one i hi]; omega)) fun b2 h2 => W.condNot (fun e => absurd (h2.2 fun i hi => by rw [one i hi]; exact h) (ne_true_of_false e)) (fun e2 => W.some rfl)
theorem RowMap_W {q : Sq} (L : Latin q) {a : Int} (ha : 0 ≤ a) (h : a < q.order) : W (m_impl_RowMap q a) fun r => r = (q.t a.toNat, 0) := by
  have n10 := L.n10
  unfold m_impl_RowMap m_impl_Square_row
  refine W.call (checked1_W L ha h) fun r hr => W.condNe (fun e => absurd hr e) (fun e => ?_)
  exact W.call (R := fun r => r = q.t a.toNat) (W.chk (by omega) (W.some rfl)) fun r h => W.some (by rw [h])
theorem ColumnMap_W {q : Sq} (L : Latin q) {a : Int} (ha : 0 ≤ a) (h : a < q.order) : W (m_impl_ColumnMap q a) fun r => r.2 = 0 ∧ ∀ i : Nat, i < 10 → r.1 i = q.t i a.toNat := by
  have n10 := L.n10
  unfold m_impl_ColumnMap
  refine W.call (checked1_W L ha h) fun r hr => W.condNe (fun e => absurd hr e) (fun e => ?_)
  exact W.call (column_W ha (by omega)) fun r h => W.some ⟨rfl, h⟩

/-! ## Opposites -/
def oppS (q : Sq) : Sq := ⟨q.order, tabF q.order fun x y => q.t y x⟩
theorem oppS_latin {q : Sq} (h : Latin q) : Latin (oppS q) := by
  refine ⟨h.n1, h.n10, fun x hx => ?_, fun y hy => ?_, fun x y _ _ hn => tabF_zero (g := fun x y => q.t y x) hn⟩
  · exact (h.col x hx).ext fun i hi => tabF_lt (g := fun x y => q.t y x) hx hi
  · exact (h.row y hy).ext fun i hi => tabF_lt (g := fun x y => q.t y x) hi hy
theorem OppositeOf_W {q : Sq} (h : Latin q) : W (m_impl_OppositeOf q) fun r => r = (oppS q, 0) := by
  have n1 := h.n1; have n10 := h.n10
  unfold m_impl_OppositeOf m_impl_Square_opposite
  refine W.call (IsSquare_W h.byt) fun b hb => W.condNot (fun e => absurd (hb.2 h) (ne_true_of_false e)) (fun e => ?_)
  refine W.call (R := fun r => r = oppS q) (W.call (made_W (g := fun x y => q.t y x) (by omega) n10 fun x y hx hy => ?_) fun r hr => W.some hr) fun r hr => W.some (by rw [hr])
  unfold m_impl_Square_opposite_1
  exact W.chk (by omega) (W.chk (by omega) (W.some (by simp only [Int.toNat_natCast])))
theorem opp_opp {q : Sq} (h : Latin q) : eqSq (oppS (oppS q)) q = true := by
  refine eqSq_iff.2 ⟨rfl, fun i j hi hj => ?_⟩
  show tabF q.order (fun x y => tabF q.order (fun x y => q.t y x) y x) i j = _
  by_cases e : (i : Int) < q.order ∧ (j : Int) < q.order
  · rw [tabF_lt e.1 e.2, tabF_lt e.2 e.1]
  · rw [tabF_zero (by omega), h.zero i j hi hj (by omega)]

/-! ## Draws -/
section
variable {l : List Int} (hl : Code l)
include hl
def Two8 (r : Sq × Int × Int) : Prop := Byt r.1.t ∧ (0 ≤ r.2.1 ∧ r.2.1 ≤ 255) ∧ 0 ≤ r.2.2 ∧ r.2.2 ≤ 255
theorem l01Pair_W : W (m_spec_l01Pair l) Two8 := by
  unfold m_spec_l01Pair
  refine W.call (l01From_W hl) fun s hs => W.call (l01Spoil_W hl hs) fun r2 k2 => W.call (l01Next_W hl k2.2 _ (by omega)) fun r3 k3 => ?_
  have a := k3.2.1 (by omega)
  have o0 := k2.1.o0; have o1 := k2.1.o1
  have e1 : r3.1.tdiv 19 ≤ 1 ∧ 0 ≤ r3.1.tdiv 19 := by rw [Int.tdiv_eq_ediv_of_nonneg a.1]; omega
  rw [w64 (n := r3.1.tdiv 19) (by omega), w64 (by omega)]
  refine W.call (l01Next_W hl k3.1 _ (by omega)) fun r4 k4 => W.call (l01Next_W hl k4.1 _ (by omega)) fun r5 k5 => ?_
  have b := k5.2.1 (by omega)
  have e2 : r5.1.tdiv 19 ≤ 1 ∧ 0 ≤ r5.1.tdiv 19 := by rw [Int.tdiv_eq_ediv_of_nonneg b.1]; omega
  rw [w64 (n := r5.1.tdiv 19) (by omega), w64 (by omega)]
  exact W.call (l01Next_W hl k5.1 _ (by omega)) fun r6 k6 => W.some ⟨k2.1.byt, w8_lt _, w8_lt _⟩
theorem DrawProductIn_W : W (m_spec_DrawProductIn l) Two8 := by
  unfold m_spec_DrawProductIn
  exact W.call (l01Pair_W hl) fun r h => W.some h
theorem DrawLeftQuotient_W : W (m_spec_DrawLeftQuotient l) Two8 := by
  unfold m_spec_DrawLeftQuotient
  exact W.call (l01Pair_W hl) fun r h => W.some h
end
end Go.Pu

/- Plain laws: squares as lists of rows. -/
namespace Go.Pu
open Go Go.Abs Go.Lab

/-- 'l' holds the rows of a square. -/
structure RowsOf (q : Sq) (l : List (List Int)) : Prop where
  len : (l.length : Int) = q.order
  row : ∀ x : Nat, (x : Int) < q.order → ((l.getD x []).length : Int) = q.order
  at_ : ∀ x y : Nat, (x : Int) < q.order → (y : Int) < q.order → (l.getD x []).getD y 0 = q.t x y

theorem getD_snoc {α : Type} (l : List α) (a d : α) (i : Nat) : (l ++ [a]).getD i d = if i < l.length then l.getD i d else if i = l.length then a else d := by
  rw [List.getD_eq_getElem?_getD, List.getElem?_append]
  split
  · rw [← List.getD_eq_getElem?_getD]
  · split
    · rename_i h e; subst e; simp
    · rename_i h e
      rw [List.getElem?_eq_none (by simp; omega)]; rfl

/-- A loop that puts numbers behind a list. -/
theorem W.snoc {α ρ : Type} {Q : α → Prop} {n : Int} (h0n : 0 ≤ n) (hn : n ≤ 1000) {g : Nat → Int} {p : List Int} (hp : p.length ≤ 1000) {step : List Int × Int → Option (Out (List Int × Int) ρ)}
    (h1 : ∀ r y, 0 ≤ y → y < n → r.length ≤ 2000 → W (step (r, y)) fun o => o = Out.next (r ++ [g y.toNat], y + 1))
    (h1e : ∀ r y, n ≤ y → W (step (r, y)) fun o => o = Out.stop (r, y) 2)
    {k : Out (List Int × Int) ρ → Option α} (hk : ∀ y, W (k (.stop (p ++ (List.range n.toNat).map g, y) 2)) Q) : W ((loopV step (p, 0)).bind k) Q := by
  refine W.upto (fun s => s.2) n (fun s => 0 ≤ s.2 ∧ s.2 ≤ n ∧ s.1 = p ++ (List.range s.2.toNat).map g) ⟨by simp, by simp; omega, by simp⟩ ?_
  rintro ⟨r, y⟩ ⟨a1, a2, a3⟩
  simp only at a1 a2 a3
  by_cases hy : y < n
  · refine (h1 r y a1 hy (by rw [a3]; simp; omega)).mono fun o ho => ?_
    subst ho
    refine ⟨⟨by simp only; omega, by simp only; omega, ?_⟩, by simp only; omega, by simp only; omega⟩
    have : (y + 1).toNat = y.toNat + 1 := by omega
    rw [this, List.range_succ, List.map_append, a3]
    simp
  · refine (h1e r y (by omega)).mono fun o ho => ?_
    subst ho
    simp only
    have : y = n := by omega
    rw [a3, this]
    exact hk n

def rowL (q : Sq) (x : Nat) : List Int := (List.range q.order.toNat).map fun y => q.t x y
theorem rowL_length {q : Sq} (h : 0 ≤ q.order) (x : Nat) : ((rowL q x).length : Int) = q.order := by unfold rowL; simp; omega
theorem rowL_getD {q : Sq} {x y : Nat} (h : (y : Int) < q.order) : (rowL q x).getD y 0 = q.t x y := by
  unfold rowL
  rw [List.getD_eq_getElem?_getD, List.getElem?_map, List.getElem?_range (by omega)]; rfl
def rowsL (q : Sq) (k : Nat) : List (List Int) := (List.range k).map (rowL q)
theorem rowsL_succ (q : Sq) (k : Nat) : rowsL q (k + 1) = rowsL q k ++ [rowL q k] := by unfold rowsL; rw [List.range_succ, List.map_append]; rfl
theorem rowsL_length (q : Sq) (k : Nat) : (rowsL q k).length = k := by unfold rowsL; simp
theorem rowsL_getD {q : Sq} {k x : Nat} (h : x < k) : (rowsL q k).getD x [] = rowL q x := by
  unfold rowsL
  rw [List.getD_eq_getElem?_getD, List.getElem?_map, List.getElem?_range h]; rfl
theorem rowsL_of {q : Sq} (h : 0 ≤ q.order) : RowsOf q (rowsL q q.order.toNat) :=
  ⟨by rw [rowsL_length]; omega, fun x hx => by rw [rowsL_getD (by omega)]; exact rowL_length h x, fun x y hx hy => by rw [rowsL_getD (by omega)]; exact rowL_getD hy⟩

theorem ListsOfSquare_W {q : Sq} (h : Latin q) : W (m_impl_ListsOfSquare q) fun r => r = (rowsL q q.order.toNat, 0) := by
  have n1 := h.n1; have n10 := h.n10
  unfold m_impl_ListsOfSquare
  refine W.call (IsSquare_W h.byt) fun b hb => W.condNot (fun e => absurd (hb.2 h) (ne_true_of_false e)) (fun e => ?_)
  refine W.call (elements_W (by omega) (by omega)) fun l1 k1 => ?_
  refine W.upto (fun s => s.2) q.order (fun s => 0 ≤ s.2 ∧ s.2 ≤ q.order ∧ s.1 = rowsL q s.2.toNat) ⟨by simp, by simp; omega, by simp [rowsL]⟩ ?_
  rintro ⟨x1, x2⟩ ⟨g1, g2, g3⟩
  simp only at g1 g2 g3
  unfold m_impl_ListsOfSquare_l0
  refine W.condP (fun hx => W.chk (by omega) ?_) (fun hx => W.some (W.some ?_))
  · refine W.call (elements_W (by omega) (by omega)) fun l2 k2 => ?_
    have e1 := k1.2 x2.toNat (by omega)
    refine W.snoc (n := q.order) (g := fun y => q.t x2.toNat y) (by omega) (by omega) (by simp) (fun r y hy hy' hr => ?_) (fun r y hy => ?_) (fun y => ?_)
    · unfold m_impl_ListsOfSquare_l1
      have e2 := k2.2 y.toNat (by omega)
      have lt := h.lt (x := x2.toNat) (y := y.toNat) (by omega) (by omega)
      dsimp only
      rw [e1, e2]
      simp only [Int.toNat_natCast]
      refine W.condP (fun _ => W.chk (by omega) (W.chk (by omega) (W.chk (by omega) (W.chk (by omega) (W.some ?_))))) (fun h' => by omega)
      rw [w64 (n := y + 1) (by omega), w64 (by omega)]
    · unfold m_impl_ListsOfSquare_l1
      exact W.condP (fun h' => by omega) (fun _ => W.some rfl)
    · have := rowsL_length q x2.toNat
      simp only [if_true]
      refine W.chk (by rw [g3]; omega) (W.some ?_)
      simp only
      rw [w64 (by omega)]
      refine ⟨⟨by omega, by omega, ?_⟩, by omega, by omega⟩
      have : (x2 + 1).toNat = x2.toNat + 1 := by omega
      rw [this, rowsL_succ, g3]
      rfl
  · have : x2 = q.order := by omega
    rw [g3, this]

theorem spec_ListsOfSquare_W {q : Sq} (h : Latin q) : W (m_spec_ListsOfSquare q) fun r => r = (rowsL q q.order.toNat, 0) := by
  have n1 := h.n1; have n10 := h.n10
  unfold m_spec_ListsOfSquare
  refine W.call (l01Is_W h.byt) fun b hb => W.condNot (fun e => absurd (hb.2 h) (ne_true_of_false e)) (fun e => ?_)
  refine W.upto (fun s => s.2) q.order (fun s => 0 ≤ s.2 ∧ s.2 ≤ q.order ∧ s.1 = rowsL q s.2.toNat) ⟨by simp, by simp; omega, by simp [rowsL]⟩ ?_
  rintro ⟨x1, x2⟩ ⟨g1, g2, g3⟩
  simp only at g1 g2 g3
  unfold m_spec_ListsOfSquare_l0
  refine W.condP (fun hx => ?_) (fun hx => W.some (W.some ?_))
  · refine W.snoc (n := q.order) (g := fun y => q.t x2.toNat y) (by omega) (by omega) (by simp) (fun r y hy hy' hr => ?_) (fun r y hy => ?_) (fun y => ?_)
    · unfold m_spec_ListsOfSquare_l1
      have lt := h.lt (x := x2.toNat) (y := y.toNat) (by omega) (by omega)
      refine W.condP (fun _ => W.chk (by omega) (W.chk (by omega) (W.chk (by omega) (W.some ?_)))) (fun h' => by omega)
      rw [w64 (n := y + 1) (by omega), w64 (by omega)]
    · unfold m_spec_ListsOfSquare_l1
      exact W.condP (fun h' => by omega) (fun _ => W.some rfl)
    · have := rowsL_length q x2.toNat
      simp only [if_true]
      refine W.chk (by rw [g3]; omega) (W.some ?_)
      simp only
      rw [w64 (by omega)]
      refine ⟨⟨by omega, by omega, ?_⟩, by omega, by omega⟩
      have : (x2 + 1).toNat = x2.toNat + 1 := by omega
      rw [this, rowsL_succ, g3]
      rfl
  · have : x2 = q.order := by omega
    rw [g3, this]

/-! ## Squares of lists -/
structure Good (l : List (List Int)) : Prop where
  n1 : 1 ≤ (l.length : Int)
  n10 : (l.length : Int) ≤ 10
  row : ∀ x : Nat, (x : Int) < l.length → (l.getD x []).length = l.length
  lo : ∀ x y : Nat, (x : Int) < l.length → (y : Int) < l.length → 0 ≤ (l.getD x []).getD y 0 ∧ (l.getD x []).getD y 0 < l.length
def sqL (l : List (List Int)) : Sq := ⟨l.length, tabF l.length fun x y => (l.getD x []).getD y 0⟩
def SqLOf (l : List (List Int)) (r : Sq × Int) : Prop := (¬ Good l ∧ r = (sq0, 2)) ∨ (Good l ∧ ¬ Latin (sqL l) ∧ r = (sq0, 5)) ∨ (Good l ∧ Latin (sqL l) ∧ r = (sqL l, 0))
theorem SqLOf.eq {l : List (List Int)} {r r' : Sq × Int} (h : SqLOf l r) (h' : SqLOf l r') : r = r' := by
  rcases h with ⟨a, b⟩ | ⟨a, b, c⟩ | ⟨a, b, c⟩ <;> rcases h' with ⟨a', b'⟩ | ⟨a', b', c'⟩ | ⟨a', b', c'⟩ <;> first
    | (rw [b, b']; done)
    | (rw [c, c']; done)
    | exact absurd a' a
    | exact absurd a a'
    | exact absurd b' b
    | exact absurd b b'
theorem sqL_byt {l : List (List Int)} (h : Good l) : Byt (sqL l).t := fun x y hx hy => by
  have n10 := h.n10
  show 0 ≤ tabF l.length (fun x y => (l.getD x []).getD y 0) x y ∧ tabF l.length (fun x y => (l.getD x []).getD y 0) x y ≤ 255
  unfold tabF
  split
  · rename_i e; have := h.lo x y e.1 e.2; simp only; omega
  · omega

theorem SquareOfLists_W {l : List (List Int)} (hl : l.length ≤ 1000) : W (m_impl_SquareOfLists l) (SqLOf l) := by
  unfold m_impl_SquareOfLists
  refine W.call (within_W _ _ _) fun b hb => W.condNot (fun e => W.some (.inl ⟨fun g => ne_true_of_false e (hb.2 ⟨g.n1, g.n10⟩), rfl⟩)) (fun e => ?_)
  obtain ⟨n1, n10⟩ := hb.1 e
  refine W.upto (fun s => s.1) l.length (fun s => 0 ≤ s.1 ∧ s.1 ≤ l.length ∧ ∀ x : Nat, (x : Int) < s.1 → (l.getD x []).length = l.length ∧ ∀ y : Nat, (y : Int) < l.length → 0 ≤ (l.getD x []).getD y 0 ∧ (l.getD x []).getD y 0 < l.length) ⟨by simp, by simp, fun x hx => by simp only at hx; omega⟩ ?_
  rintro ⟨x1, x2⟩ ⟨g1, g2, g3⟩
  simp only at g1 g2 g3
  unfold m_impl_SquareOfLists_l0
  refine W.condP (fun hx => W.chk (by omega) (W.condNe (fun hn => W.some (W.some (.inl ⟨fun g => hn ?_, rfl⟩))) (fun he => ?_))) (fun hx => W.some ?_)
  · have := g.row x1.toNat (by omega); omega
  · refine W.upto (fun s => s.1) l.length (fun s => 0 ≤ s.1 ∧ s.1 ≤ l.length ∧ ∀ y : Nat, (y : Int) < s.1 → 0 ≤ (l.getD x1.toNat []).getD y 0 ∧ (l.getD x1.toNat []).getD y 0 < l.length) ⟨by simp, by simp, fun x hx => by simp only at hx; omega⟩ ?_
    rintro ⟨x3, x4⟩ ⟨a1, a2, a3⟩
    simp only at a1 a2 a3
    unfold m_impl_SquareOfLists_l1
    refine W.condP (fun hy => W.chk (by omega) ?_) (fun hy => W.some ?_)
    · rw [w64 (n := (l.length : Int) - 1) (by omega)]
      refine W.call (within_W _ _ _) fun b2 hb2 => W.condNot (fun e2 => W.some (W.some (W.some (.inl ⟨fun g => ne_true_of_false e2 (hb2.2 ?_), rfl⟩)))) (fun e2 => W.some ?_)
      · have := g.lo x1.toNat x3.toNat (by omega) (by omega); omega
      · have := hb2.1 e2
        simp only
        rw [w64 (by omega)]
        refine ⟨⟨by omega, by omega, fun y hy' => ?_⟩, by omega, by omega⟩
        by_cases e' : (y : Int) = x3
        · have : y = x3.toNat := by omega
          subst this; omega
        · exact a3 y (by omega)
    · simp only [if_true]
      refine W.some ?_
      simp only
      rw [w64 (by omega)]
      refine ⟨⟨by omega, by omega, fun x hx' => ?_⟩, by omega, by omega⟩
      by_cases e' : (x : Int) = x1
      · have : x = x1.toNat := by omega
        subst this; exact ⟨by omega, fun y hy' => a3 y (by omega)⟩
      · exact g3 x (by omega)
  · simp only [if_true]
    have G : Good l := ⟨n1, n10, fun x hx' => (g3 x (by omega)).1, fun x y hx' hy' => (g3 x (by omega)).2 y hy'⟩
    refine W.call (made_W (g := fun x y => (l.getD x []).getD y 0) (by omega) n10 fun x y hx' hy' => ?_) fun r hr' => ?_
    · unfold m_impl_SquareOfLists_1
      have := G.row x hx'; have := G.lo x y hx' hy'
      simp only [Int.toNat_natCast]
      exact W.chk (by omega) (W.chk (by omega) (W.some (w8 (by omega))))
    · have er : r = sqL l := hr'
      subst er
      refine W.call (IsSquare_W (sqL_byt G)) fun b hb => W.condNot (fun e => W.some (.inr (.inl ⟨G, fun L => ne_true_of_false e (hb.2 L), rfl⟩))) (fun e => W.some (.inr (.inr ⟨G, hb.1 e, rfl⟩)))

theorem spec_SquareOfLists_W {l : List (List Int)} (hl : l.length ≤ 1000) : W (m_spec_SquareOfLists l) (SqLOf l) := by
  unfold m_spec_SquareOfLists
  refine W.call (l01In_W _ _ _) fun b hb => W.condNot (fun e => W.some (.inl ⟨fun g => ne_true_of_false e (hb.2 ⟨g.n1, g.n10⟩), rfl⟩)) (fun e => ?_)
  obtain ⟨n1, n10⟩ := hb.1 e
  refine W.upto (fun s => s.1) l.length (fun s => 0 ≤ s.1 ∧ s.1 ≤ l.length ∧ s.2.2.order = l.length ∧ Fil l.length (fun x y => (l.getD x []).getD y 0) s.1 0 s.2.2.t ∧ ∀ x : Nat, (x : Int) < s.1 → (l.getD x []).length = l.length ∧ ∀ y : Nat, (y : Int) < l.length → 0 ≤ (l.getD x []).getD y 0 ∧ (l.getD x []).getD y 0 < l.length) ⟨by simp, by simp, rfl, Fil.zero, fun x hx => by simp only at hx; omega⟩ ?_
  rintro ⟨x1, x2, ⟨o, t⟩⟩ ⟨g1, g2, g4, g5, g3⟩
  simp only at g1 g2 g3 g4 g5
  unfold m_spec_SquareOfLists_l0
  refine W.condP (fun hx => W.chk (by omega) (W.condNe (fun hn => W.some (W.some (.inl ⟨fun g => hn ?_, rfl⟩))) (fun he => ?_))) (fun hx => W.some ?_)
  · have := g.row x1.toNat (by omega); omega
  · refine W.upto (fun s => s.1) l.length (fun s => 0 ≤ s.1 ∧ s.1 ≤ l.length ∧ s.2.2.order = l.length ∧ Fil l.length (fun x y => (l.getD x []).getD y 0) x1 s.1 s.2.2.t ∧ ∀ y : Nat, (y : Int) < s.1 → 0 ≤ (l.getD x1.toNat []).getD y 0 ∧ (l.getD x1.toNat []).getD y 0 < l.length) ⟨by simp, by simp, g4, g5, fun x hx => by simp only at hx; omega⟩ ?_
    rintro ⟨x3, x4, ⟨o', t'⟩⟩ ⟨a1, a2, a4, a5, a3⟩
    simp only at a1 a2 a3 a4 a5
    unfold m_spec_SquareOfLists_l1
    refine W.chk (by omega) (W.condP (fun hy => W.chk (by omega) (W.chk (by omega) ?_)) (fun hy => W.some ?_))
    · rw [w64 (n := (l.length : Int) - 1) (by omega)]
      refine W.call (l01In_W _ _ _) fun b2 hb2 => W.condNot (fun e2 => W.some (W.some (W.some (.inl ⟨fun g => ne_true_of_false e2 (hb2.2 ?_), rfl⟩)))) (fun e2 => ?_)
      · have := g.lo x1.toNat x3.toNat (by omega) (by omega); omega
      · have := hb2.1 e2
        refine W.chk (by omega) (W.chk (by omega) (W.chk (by omega) (W.chk (by omega) (W.some ?_))))
        simp only
        rw [w64 (n := x3 + 1) (by omega), w8 (by omega)]
        refine ⟨⟨by omega, by omega, a4, a5.step g1 a1 (by omega), fun y hy' => ?_⟩, by omega, by omega⟩
        by_cases e' : (y : Int) = x3
        · have : y = x3.toNat := by omega
          subst this; omega
        · exact a3 y (by omega)
    · simp only [if_true]
      refine W.some ?_
      simp only
      rw [w64 (by omega)]
      refine ⟨⟨by omega, by omega, a4, a5.row (by omega), fun x hx' => ?_⟩, by omega, by omega⟩
      by_cases e' : (x : Int) = x1
      · have : x = x1.toNat := by omega
        subst this; exact ⟨by omega, fun y hy' => a3 y (by omega)⟩
      · exact g3 x (by omega)
  · simp only [if_true]
    have G : Good l := ⟨n1, n10, fun x hx' => (g3 x (by omega)).1, fun x y hx' hy' => (g3 x (by omega)).2 y hy'⟩
    have er : (⟨o, t⟩ : Sq) = sqL l := by
      rw [g4, g5.full (by omega)]; rfl
    rw [er]
    refine W.call (l01Is_W (sqL_byt G)) fun b hb => W.condNot (fun e => W.some (.inr (.inl ⟨G, fun L => ne_true_of_false e (hb.2 L), rfl⟩))) (fun e => W.some (.inr (.inr ⟨G, hb.1 e, rfl⟩)))

/-- A square comes back from its rows. -/
theorem lists_back {q : Sq} (h : Latin q) {l : List (List Int)} (hl : RowsOf q l) {r : Sq × Int} (hr : SqLOf l r) : r.2 = 0 ∧ eqSq r.1 q = true := by
  have n1 := h.n1; have n10 := h.n10; have e := hl.len
  have G : Good l := ⟨by omega, by omega, fun x hx => by have := hl.row x (by omega); omega, fun x y hx hy => by rw [hl.at_ x y (by omega) (by omega), e]; exact h.lt (by omega) (by omega)⟩
  have at_ : ∀ x y : Nat, (x : Int) < q.order → (y : Int) < q.order → (sqL l).t x y = q.t x y := fun x y hx hy => (tabF_lt (g := fun x y => (l.getD x []).getD y 0) (by omega) (by omega)).trans (hl.at_ x y hx hy)
  have L : Latin (sqL l) := by
    refine ⟨G.n1, G.n10, fun x hx => ?_, fun y hy => ?_, fun x y _ _ hn => tabF_zero (g := fun x y => (l.getD x []).getD y 0) hn⟩
    · have hx' : (x : Int) < q.order := by rw [← e]; exact hx
      show PermP (l.length : Int) _
      rw [e]
      exact (h.row x hx').ext fun i hi => at_ x i hx' hi
    · have hy' : (y : Int) < q.order := by rw [← e]; exact hy
      show PermP (l.length : Int) _
      rw [e]
      exact (h.col y hy').ext fun i hi => at_ i y hi hy'
  rcases hr with ⟨a, b⟩ | ⟨a, b, c⟩ | ⟨a, b, c⟩
  · exact absurd G a
  · exact absurd L b
  · rw [c]
    refine ⟨rfl, eqSq_iff.2 ⟨e, fun i j hi hj => ?_⟩⟩
    by_cases e' : (i : Int) < q.order ∧ (j : Int) < q.order
    · exact at_ i j e'.1 e'.2
    · rw [h.zero i j hi hj (by omega)]
      exact tabF_zero (g := fun x y => (l.getD x []).getD y 0) (by omega)

/-! ## The draw -/
theorem getD_set {α : Type} (l : List α) (k : Nat) (a d : α) (i : Nat) : (l.set k a).getD i d = if i = k ∧ k < l.length then a else l.getD i d := by
  rw [List.getD_eq_getElem?_getD, List.getElem?_set, List.getD_eq_getElem?_getD]
  by_cases h : k = i
  · subst h
    by_cases h2 : k < l.length
    · simp [h2]
    · rw [if_pos rfl, if_neg h2, if_neg (by omega), List.getElem?_eq_none (by omega)]
  · rw [if_neg h, if_neg (by omega)]
theorem DrawSquareOfLists_W {l : List Int} (hl : Code l) : W (m_spec_DrawSquareOfLists l) fun r => r.length ≤ 1000 := by
  unfold m_spec_DrawSquareOfLists
  refine W.call (l01From_W hl) fun s hs => W.call (l01DrawSquare_W hl hs) fun r2 k2 => ?_
  have L := k2.1
  have n1 := L.n1; have n10 := L.n10
  refine W.call (spec_ListsOfSquare_W L) fun r3 k3 => ?_
  have R := rowsL_of (q := r2.1) (by omega)
  have len := R.len
  have hrow : ∀ x : Nat, ((rowsL r2.1 r2.1.order.toNat).getD x []).length ≤ 100 := fun x => by
    by_cases e : (x : Int) < r2.1.order
    · have := R.row x e; omega
    · rw [List.getD_eq_getElem?_getD, List.getElem?_eq_none (by omega)]; simp
  subst k3
  simp only
  refine W.call (l01Next_W hl k2.2 _ (by omega)) fun r4 k4 => ?_
  have b4 := k4.2.1 (by omega)
  refine W.chk (by omega) (W.call (l01Next_W hl k4.1 _ (by omega)) fun r5 k5 => ?_)
  have row4 := R.row r4.1.toNat (by omega)
  have row0 := R.row 0 (by omega)
  refine W.condEq (fun _ => ?_) (fun _ => W.condEq (fun _ => ?_) (fun _ => W.condEq (fun _ => W.some (by simp)) (fun _ => W.condEq (fun _ => ?_) (fun _ => W.some (by omega)))))
  · exact W.call (l01Pick_W hl k5.1 _ (by simp) (by simp)) fun r6 k6 => W.chk (by omega) (W.some (by rw [List.length_set]; omega))
  · exact W.chk (by omega) (W.some (by rw [List.length_append]; simp only [List.length_cons, List.length_nil]; omega))
  · exact W.chk (by omega) (W.chk (by omega) (W.chk (by omega) (W.some (by rw [List.length_set]; omega))))
end Go.Pu

/- Plain laws: texts of squares. -/
namespace Go.Pu
open Go Go.Abs Go.Lab

/-! ## The bytes of a text -/
def lst (s : ByteArray) : List Int := s.data.toList.map fun b => (b.toNat : Int)
theorem lst_length (s : ByteArray) : (lst s).length = s.size := by unfold lst; rw [List.length_map, Array.length_toList]; rfl
theorem bt_lst (s : ByteArray) (i : Nat) : bt s i = (lst s).getD i 0 := by
  unfold bt lst
  rw [List.getD_eq_getElem?_getD, List.getElem?_map, Array.getElem?_toList]
  by_cases h : i < s.size
  · have h' : i < s.data.size := h
    rw [bt_get' h, Array.getElem?_eq_getElem h']; rfl
  · have h' : ¬ i < s.data.size := h
    rw [Array.getElem?_eq_none (by omega), getElem?_neg (c := s) (i := i) h]; rfl
theorem lst_inj {s t : ByteArray} (h : lst s = lst t) : s = t := by
  have e : s.data.toList = t.data.toList := by
    unfold lst at h
    refine List.map_inj_right (fun a b e => ?_) |>.1 h
    exact UInt8.toNat_inj.1 (by omega)
  cases s; cases t
  simp only at e
  rw [Array.toList_inj] at e; subst e; rfl
theorem lst_push (s : ByteArray) (b : UInt8) : lst (s.push b) = lst s ++ [(b.toNat : Int)] := by
  unfold lst; show (s.data.push b).toList.map _ = _
  rw [Array.toList_push, List.map_append]; rfl
theorem lst_strOf {l : List Int} (h : ∀ n ∈ l, 0 ≤ n ∧ n ≤ 255) : lst (strOf l) = l := by
  have : ∀ (l : List Int) (s : ByteArray), (∀ n ∈ l, 0 ≤ n ∧ n ≤ 255) → lst (l.foldl (fun r n => r.push (UInt8.ofNat n.toNat)) s) = lst s ++ l := by
    intro l
    induction l with
    | nil => intro s _; simp
    | cons n l ih =>
      intro s h
      rw [List.foldl_cons, ih _ fun m hm => h m (by simp [hm]), lst_push]
      have := h n (by simp)
      have e : ((UInt8.ofNat n.toNat).toNat : Int) = n := by
        rw [UInt8.toNat_ofNat']
        omega
      rw [e, List.append_assoc]; rfl
  have := this l ByteArray.empty h
  unfold strOf
  rw [this]; rfl
theorem lst_extract (s : ByteArray) (a b : Nat) : lst (s.extract a b) = ((lst s).drop a).take (b - a) := by
  unfold lst
  rw [ByteArray.data_extract, Array.toList_extract, List.extract_eq_take_drop, List.map_take, List.map_drop]

/-! ## Parts between bytes, and joined again -/
def consH (p : List Int) : List (List Int) → List (List Int)
  | [] => [p]
  | h :: t => (p ++ h) :: t
def spl (c : Int) : List Int → List (List Int)
  | [] => [[]]
  | b :: r => if b = c then [] :: spl c r else consH [b] (spl c r)
theorem consH_consH (p : List Int) (b : Int) (X : List (List Int)) : consH p (consH [b] X) = consH (p ++ [b]) X := by
  cases X <;> simp [consH]
theorem spl_ne (c : Int) (l : List Int) : spl c l ≠ [] := by
  cases l with
  | nil => simp [spl]
  | cons b r =>
    unfold spl
    split
    · simp
    · cases spl c r <;> simp [consH]
theorem consH_nil {X : List (List Int)} (h : X ≠ []) : consH [] X = X := by
  cases X with
  | nil => exact absurd rfl h
  | cons a b => rfl
def joinC : List (List Int) → List Int
  | [] => []
  | [r] => r
  | r :: s :: t => r ++ 47 :: joinC (s :: t)
theorem joinC_cons {r : List Int} {L : List (List Int)} (h : L ≠ []) : joinC (r :: L) = r ++ 47 :: joinC L := by
  cases L with
  | nil => exact absurd rfl h
  | cons a b => rfl
theorem joinC_snoc (r : List Int) : ∀ {L : List (List Int)}, L ≠ [] → joinC (L ++ [r]) = joinC L ++ 47 :: r
  | [], h => absurd rfl h
  | [a], _ => rfl
  | a :: b :: L, _ => by
    rw [List.cons_append, joinC_cons (by simp), joinC_snoc r (L := b :: L) (by simp), joinC_cons (L := b :: L) (by simp)]
    simp
theorem joinC_consH (b : Int) : ∀ {X : List (List Int)}, X ≠ [] → joinC (consH [b] X) = b :: joinC X
  | [], h => absurd rfl h
  | [a], _ => rfl
  | a :: a' :: X, _ => by simp [consH, joinC]
theorem joinC_spl (l : List Int) : joinC (spl 47 l) = l := by
  induction l with
  | nil => rfl
  | cons b r ih =>
    unfold spl
    split
    · rename_i e
      rw [joinC_cons (spl_ne _ _), ih, e]; rfl
    · rw [joinC_consH b (spl_ne _ _), ih]
theorem spl_app {p : List Int} (h : ∀ n ∈ p, n ≠ 47) (r : List Int) : spl 47 (p ++ 47 :: r) = p :: spl 47 r := by
  induction p with
  | nil => simp [spl]
  | cons a p ih =>
    rw [List.cons_append, spl, if_neg (h a (by simp)), ih fun n hn => h n (by simp [hn])]; rfl
theorem spl_one {p : List Int} (h : ∀ n ∈ p, n ≠ 47) : spl 47 p = [p] := by
  induction p with
  | nil => rfl
  | cons a p ih => rw [spl, if_neg (h a (by simp)), ih fun n hn => h n (by simp [hn])]; rfl
theorem spl_joinC : ∀ {L : List (List Int)}, L ≠ [] → (∀ r ∈ L, ∀ n ∈ r, n ≠ 47) → spl 47 (joinC L) = L
  | [], h, _ => absurd rfl h
  | [a], _, h => spl_one (h a (by simp))
  | a :: b :: L, _, h => by
    rw [joinC_cons (by simp), spl_app (h a (by simp)), spl_joinC (by simp) fun r hr => h r (by simp [hr])]
theorem joinC_length {m : Nat} : ∀ {L : List (List Int)}, L ≠ [] → (∀ r ∈ L, r.length = m) → (joinC L).length + 1 = L.length * (m + 1)
  | [], h, _ => absurd rfl h
  | [a], _, h => by simp [joinC, h a (by simp)]
  | a :: b :: L, _, h => by
    have ih := joinC_length (L := b :: L) (by simp) fun r hr => h r (by simp [hr])
    have ha := h a (by simp)
    rw [joinC_cons (by simp), List.length_append, List.length_cons, List.length_cons, Nat.succ_mul]
    omega
theorem joinC_getD {m : Nat} : ∀ {L : List (List Int)} {x y : Nat}, (∀ r ∈ L, r.length = m) → x < L.length → y < m → (joinC L).getD (x * (m + 1) + y) 0 = (L.getD x []).getD y 0
  | [], x, y, _, hx, _ => by simp at hx
  | [a], x, y, h, hx, hy => by
    have : x = 0 := by simp at hx; exact hx
    subst this
    simp [joinC]
  | a :: b :: L, 0, y, h, hx, hy => by
    have ha := h a (by simp)
    rw [joinC_cons (by simp), Nat.zero_mul, Nat.zero_add, List.getD_eq_getElem?_getD, List.getElem?_append_left (by omega), ← List.getD_eq_getElem?_getD]; rfl
  | a :: b :: L, x + 1, y, h, hx, hy => by
    have ha := h a (by simp)
    have ih := joinC_getD (L := b :: L) (x := x) (y := y) (fun r hr => h r (by simp [hr])) (by simp at hx ⊢; omega) hy
    have e : (x + 1) * (m + 1) + y = a.length + (1 + (x * (m + 1) + y)) := by rw [Nat.succ_mul]; omega
    rw [joinC_cons (by simp), e, List.getD_eq_getElem?_getD, List.getElem?_append_right (by omega)]
    have e2 : a.length + (1 + (x * (m + 1) + y)) - a.length = (x * (m + 1) + y) + 1 := by omega
    rw [e2, List.getElem?_cons_succ, ← List.getD_eq_getElem?_getD, ih]; rfl

/-! ## The text of a square -/
def digR (q : Sq) (x : Nat) : List Int := (List.range q.order.toNat).map fun y => 48 + q.t x y
def digs (q : Sq) (k : Nat) : List (List Int) := (List.range k).map (digR q)
def txt (q : Sq) : List Int := joinC (digs q q.order.toNat)
theorem digR_length (q : Sq) (x : Nat) : (digR q x).length = q.order.toNat := by unfold digR; simp
theorem digs_length (q : Sq) (k : Nat) : (digs q k).length = k := by unfold digs; simp
theorem digs_succ (q : Sq) (k : Nat) : digs q (k + 1) = digs q k ++ [digR q k] := by unfold digs; rw [List.range_succ, List.map_append]; rfl
theorem digs_row {q : Sq} {k : Nat} : ∀ r ∈ digs q k, r.length = q.order.toNat := fun r hr => by
  unfold digs at hr
  obtain ⟨x, _, e⟩ := List.mem_map.1 hr
  rw [← e]; exact digR_length q x
theorem digs_getD {q : Sq} {k x : Nat} (h : x < k) : (digs q k).getD x [] = digR q x := by
  unfold digs
  rw [List.getD_eq_getElem?_getD, List.getElem?_map, List.getElem?_range h]; rfl
theorem digR_getD {q : Sq} {x y : Nat} (h : (y : Int) < q.order) : (digR q x).getD y 0 = 48 + q.t x y := by
  unfold digR
  rw [List.getD_eq_getElem?_getD, List.getElem?_map, List.getElem?_range (by omega)]; rfl
theorem digs_byte {q : Sq} (L : Latin q) {k : Nat} (hk : (k : Int) ≤ q.order) : ∀ r ∈ digs q k, ∀ n ∈ r, 48 ≤ n ∧ n ≤ 57 := fun r hr n hn => by
  unfold digs at hr
  obtain ⟨x, hx, e⟩ := List.mem_map.1 hr
  rw [List.mem_range] at hx
  subst e
  unfold digR at hn
  obtain ⟨y, hy, e⟩ := List.mem_map.1 hn
  rw [List.mem_range] at hy
  have := L.lt (x := x) (y := y) (by omega) (by omega)
  have := L.n10
  omega
theorem joinC_mem {n : Int} : ∀ {L : List (List Int)}, n ∈ joinC L → n = 47 ∨ ∃ r ∈ L, n ∈ r
  | [], h => by simp [joinC] at h
  | [a], h => .inr ⟨a, by simp, h⟩
  | a :: b :: L, h => by
    rw [joinC_cons (by simp), List.mem_append, List.mem_cons] at h
    rcases h with h | h | h
    · exact .inr ⟨a, by simp, h⟩
    · exact .inl h
    · rcases joinC_mem h with h | ⟨r, hr, h⟩
      · exact .inl h
      · exact .inr ⟨r, by simp [hr], h⟩
theorem txt_byte {q : Sq} (L : Latin q) : ∀ n ∈ txt q, 0 ≤ n ∧ n ≤ 255 := fun n hn => by
  rcases joinC_mem hn with h | ⟨r, hr, h⟩
  · omega
  · have := digs_byte L (by have := L.n1; omega) r hr n h; omega
theorem digs_ne {q : Sq} {k : Nat} (h : 1 ≤ k) : digs q k ≠ [] := fun e => by
  have := digs_length q k
  rw [e] at this; simp at this; omega
theorem spl_txt {q : Sq} (L : Latin q) : spl 47 (txt q) = digs q q.order.toNat :=
  spl_joinC (digs_ne (by have := L.n1; omega)) fun r hr n hn => by have := digs_byte L (by have := L.n1; omega) r hr n hn; omega
theorem txt_length {q : Sq} (L : Latin q) : (txt q).length + 1 = q.order.toNat * (q.order.toNat + 1) := by
  have := joinC_length (digs_ne (q := q) (k := q.order.toNat) (by have := L.n1; omega)) digs_row
  rw [digs_length] at this; exact this
theorem joinC_digs_le {q : Sq} (L : Latin q) {k : Nat} (hk : (k : Int) ≤ q.order) : (joinC (digs q k)).length ≤ 200 := by
  have n10 := L.n10
  by_cases h : k = 0
  · subst h; simp [digs, joinC]
  · have := joinC_length (digs_ne (q := q) (k := k) (by omega)) digs_row
    rw [digs_length] at this
    have : k * (q.order.toNat + 1) ≤ 10 * 11 := Nat.mul_le_mul (by omega) (by omega)
    omega
theorem txt_getD {q : Sq} {x y : Nat} (hx : (x : Int) < q.order) (hy : (y : Int) < q.order) : (txt q).getD (x * (q.order.toNat + 1) + y) 0 = 48 + q.t x y := by
  unfold txt
  rw [joinC_getD digs_row (by rw [digs_length]; omega) (by omega), digs_getD (by omega), digR_getD hy]
theorem txt_congr {p q : Sq} (e : p.order = q.order) (h : ∀ x y : Nat, (x : Int) < q.order → (y : Int) < q.order → p.t x y = q.t x y) : txt p = txt q := by
  unfold txt
  rw [e]
  refine congrArg joinC ?_
  unfold digs
  refine List.map_congr_left fun x hx => ?_
  rw [List.mem_range] at hx
  unfold digR
  rw [e]
  refine List.map_congr_left fun y hy => ?_
  rw [List.mem_range] at hy
  rw [h x y (by omega) (by omega)]
theorem txt_inj {p q : Sq} (Lp : Latin p) (Lq : Latin q) (h : txt p = txt q) : p.order = q.order ∧ ∀ x y : Nat, (x : Int) < q.order → (y : Int) < q.order → p.t x y = q.t x y := by
  have e := spl_txt Lp
  rw [h, spl_txt Lq] at e
  have n1 := Lp.n1; have n1' := Lq.n1
  have el : p.order = q.order := by
    have := congrArg List.length e
    rw [digs_length, digs_length] at this; omega
  refine ⟨el, fun x y hx hy => ?_⟩
  have := congrArg (fun L => (L.getD x []).getD y 0) e
  rw [digs_getD (by omega), digs_getD (by omega), digR_getD hy, digR_getD (by omega)] at this
  omega

theorem squareText_W {q : Sq} (h : Latin q) : W (m_impl_squareText q) fun r => r = strOf (txt q) := by
  have n1 := h.n1; have n10 := h.n10
  unfold m_impl_squareText
  refine W.call (elements_W (by omega) (by omega)) fun l1 k1 => ?_
  refine W.upto (fun s => s.2) q.order (fun s => 0 ≤ s.2 ∧ s.2 ≤ q.order ∧ s.1 = joinC (digs q s.2.toNat)) ⟨by simp, by simp; omega, by simp [digs, joinC]⟩ ?_
  rintro ⟨x1, x2⟩ ⟨g1, g2, g3⟩
  simp only at g1 g2 g3
  have len := joinC_digs_le h (k := x2.toNat) (by omega)
  unfold m_impl_squareText_l0
  refine W.condP (fun hx => W.chk (by omega) ?_) (fun hx => W.some (W.some ?_))
  · have e1 := k1.2 x2.toNat (by omega)
    have el : (x2 + 1).toNat = x2.toNat + 1 := by omega
    refine W.condP (fun hp => W.chk (by rw [g3]; omega) ?_) (fun hp => ?_)
    · refine W.call (elements_W (by omega) (by omega)) fun l2 k2 => ?_
      refine W.snoc (n := q.order) (g := fun y => 48 + q.t x2.toNat y) (by omega) (by omega) (by rw [g3, List.length_append]; simp only [List.length_cons, List.length_nil]; omega) (fun r y hy hy' hr => ?_) (fun r y hy => ?_) (fun y => ?_)
      · unfold m_impl_squareText_l1
        have e2 := k2.2 y.toNat (by omega)
        have lt := h.lt (x := x2.toNat) (y := y.toNat) (by omega) (by omega)
        dsimp only
        rw [e1, e2]
        simp only [Int.toNat_natCast]
        refine W.condP (fun _ => W.chk (by omega) (W.chk (by omega) (W.chk (by omega) (W.chk (by omega) (W.some ?_))))) (fun h' => by omega)
        rw [w64 (n := y + 1) (by omega), w8 (by omega)]
      · unfold m_impl_squareText_l1
        exact W.condP (fun h' => by omega) (fun _ => W.some rfl)
      · simp only [if_true]
        refine W.some ?_
        simp only
        rw [w64 (by omega)]
        refine ⟨⟨by omega, by omega, ?_⟩, by omega, by omega⟩
        rw [el, digs_succ, joinC_snoc _ (digs_ne (by rw [e1] at hp; omega)), g3, List.append_assoc]
        rfl
    · refine W.call (elements_W (by omega) (by omega)) fun l2 k2 => ?_
      have z : x2 = 0 := by rw [e1] at hp; omega
      have g3' : x1 = [] := by rw [g3, z]; simp [digs, joinC]
      refine W.snoc (n := q.order) (g := fun y => 48 + q.t x2.toNat y) (by omega) (by omega) (by rw [g3']; simp) (fun r y hy hy' hr => ?_) (fun r y hy => ?_) (fun y => ?_)
      · unfold m_impl_squareText_l2
        have e2 := k2.2 y.toNat (by omega)
        have lt := h.lt (x := x2.toNat) (y := y.toNat) (by omega) (by omega)
        dsimp only
        rw [e1, e2]
        simp only [Int.toNat_natCast]
        refine W.condP (fun _ => W.chk (by omega) (W.chk (by omega) (W.chk (by omega) (W.chk (by omega) (W.some ?_))))) (fun h' => by omega)
        rw [w64 (n := y + 1) (by omega), w8 (by omega)]
      · unfold m_impl_squareText_l2
        exact W.condP (fun h' => by omega) (fun _ => W.some rfl)
      · simp only [if_true]
        refine W.some ?_
        simp only
        rw [w64 (by omega)]
        refine ⟨⟨by omega, by omega, ?_⟩, by omega, by omega⟩
        rw [el, g3', z]
        rfl
  · have : x2 = q.order := by omega
    rw [g3, this]; rfl

theorem l01Text_W {q : Sq} (h : Latin q) : W (m_spec_l01Text q) fun r => r = strOf (txt q) := by
  have n1 := h.n1; have n10 := h.n10
  unfold m_spec_l01Text
  refine W.upto (fun s => s.2) q.order (fun s => 0 ≤ s.2 ∧ s.2 ≤ q.order ∧ s.1 = joinC (digs q s.2.toNat)) ⟨by simp, by simp; omega, by simp [digs, joinC]⟩ ?_
  rintro ⟨x1, x2⟩ ⟨g1, g2, g3⟩
  simp only at g1 g2 g3
  have len := joinC_digs_le h (k := x2.toNat) (by omega)
  unfold m_spec_l01Text_l0
  refine W.condP (fun hx => ?_) (fun hx => W.some (W.some ?_))
  · have el : (x2 + 1).toNat = x2.toNat + 1 := by omega
    refine W.condP (fun hp => W.chk (by rw [g3]; omega) ?_) (fun hp => ?_)
    · refine W.snoc (n := q.order) (g := fun y => 48 + q.t x2.toNat y) (by omega) (by omega) (by rw [g3, List.length_append]; simp only [List.length_cons, List.length_nil]; omega) (fun r y hy hy' hr => ?_) (fun r y hy => ?_) (fun y => ?_)
      · unfold m_spec_l01Text_l1
        have lt := h.lt (x := x2.toNat) (y := y.toNat) (by omega) (by omega)
        refine W.condP (fun _ => W.chk (by omega) (W.chk (by omega) (W.chk (by omega) (W.some ?_)))) (fun h' => by omega)
        rw [w64 (n := y + 1) (by omega), w8 (by omega)]
      · unfold m_spec_l01Text_l1
        exact W.condP (fun h' => by omega) (fun _ => W.some rfl)
      · simp only [if_true]
        refine W.some ?_
        simp only
        rw [w64 (by omega)]
        refine ⟨⟨by omega, by omega, ?_⟩, by omega, by omega⟩
        rw [el, digs_succ, joinC_snoc _ (digs_ne (by omega)), g3, List.append_assoc]
        rfl
    · have z : x2 = 0 := by omega
      have g3' : x1 = [] := by rw [g3, z]; simp [digs, joinC]
      refine W.snoc (n := q.order) (g := fun y => 48 + q.t x2.toNat y) (by omega) (by omega) (by rw [g3']; simp) (fun r y hy hy' hr => ?_) (fun r y hy => ?_) (fun y => ?_)
      · unfold m_spec_l01Text_l2
        have lt := h.lt (x := x2.toNat) (y := y.toNat) (by omega) (by omega)
        refine W.condP (fun _ => W.chk (by omega) (W.chk (by omega) (W.chk (by omega) (W.some ?_)))) (fun h' => by omega)
        rw [w64 (n := y + 1) (by omega), w8 (by omega)]
      · unfold m_spec_l01Text_l2
        exact W.condP (fun h' => by omega) (fun _ => W.some rfl)
      · simp only [if_true]
        refine W.some ?_
        simp only
        rw [w64 (by omega)]
        refine ⟨⟨by omega, by omega, ?_⟩, by omega, by omega⟩
        rw [el, g3', z]
        rfl
  · have : x2 = q.order := by omega
    rw [g3, this]; rfl
theorem SquareText_W {q : Sq} (h : Latin q) : W (m_impl_SquareText q) fun r => r = (strOf (txt q), 0) := by
  unfold m_impl_SquareText
  refine W.call (IsSquare_W h.byt) fun b hb => W.condNot (fun e => absurd (hb.2 h) (ne_true_of_false e)) (fun e => ?_)
  exact W.call (squareText_W h) fun r hr => W.some (by rw [hr])
end Go.Pu

/- Plain laws: squares are read from texts. -/
namespace Go.Pu
open Go Go.Abs Go.Lab

theorem lst_getD_drop {l : List Int} {i : Nat} (h : i < l.length) : l.drop i = l.getD i 0 :: l.drop (i + 1) := by
  rw [List.getD_eq_getElem?_getD, List.getElem?_eq_getElem h]
  exact List.drop_eq_getElem_cons h
theorem take_drop_snoc {l : List Int} {a i : Nat} (h : i < l.length) (ha : a ≤ i) : (l.drop a).take (i + 1 - a) = (l.drop a).take (i - a) ++ [l.getD i 0] := by
  have e : i + 1 - a = (i - a) + 1 := by omega
  rw [e, List.take_add_one, List.getElem?_drop, List.getD_eq_getElem?_getD]
  have e2 : a + (i - a) = i := by omega
  rw [e2, List.getElem?_eq_getElem h]; rfl
theorem l01Split_full {s : ByteArray} (hs : s.size ≤ 1000000000000) (c : Int) : W (m_spec_l01Split s c) fun r => r.map lst = spl c (lst s) := by
  have hl := lst_length s
  unfold m_spec_l01Split
  refine W.upto (fun t => t.2.2) s.size (fun t => 0 ≤ t.2.1 ∧ t.2.1 ≤ t.2.2 ∧ t.2.2 ≤ s.size ∧ (t.1.length : Int) ≤ t.2.2 ∧ spl c (lst s) = t.1.map lst ++ consH (((lst s).drop t.2.1.toNat).take (t.2.2.toNat - t.2.1.toNat)) (spl c ((lst s).drop t.2.2.toNat)))
    ⟨by simp, by simp, by simp, by simp, by simp [consH_nil (spl_ne c (lst s))]⟩ ?_
  rintro ⟨x1, x2, x3⟩ ⟨h1, h2, h3, h4, h5⟩
  simp only at h1 h2 h3 h4 h5
  unfold m_spec_l01Split_l0
  refine W.condP (fun h => W.chk (by omega) ?_) (fun h => ?_)
  · have hd := lst_getD_drop (l := lst s) (i := x3.toNat) (by omega)
    have e1 : (x3 + 1).toNat = x3.toNat + 1 := by omega
    rw [bt_lst]
    refine W.condEq (fun h' => W.chk (by omega) (W.chk (by omega) (W.some ?_))) (fun h' => W.some ?_)
    · simp only
      rw [w64 (by omega)]
      refine ⟨⟨by omega, by omega, by omega, by simp; omega, ?_⟩, by omega, by omega⟩
      rw [h5, hd, spl, if_pos h', List.map_append, e1, Nat.sub_self, List.take_zero, consH_nil (spl_ne _ _), List.append_assoc]
      simp [consH, lst_extract]
    · simp only
      rw [w64 (by omega)]
      refine ⟨⟨by omega, by omega, by omega, by omega, ?_⟩, by omega, by omega⟩
      rw [h5, hd, spl, if_neg h', consH_consH, e1, take_drop_snoc (by omega) (by omega)]
  · refine W.some ?_
    simp only [if_true]
    refine W.chk (by omega) (W.chk (by omega) (W.some ?_))
    have e : x3.toNat = (lst s).length := by omega
    rw [h5, e, List.drop_length, List.map_append]
    have : lst (s.extract x2.toNat s.size) = ((lst s).drop x2.toNat).take ((lst s).length - x2.toNat) := by rw [lst_extract, hl]
    simp only [List.map_cons, List.map_nil, this, spl, consH, List.append_nil]

/-- what a text is read as -/
def Can (q : Sq) : Prop := q.t = tabF q.order q.t
def ParseOf (s : ByteArray) (r : Sq × Int) : Prop := (∃ q, Latin q ∧ Can q ∧ lst s = txt q ∧ r = (q, 0)) ∨ ((∀ q, Latin q → lst s ≠ txt q) ∧ r = (sq0, 6))
theorem ParseOf.eq {s : ByteArray} {r r' : Sq × Int} (h : ParseOf s r) (h' : ParseOf s r') : r = r' := by
  rcases h with ⟨q, L, C, e, f⟩ | ⟨n, f⟩ <;> rcases h' with ⟨q', L', C', e', f'⟩ | ⟨n', f'⟩
  · obtain ⟨a, b⟩ := txt_inj L L' (by rw [← e, ← e'])
    have : q = q' := by
      obtain ⟨o, t⟩ := q
      obtain ⟨o', t'⟩ := q'
      simp only at a b
      subst a
      have : t = t' := by
        have c : t = tabF o t := C
        have c' : t' = tabF o t' := C'
        rw [c, c']
        funext i j
        unfold tabF
        split
        · rename_i e; exact b i j e.1 e.2
        · rfl
      rw [this]
    rw [f, f', this]
  · exact absurd e (n' q L)
  · exact absurd e' (n q' L')
  · rw [f, f']
theorem Latin.of_same {p q : Sq} (h : Latin q) (e : p.order = q.order) (a : ∀ x y : Nat, (x : Int) < q.order → (y : Int) < q.order → p.t x y = q.t x y) (z : ∀ x y : Nat, q.order ≤ x ∨ q.order ≤ y → p.t x y = 0) : Latin p := by
  refine ⟨by rw [e]; exact h.n1, by rw [e]; exact h.n10, fun x hx => ?_, fun y hy => ?_, fun x y _ _ hn => z x y (by rw [← e]; exact hn)⟩
  · rw [e] at hx ⊢; exact (h.row x hx).ext fun i hi => a x i hx hi
  · rw [e] at hy ⊢; exact (h.col y hy).ext fun i hi => a i y hi hy
theorem can_tabF (n : Int) (g : Nat → Nat → Int) : Can ⟨n, tabF n g⟩ := by
  show tabF n g = tabF n (tabF n g)
  funext i j
  unfold tabF
  split
  · rfl
  · rfl
theorem byt_tabF {n : Int} {g : Nat → Nat → Int} (h : ∀ x y : Nat, 0 ≤ g x y ∧ g x y ≤ 255) : Byt (tabF n g) := fun x y _ _ => by
  unfold tabF
  split
  · exact h x y
  · omega

theorem ba_eq {a b : ByteArray} : (a == b) = true ↔ a = b := by
  cases a with | mk x => cases b with | mk y =>
  constructor
  · intro h
    have this : x = y := eq_of_beq (α := Array UInt8) h
    rw [this]
  · intro h
    cases h
    exact beq_self_eq_true (α := Array UInt8) _

theorem ParseSquare_W {s : ByteArray} : W (m_impl_ParseSquare s) (ParseOf s) := by
  have hl := lst_length s
  unfold m_impl_ParseSquare
  refine W.upto (fun t => t.1) 11 (fun t => 1 ≤ t.1 ∧ t.1 ≤ 11 ∧ ∀ q, Latin q → q.order < t.1 → lst s ≠ txt q) ⟨by simp, by simp, fun q L h => by have := L.n1; simp only at h; omega⟩ ?_
  rintro ⟨n, x2⟩ ⟨g1, g2, g3⟩
  simp only at g1 g2 g3
  unfold m_impl_ParseSquare_l0
  refine W.condP (fun h => ?_) (fun h => ?_)
  · have p1 : n * (n + 1) ≤ 10 * 11 := Int.mul_le_mul h (by omega) (by omega) (by omega)
    have p0 : 1 * 1 ≤ n * (n + 1) := Int.mul_le_mul g1 (by omega) (by omega) (by omega)
    have next : (∀ q, Latin q → q.order = n → lst s ≠ txt q) → ∀ q, Latin q → q.order < n + 1 → lst s ≠ txt q := fun H q L hq => by
      by_cases e : q.order = n
      · exact H q L e
      · exact g3 q L (by omega)
    have size_of : ∀ q, Latin q → q.order = n → lst s = txt q → (s.size : Int) = n * (n + 1) - 1 := fun q L e f => by
      have := txt_length L
      rw [← f, hl] at this
      have e2 : ((q.order.toNat * (q.order.toNat + 1) : Nat) : Int) = n * (n + 1) := by
        rw [Int.natCast_mul, Int.natCast_add, Int.toNat_of_nonneg (by omega), e]; rfl
      omega
    have w1 : IntKind.i64.wrap (n + 1) = n + 1 := w64 (by omega)
    have w2 : IntKind.i64.wrap (n * (n + 1)) = n * (n + 1) := w64 (by omega)
    rw [w1, w2, w64 (n := n * (n + 1) - 1) (by omega)]
    refine W.condNe (fun hn => W.some ⟨⟨by simp only; omega, by simp only; omega, next fun q L e f => hn (size_of q L e f)⟩, by simp only; omega, by simp only; omega⟩) (fun he => ?_)
    refine W.call (made_W (n := n) (g := fun x y => IntKind.u8.wrap (bt s (x * (n.toNat + 1) + y) - 48)) (by omega) h fun x y hx hy => ?_) fun r hr => ?_
    · unfold m_impl_ParseSquare_1
      have m1 : (x : Int) * (n + 1) ≤ (n - 1) * (n + 1) := Int.mul_le_mul_of_nonneg_right (by omega) (by omega)
      have m0 : 0 ≤ (x : Int) * (n + 1) := Int.mul_nonneg (by omega) (by omega)
      have m2 : (n - 1) * (n + 1) = n * (n + 1) - (n + 1) := by rw [Int.sub_mul]; omega
      have m3 : ((x : Int) * (n + 1) + y).toNat = x * (n.toNat + 1) + y := by
        have : ((x * (n.toNat + 1) : Nat) : Int) = (x : Int) * (n + 1) := by rw [Int.natCast_mul, Int.natCast_add, Int.toNat_of_nonneg (by omega)]; rfl
        omega
      rw [w1, w64 (n := (x : Int)) (by omega), w64 (n := (y : Int)) (by omega), w64 (n := (x : Int) * (n + 1)) (by omega), w64 (n := (x : Int) * (n + 1) + y) (by omega), m3]
      exact W.chk (by omega) (W.some rfl)
    · have hb : Byt r.t := by subst hr; exact byt_tabF fun x y => w8_lt _
      have key : ∀ q, Latin q → q.order = n → lst s = txt q → Latin r ∧ txt r = txt q := fun q L e f => by
        have at_ : ∀ x y : Nat, (x : Int) < q.order → (y : Int) < q.order → r.t x y = q.t x y := fun x y hx hy => by
          subst hr
          show tabF n (fun x y => IntKind.u8.wrap (bt s (x * (n.toNat + 1) + y) - 48)) x y = _
          rw [tabF_lt (by omega) (by omega)]
          have lt := L.lt hx hy; have := L.n10
          rw [bt_lst, f, ← e, txt_getD hx hy, w8 (by omega)]; omega
        have eo : r.order = q.order := by subst hr; exact e.symm
        exact ⟨L.of_same eo at_ fun x y hn => by subst hr; exact tabF_zero (g := fun x y => IntKind.u8.wrap (bt s (x * (n.toNat + 1) + y) - 48)) (by omega), txt_congr eo at_⟩
      refine W.call (IsSquare_W hb) fun b hb' => W.cond (fun ht => ?_) (fun hf => W.some ⟨⟨by simp only; omega, by simp only; omega, next fun q L e f => ne_true_of_false hf (hb'.2 (key q L e f).1)⟩, by simp only; omega, by simp only; omega⟩)
      have L := hb'.1 ht
      refine W.call (squareText_W L) fun t et => W.cond (fun e0 => have e := ba_eq.1 e0; W.some (W.some (.inl ⟨r, L, ?_, ?_, rfl⟩))) (fun e0 => have e : ¬ t = s := fun h => ne_true_of_false e0 (ba_eq.2 h); W.some ⟨⟨by simp only; omega, by simp only; omega, next fun q L' e' f => e ?_⟩, by simp only; omega, by simp only; omega⟩)
      · subst hr; exact can_tabF _ _
      · rw [← e, et, lst_strOf (txt_byte L)]
      · refine lst_inj ?_
        rw [et, lst_strOf (txt_byte L), f]
        exact (key q L' e' f).2
  · refine W.some ?_
    simp only [if_true]
    exact W.some (.inr ⟨fun q L => g3 q L (by have := L.n10; omega), rfl⟩)

theorem map_getD {r : List ByteArray} {x : Nat} : (r.map lst).getD x [] = lst (r.getD x ⟨#[]⟩) := by
  rw [List.getD_eq_getElem?_getD, List.getElem?_map, List.getD_eq_getElem?_getD]
  cases r[x]? <;> rfl
theorem list_ext_getD {l m : List Int} (h : l.length = m.length) (e : ∀ i, i < l.length → l.getD i 0 = m.getD i 0) : l = m := by
  refine List.ext_getElem h fun i hi hi' => ?_
  have := e i hi
  rw [List.getD_eq_getElem?_getD, List.getD_eq_getElem?_getD, List.getElem?_eq_getElem hi, List.getElem?_eq_getElem hi'] at this
  exact this
theorem rows_ext {l m : List (List Int)} (h : l.length = m.length) (e : ∀ i, i < l.length → l.getD i [] = m.getD i []) : l = m := by
  refine List.ext_getElem h fun i hi hi' => ?_
  have := e i hi
  rw [List.getD_eq_getElem?_getD, List.getD_eq_getElem?_getD, List.getElem?_eq_getElem hi, List.getElem?_eq_getElem hi'] at this
  exact this

theorem l01Read_full {s : ByteArray} (hs : s.size ≤ 1000000000000) : W (m_spec_l01Read s) fun r => (∃ q, Latin q ∧ Can q ∧ lst s = txt q ∧ r = (q, true)) ∨ ((∀ q, Latin q → lst s ≠ txt q) ∧ r.2 = false) := by
  unfold m_spec_l01Read
  refine W.call (l01Split_full hs _) fun l hl => ?_
  -- what the text of a square would say of the rows
  have tell : ∀ q, Latin q → lst s = txt q → l.map lst = digs q q.order.toNat := fun q L f => by rw [hl, f, spl_txt L]
  have tl : ∀ q, Latin q → lst s = txt q → (l.length : Int) = q.order := fun q L f => by
    have := congrArg List.length (tell q L f)
    rw [List.length_map, digs_length] at this
    have := L.n1; omega
  have tr : ∀ q, Latin q → lst s = txt q → ∀ x : Nat, (x : Int) < q.order → lst (l.getD x ⟨#[]⟩) = digR q x := fun q L f x hx => by
    rw [← map_getD, tell q L f, digs_getD (by omega)]
  have l1 : 1 ≤ l.length := by
    have := spl_ne 47 (lst s)
    rw [← hl] at this
    cases l with
    | nil => exact absurd rfl this
    | cons a b => simp
  refine W.condP (fun h => W.some (.inr ⟨fun q L f => ?_, rfl⟩)) (fun h => ?_)
  · have := tl q L f; have := L.n10; omega
  refine W.upto (fun t => t.1) l.length (fun t => 0 ≤ t.1 ∧ t.1 ≤ l.length ∧ t.2.2.order = l.length ∧ Fil l.length (fun x y => bt (l.getD x ⟨#[]⟩) y - 48) t.1 0 t.2.2.t ∧ ∀ x : Nat, (x : Int) < t.1 → (l.getD x ⟨#[]⟩).size = l.length ∧ ∀ y : Nat, (y : Int) < l.length → 48 ≤ bt (l.getD x ⟨#[]⟩) y ∧ bt (l.getD x ⟨#[]⟩) y ≤ 57)
    ⟨by simp, by simp, rfl, Fil.zero, fun x hx => by simp only at hx; omega⟩ ?_
  rintro ⟨x1, x2, ⟨o, t⟩⟩ ⟨h1, h2, h3, h4, h5⟩
  simp only at h1 h2 h3 h4 h5
  unfold m_spec_l01Read_l0
  refine W.condP (fun h' => W.chk (by omega) (W.condNe (fun hn => W.some (W.some (.inr ⟨fun q L f => hn ?_, rfl⟩))) (fun he => ?_))) (fun h' => ?_)
  · have a := tl q L f
    have b := tr q L f x1.toNat (by omega)
    have c := digR_length q x1.toNat
    rw [← b, lst_length] at c
    omega
  · refine W.upto (fun t => t.1) l.length (fun t => 0 ≤ t.1 ∧ t.1 ≤ l.length ∧ t.2.2.order = l.length ∧ Fil l.length (fun x y => bt (l.getD x ⟨#[]⟩) y - 48) x1 t.1 t.2.2.t ∧ ∀ y : Nat, (y : Int) < t.1 → 48 ≤ bt (l.getD x1.toNat ⟨#[]⟩) y ∧ bt (l.getD x1.toNat ⟨#[]⟩) y ≤ 57)
      ⟨by simp, by simp, h3, h4, fun x hx => by simp only at hx; omega⟩ ?_
    rintro ⟨x4, x5, ⟨o', t'⟩⟩ ⟨g1, g2, g3, g4, g5⟩
    simp only at g1 g2 g3 g4 g5
    have nod : x4 < l.length → ∀ q, Latin q → lst s = txt q → 48 ≤ bt (l.getD x1.toNat ⟨#[]⟩) x4.toNat ∧ bt (l.getD x1.toNat ⟨#[]⟩) x4.toNat ≤ 57 := fun hx4 q L f => by
      have a := tl q L f
      have b := tr q L f x1.toNat (by omega)
      have := L.lt (x := x1.toNat) (y := x4.toNat) (by omega) (by omega)
      have := L.n10
      rw [bt_lst, b, digR_getD (by omega)]; omega
    unfold m_spec_l01Read_l1
    refine W.condP (fun g => W.chk (by omega) (W.chk (by omega) (W.condP (fun hd => W.some (W.some (W.some (.inr ⟨fun q L f => ?_, rfl⟩)))) (fun hd => W.chk (by omega) (W.chk (by omega) (W.condP (fun hd' => W.some (W.some (W.some (.inr ⟨fun q L f => ?_, rfl⟩)))) (fun hd' => W.chk (by omega) (W.chk (by omega) (W.chk (by omega) (W.chk (by omega) (W.some ?_)))))))))))
      (fun g => W.some ?_)
    · have := nod g q L f; omega
    · have := nod g q L f; omega
    · simp only
      rw [w64 (n := x4 + 1) (by omega), w8 (by omega)]
      refine ⟨⟨by omega, by omega, g3, g4.step h1 g1 g, fun y hy => ?_⟩, by omega, by omega⟩
      by_cases e' : (y : Int) = x4
      · have : y = x4.toNat := by omega
        subst this; omega
      · exact g5 y (by omega)
    · simp only [if_true]
      refine W.some ?_
      simp only
      rw [w64 (by omega)]
      refine ⟨⟨by omega, by omega, g3, g4.row (by omega), fun x hx => ?_⟩, by omega, by omega⟩
      by_cases e' : (x : Int) = x1
      · have : x = x1.toNat := by omega
        subst this; exact ⟨by omega, fun y hy => g5 y (by omega)⟩
      · exact h5 x (by omega)
  · refine W.some ?_
    simp only [if_true]
    have e0 : (⟨o, t⟩ : Sq) = ⟨l.length, tabF l.length (fun x y => bt (l.getD x ⟨#[]⟩) y - 48)⟩ := by rw [h3, h4.full (by omega)]
    rw [e0]
    have dig : ∀ x y : Nat, (x : Int) < l.length → (y : Int) < l.length → 48 ≤ bt (l.getD x ⟨#[]⟩) y ∧ bt (l.getD x ⟨#[]⟩) y ≤ 57 := fun x y hx hy => (h5 x (by omega)).2 y hy
    have hb : Byt (tabF l.length (fun x y => bt (l.getD x ⟨#[]⟩) y - 48)) := fun x y _ _ => by
      unfold tabF
      split
      · rename_i e; have := dig x y e.1 e.2; simp only; omega
      · omega
    refine W.call (l01Is_W hb) fun b hb' => W.some ?_
    cases b with
    | true =>
      have L := hb'.1 rfl
      refine .inl ⟨_, L, can_tabF _ _, ?_, rfl⟩
      have : l.map lst = digs ⟨l.length, tabF l.length (fun x y => bt (l.getD x ⟨#[]⟩) y - 48)⟩ l.length := by
        refine rows_ext (by rw [List.length_map, digs_length]) fun x hx => ?_
        rw [List.length_map] at hx
        rw [map_getD, digs_getD hx]
        refine list_ext_getD (by rw [lst_length, digR_length, (h5 x (by omega)).1]; simp) fun y hy => ?_
        rw [lst_length, (h5 x (by omega)).1] at hy
        rw [digR_getD (by simp only; omega), ← bt_lst]
        simp only
        rw [tabF_lt (by omega) (by omega)]; omega
      rw [← joinC_spl (lst s), ← hl, this]
      rfl
    | false =>
      refine .inr ⟨fun q L f => ?_, rfl⟩
      have a := tl q L f
      refine ne_true_of_false rfl (hb'.2 (L.of_same a (fun x y hx hy => ?_) fun x y hn => tabF_zero (g := fun x y => bt (l.getD x ⟨#[]⟩) y - 48) (by omega)))
      have b := tr q L f x hx
      show tabF (l.length : Int) (fun x y => bt (l.getD x ⟨#[]⟩) y - 48) x y = _
      rw [tabF_lt (by omega) (by omega), bt_lst, b, digR_getD hy]; omega

theorem spec_ParseSquare_W {s : ByteArray} (hs : s.size ≤ 1000000000000) : W (m_spec_ParseSquare s) (ParseOf s) := by
  unfold m_spec_ParseSquare
  refine W.call (l01Read_full hs) fun r hr => ?_
  rcases hr with ⟨q, L, C, e, f⟩ | ⟨n, f⟩
  · subst f
    exact W.condNot (fun h => by simp at h) (fun _ => W.some (.inl ⟨q, L, C, e, rfl⟩))
  · exact W.condNot (fun _ => W.some (.inr ⟨n, rfl⟩)) (fun h => by rw [f] at h; cases h)
end Go.Pu

/- Plain laws: the numbers that follow one another; they are not for ever divisible by 3. -/
namespace Go.Pu
open Go Go.Abs Go.Lab

def stp (h : Nat) : Nat := (h * 6364136223846793005 + 1442695040888963407) % 18446744073709551616
def itr (f : Nat → Nat) : Nat → Nat → Nat
  | 0, h => h
  | n + 1, h => itr f n (f h)
theorem itr_add (f : Nat → Nat) (m n h : Nat) : itr f (m + n) h = itr f n (itr f m h) := by
  induction m generalizing h with
  | zero => simp [itr]
  | succ m ih => rw [Nat.succ_add]; exact ih (f h)
theorem itr_one (f : Nat → Nat) (h : Nat) : itr f 1 h = f h := rfl
theorem itr_three (f : Nat → Nat) (h : Nat) : itr f 3 h = f (f (f h)) := rfl
def its (n h : Nat) : Nat := itr stp n h
def vv (h : Nat) : Nat := h / 8589934592 % 16777216
theorem its_add (m n h : Nat) : its (m + n) h = its n (its m h) := itr_add stp m n h
theorem its_one (h : Nat) : its 1 h = stp h := itr_one stp h
theorem its_three (h : Nat) : its 3 h = stp (stp (stp h)) := itr_three stp h
theorem its_zero (h : Nat) : its 0 h = h := by unfold its itr; rfl
def ac : Nat → Nat × Nat
  | 0 => (6364136223846793005, 1442695040888963407)
  | j + 1 => ((ac j).1 * (ac j).1 % 18446744073709551616, (ac j).2 * ((ac j).1 + 1) % 18446744073709551616)
theorem aff_mod (h a c M : Nat) : (h % M * a + c) % M = (h * a + c) % M := by
  rw [Nat.add_mod, Nat.mul_mod, Nat.mod_mod, ← Nat.mul_mod, ← Nat.add_mod]
theorem aff_mod' (h a c M : Nat) : (h * (a % M) + c % M) % M = (h * a + c) % M := by
  rw [Nat.add_mod, Nat.mul_mod, Nat.mod_mod, Nat.mod_mod, ← Nat.mul_mod, ← Nat.add_mod]
theorem its_pow (j : Nat) (h : Nat) : its (2 ^ j) h = (h * (ac j).1 + (ac j).2) % 18446744073709551616 := by
  induction j generalizing h with
  | zero => rw [Nat.pow_zero, its_one]; unfold stp ac; rfl
  | succ j ih =>
    have e : 2 ^ (j + 1) = 2 ^ j + 2 ^ j := by rw [Nat.pow_succ]; omega
    rw [e, its_add, ih, ih, aff_mod]
    show _ = (h * ((ac j).1 * (ac j).1 % 18446744073709551616) + (ac j).2 * ((ac j).1 + 1) % 18446744073709551616) % 18446744073709551616
    rw [aff_mod']
    refine congrArg (· % 18446744073709551616) ?_
    rw [Nat.add_mul, Nat.mul_add, Nat.mul_assoc]
    omega

/-! ## All low bits are met -/
theorem two_ways {x y P : Nat} (hP : 0 < P) (h : x % P = y % P) : x % (P * 2) = y % (P * 2) ∨ (x + P) % (P * 2) = y % (P * 2) := by
  rw [Nat.mod_mul, Nat.mod_mul, Nat.mod_mul, Nat.add_mod_right, Nat.add_div_right _ hP, h]
  by_cases e : x / P % 2 = y / P % 2
  · exact .inl (by rw [e])
  · refine .inr ?_
    have : (x / P).succ % 2 = y / P % 2 := by omega
    rw [this]
theorem ac_low : ∀ j, j < 20 → (ac j).1 % 2 ^ (j + 1) = 1 ∧ (ac j).2 % 2 ^ (j + 1) = 2 ^ j := by decide
theorem dvd_two {j : Nat} (h : j ≤ 64) : 2 ^ j ∣ 18446744073709551616 :=
  ⟨2 ^ (64 - j), by rw [← Nat.pow_add, Nat.add_sub_cancel' h]⟩
theorem reach (h H : Nat) (hp : h % 2 = H % 2) : ∀ j, j < 20 → ∃ n, n < 2 ^ (j + 1) ∧ n % 2 = 0 ∧ its n h % 2 ^ (j + 1) = H % 2 ^ (j + 1)
  | 0, _ => ⟨0, by decide, rfl, by rw [its_zero]; exact hp⟩
  | j + 1, hj => by
    obtain ⟨n, hn, he, hm⟩ := reach h H hp j (by omega)
    have e2 : 2 ^ (j + 1 + 1) = 2 ^ (j + 1) * 2 := Nat.pow_succ ..
    have pos : 0 < 2 ^ (j + 1) := Nat.pow_pos (by decide)
    rcases two_ways pos hm with e | e
    · exact ⟨n, by omega, he, by rw [e2]; exact e⟩
    · refine ⟨n + 2 ^ (j + 1), by omega, ?_, ?_⟩
      · have : 2 ^ (j + 1) = 2 ^ j * 2 := Nat.pow_succ ..
        omega
      · obtain ⟨a1, a2⟩ := ac_low (j + 1) hj
        rw [its_add, its_pow, Nat.mod_mod_of_dvd _ (dvd_two (by omega)), Nat.add_mod, Nat.mul_mod, a1, a2, Nat.mul_one, Nat.mod_mod, e2]
        rw [Nat.add_mod] at e
        rw [Nat.add_mod, Nat.mod_mod]
        exact e

/-! ## Far ahead -/
theorem stp_shift (h w : Nat) : stp ((h + 34359738368 * w) % 18446744073709551616) = (stp h + 34359738368 * (w * 6364136223846793005)) % 18446744073709551616 := by
  unfold stp
  rw [aff_mod]
  omega
theorem vv_shift (x w : Nat) : vv ((x + 34359738368 * w) % 18446744073709551616) = (vv x + 4 * w) % 16777216 := by
  unfold vv
  omega
theorem its35 (h : Nat) : its 34359738368 h = (h * 2574540698736918529 + 7114236227695411200) % 18446744073709551616 := by
  have := its_pow 35 h
  have e : ac 35 = (2574540698736918529, 7114236227695411200) := by decide
  rw [e] at this
  exact this
theorem far (h w : Nat) : its 34359738368 ((h + 34359738368 * w) % 18446744073709551616) = (h + 34359738368 * (h * 74928996 + 207051525 + w * 2574540698736918529)) % 18446744073709551616 := by
  rw [its35, aff_mod]
  omega
theorem nowrap3 {v D : Nat} (h : v + D < 16777216) : (v + D) % 16777216 % 3 = (v % 3 + D % 3) % 3 := by rw [Nat.mod_eq_of_lt h, Nat.add_mod]
theorem wrap3 {v D : Nat} (h : 16777216 ≤ v + D) (h' : v + D < 33554432) : (v + D) % 16777216 % 3 = (v % 3 + D % 3 + 2) % 3 := by omega
theorem thirds (v : Nat) : v % 3 = 0 ∨ v % 3 = 1 ∨ v % 3 = 2 := by omega
theorem meet4_v (v : Nat) (hv : v < 16777216) : (v % 3 ≠ 0 ∧ ((v + 14969224) % 16777216) % 3 ≠ 0) ∨ (((v + 7484612) % 16777216) % 3 ≠ 0 ∧ ((v + 5676620) % 16777216) % 3 ≠ 0) := by
  by_cases h0 : v < 1807992
  ·
    rw [nowrap3 (v := v) (D := 7484612) (by omega), nowrap3 (v := v) (D := 14969224) (by omega), nowrap3 (v := v) (D := 5676620) (by omega)]
    rcases thirds v with r | r | r <;> rw [r] <;> decide
  by_cases h1 : v < 9292604
  ·
    rw [nowrap3 (v := v) (D := 7484612) (by omega), wrap3 (v := v) (D := 14969224) (by omega) (by omega), nowrap3 (v := v) (D := 5676620) (by omega)]
    rcases thirds v with r | r | r <;> rw [r] <;> decide
  by_cases h2 : v < 11100596
  ·
    rw [wrap3 (v := v) (D := 7484612) (by omega) (by omega), wrap3 (v := v) (D := 14969224) (by omega) (by omega), nowrap3 (v := v) (D := 5676620) (by omega)]
    rcases thirds v with r | r | r <;> rw [r] <;> decide
  rw [wrap3 (v := v) (D := 7484612) (by omega) (by omega), wrap3 (v := v) (D := 14969224) (by omega) (by omega), wrap3 (v := v) (D := 5676620) (by omega) (by omega)]
  rcases thirds v with r | r | r <;> rw [r] <;> decide
theorem meet4_u (v : Nat) (hv : v < 16777216) : (v % 3 ≠ 0 ∧ ((v + 1473124) % 16777216) % 3 ≠ 0) ∨ (v % 3 ≠ 0 ∧ ((v + 4419372) % 16777216) % 3 ≠ 0) ∨ (((v + 1473124) % 16777216) % 3 ≠ 0 ∧ ((v + 2946248) % 16777216) % 3 ≠ 0) ∨ (((v + 2946248) % 16777216) % 3 ≠ 0 ∧ ((v + 4419372) % 16777216) % 3 ≠ 0) := by
  by_cases h0 : v < 12357844
  ·
    rw [nowrap3 (v := v) (D := 1473124) (by omega), nowrap3 (v := v) (D := 2946248) (by omega), nowrap3 (v := v) (D := 4419372) (by omega)]
    rcases thirds v with r | r | r <;> rw [r] <;> decide
  by_cases h1 : v < 13830968
  ·
    rw [nowrap3 (v := v) (D := 1473124) (by omega), nowrap3 (v := v) (D := 2946248) (by omega), wrap3 (v := v) (D := 4419372) (by omega) (by omega)]
    rcases thirds v with r | r | r <;> rw [r] <;> decide
  by_cases h2 : v < 15304092
  ·
    rw [nowrap3 (v := v) (D := 1473124) (by omega), wrap3 (v := v) (D := 2946248) (by omega) (by omega), wrap3 (v := v) (D := 4419372) (by omega) (by omega)]
    rcases thirds v with r | r | r <;> rw [r] <;> decide
  rw [wrap3 (v := v) (D := 1473124) (by omega) (by omega), wrap3 (v := v) (D := 2946248) (by omega) (by omega), wrap3 (v := v) (D := 4419372) (by omega) (by omega)]
  rcases thirds v with r | r | r <;> rw [r] <;> decide
theorem meet4_all (v u : Nat) (hv : v < 16777216) (hu : u < 16777216) : (v % 3 ≠ 0 ∧ u % 3 ≠ 0) ∨ (((v + 7484612) % 16777216) % 3 ≠ 0 ∧ ((u + 1473124) % 16777216) % 3 ≠ 0) ∨ (((v + 14969224) % 16777216) % 3 ≠ 0 ∧ ((u + 2946248) % 16777216) % 3 ≠ 0) ∨ (((v + 5676620) % 16777216) % 3 ≠ 0 ∧ ((u + 4419372) % 16777216) % 3 ≠ 0) := by
  rcases meet4_v v hv with ⟨a0, a2⟩ | ⟨a1, a3⟩ <;> rcases meet4_u u hu with ⟨b0, b1⟩ | ⟨b0, b3⟩ | ⟨b1, b2⟩ | ⟨b2, b3⟩
  · exact .inl ⟨a0, b0⟩
  · exact .inl ⟨a0, b0⟩
  · exact .inr (.inr (.inl ⟨a2, b2⟩))
  · exact .inr (.inr (.inl ⟨a2, b2⟩))
  · exact .inr (.inl ⟨a1, b1⟩)
  · exact .inr (.inr (.inr (⟨a3, b3⟩)))
  · exact .inr (.inl ⟨a1, b1⟩)
  · exact .inr (.inr (.inr (⟨a3, b3⟩)))
theorem meet4 {h : Nat} (hh : h % 1048576 = 4) : ∃ k, k < 4 ∧ vv (its (k * 34359738368 + 1) h) % 3 ≠ 0 ∧ vv (its (k * 34359738368 + 3) h) % 3 ≠ 0 := by
  obtain ⟨w1, e1⟩ : ∃ w, w = h * 74928996 + 207051525 := ⟨_, rfl⟩
  obtain ⟨w2, e2⟩ : ∃ w, w = h * 74928996 + 207051525 + w1 * 2574540698736918529 := ⟨_, rfl⟩
  obtain ⟨w3, e3⟩ : ∃ w, w = h * 74928996 + 207051525 + w2 * 2574540698736918529 := ⟨_, rfl⟩
  have m1 : w1 % 4194304 = 3451029 := by omega
  have m2 : w2 % 4194304 = 2707754 := by omega
  have m3 : w3 % 4194304 = 1964479 := by omega
  have j1 : its 34359738368 h = (h + 34359738368 * w1) % 18446744073709551616 := by rw [its35, e1]; omega
  have j2 : its (2 * 34359738368) h = (h + 34359738368 * w2) % 18446744073709551616 := by rw [show 2 * 34359738368 = 34359738368 + 34359738368 from rfl, its_add, j1, far, e2]
  have j3 : its (3 * 34359738368) h = (h + 34359738368 * w3) % 18446744073709551616 := by rw [show 3 * 34359738368 = 2 * 34359738368 + 34359738368 from rfl, its_add, j2, far, e3]
  have s1 : ∀ g, its 1 g = stp g := its_one
  have s3 : ∀ g, its 3 g = stp (stp (stp g)) := its_three
  have f1 : ∀ w, vv (stp ((h + 34359738368 * w) % 18446744073709551616)) = (vv (stp h) + 4 * (w * 6364136223846793005)) % 16777216 := fun w => by rw [stp_shift, vv_shift]
  have f3 : ∀ w, vv (stp (stp (stp ((h + 34359738368 * w) % 18446744073709551616)))) = (vv (stp (stp (stp h))) + 4 * (w * 6364136223846793005 * 6364136223846793005 * 6364136223846793005)) % 16777216 := fun w => by rw [stp_shift, stp_shift, stp_shift, vv_shift]
  have b1 : vv (stp h) < 16777216 := Nat.mod_lt _ (by decide)
  have b3 : vv (stp (stp (stp h))) < 16777216 := Nat.mod_lt _ (by decide)
  have p1 := f1 w1; have q1 := f3 w1
  have p1' : vv (stp ((h + 34359738368 * w1) % 18446744073709551616)) = (vv (stp h) + 7484612) % 16777216 := by rw [p1]; clear p1 q1 f1 f3; omega
  have q1' : vv (stp (stp (stp ((h + 34359738368 * w1) % 18446744073709551616)))) = (vv (stp (stp (stp h))) + 1473124) % 16777216 := by rw [q1]; clear p1 q1 f1 f3; omega
  have p2 := f1 w2; have q2 := f3 w2
  have p2' : vv (stp ((h + 34359738368 * w2) % 18446744073709551616)) = (vv (stp h) + 14969224) % 16777216 := by rw [p2]; clear p2 q2 f1 f3; omega
  have q2' : vv (stp (stp (stp ((h + 34359738368 * w2) % 18446744073709551616)))) = (vv (stp (stp (stp h))) + 2946248) % 16777216 := by rw [q2]; clear p2 q2 f1 f3; omega
  have p3 := f1 w3; have q3 := f3 w3
  have p3' : vv (stp ((h + 34359738368 * w3) % 18446744073709551616)) = (vv (stp h) + 5676620) % 16777216 := by rw [p3]; clear p3 q3 f1 f3; omega
  have q3' : vv (stp (stp (stp ((h + 34359738368 * w3) % 18446744073709551616)))) = (vv (stp (stp (stp h))) + 4419372) % 16777216 := by rw [q3]; clear p3 q3 f1 f3; omega
  have all := meet4_all _ _ b1 b3
  rcases all with ⟨x, y⟩ | ⟨x, y⟩ | ⟨x, y⟩ | ⟨x, y⟩
  · exact ⟨0, by decide, by rw [Nat.zero_mul, Nat.zero_add, s1]; exact x, by rw [Nat.zero_mul, Nat.zero_add, s3]; exact y⟩
  · exact ⟨1, by decide, by rw [Nat.one_mul, its_add, j1, s1, p1']; exact x, by rw [Nat.one_mul, its_add, j1, s3, q1']; exact y⟩
  · exact ⟨2, by decide, by rw [its_add, j2, s1, p2']; exact x, by rw [its_add, j2, s3, q2']; exact y⟩
  · exact ⟨3, by decide, by rw [its_add, j3, s1, p3']; exact x, by rw [its_add, j3, s3, q3']; exact y⟩
theorem meet35_v (v : Nat) (hv : v < 16777216) : (v % 3 ≠ 0 ∧ ((v + 13031656) % 16777216) % 3 ≠ 0) ∨ (((v + 6515828) % 16777216) % 3 ≠ 0 ∧ ((v + 2770268) % 16777216) % 3 ≠ 0) := by
  by_cases h0 : v < 3745560
  ·
    rw [nowrap3 (v := v) (D := 6515828) (by omega), nowrap3 (v := v) (D := 13031656) (by omega), nowrap3 (v := v) (D := 2770268) (by omega)]
    rcases thirds v with r | r | r <;> rw [r] <;> decide
  by_cases h1 : v < 10261388
  ·
    rw [nowrap3 (v := v) (D := 6515828) (by omega), wrap3 (v := v) (D := 13031656) (by omega) (by omega), nowrap3 (v := v) (D := 2770268) (by omega)]
    rcases thirds v with r | r | r <;> rw [r] <;> decide
  by_cases h2 : v < 14006948
  ·
    rw [wrap3 (v := v) (D := 6515828) (by omega) (by omega), wrap3 (v := v) (D := 13031656) (by omega) (by omega), nowrap3 (v := v) (D := 2770268) (by omega)]
    rcases thirds v with r | r | r <;> rw [r] <;> decide
  rw [wrap3 (v := v) (D := 6515828) (by omega) (by omega), wrap3 (v := v) (D := 13031656) (by omega) (by omega), wrap3 (v := v) (D := 2770268) (by omega) (by omega)]
  rcases thirds v with r | r | r <;> rw [r] <;> decide
theorem meet35_u (v : Nat) (hv : v < 16777216) : (v % 3 ≠ 0 ∧ ((v + 9705876) % 16777216) % 3 ≠ 0) ∨ (v % 3 ≠ 0 ∧ ((v + 12340412) % 16777216) % 3 ≠ 0) ∨ (((v + 2634536) % 16777216) % 3 ≠ 0 ∧ ((v + 12340412) % 16777216) % 3 ≠ 0) := by
  by_cases h0 : v < 4436804
  ·
    rw [nowrap3 (v := v) (D := 9705876) (by omega), nowrap3 (v := v) (D := 2634536) (by omega), nowrap3 (v := v) (D := 12340412) (by omega)]
    rcases thirds v with r | r | r <;> rw [r] <;> decide
  by_cases h1 : v < 7071340
  ·
    rw [nowrap3 (v := v) (D := 9705876) (by omega), nowrap3 (v := v) (D := 2634536) (by omega), wrap3 (v := v) (D := 12340412) (by omega) (by omega)]
    rcases thirds v with r | r | r <;> rw [r] <;> decide
  by_cases h2 : v < 14142680
  ·
    rw [wrap3 (v := v) (D := 9705876) (by omega) (by omega), nowrap3 (v := v) (D := 2634536) (by omega), wrap3 (v := v) (D := 12340412) (by omega) (by omega)]
    rcases thirds v with r | r | r <;> rw [r] <;> decide
  rw [wrap3 (v := v) (D := 9705876) (by omega) (by omega), wrap3 (v := v) (D := 2634536) (by omega) (by omega), wrap3 (v := v) (D := 12340412) (by omega) (by omega)]
  rcases thirds v with r | r | r <;> rw [r] <;> decide
theorem meet35_all (v u : Nat) (hv : v < 16777216) (hu : u < 16777216) : (v % 3 ≠ 0 ∧ u % 3 ≠ 0) ∨ (((v + 6515828) % 16777216) % 3 ≠ 0 ∧ ((u + 9705876) % 16777216) % 3 ≠ 0) ∨ (((v + 13031656) % 16777216) % 3 ≠ 0 ∧ ((u + 2634536) % 16777216) % 3 ≠ 0) ∨ (((v + 2770268) % 16777216) % 3 ≠ 0 ∧ ((u + 12340412) % 16777216) % 3 ≠ 0) := by
  rcases meet35_v v hv with ⟨a0, a2⟩ | ⟨a1, a3⟩ <;> rcases meet35_u u hu with ⟨b0, b1⟩ | ⟨b0, b3⟩ | ⟨b2, b3⟩
  · exact .inl ⟨a0, b0⟩
  · exact .inl ⟨a0, b0⟩
  · exact .inr (.inr (.inl ⟨a2, b2⟩))
  · exact .inr (.inl ⟨a1, b1⟩)
  · exact .inr (.inr (.inr (⟨a3, b3⟩)))
  · exact .inr (.inr (.inr (⟨a3, b3⟩)))
theorem meet35 {h : Nat} (hh : h % 1048576 = 35) : ∃ k, k < 4 ∧ vv (its (k * 34359738368 + 1) h) % 3 ≠ 0 ∧ vv (its (k * 34359738368 + 3) h) % 3 ≠ 0 := by
  obtain ⟨w1, e1⟩ : ∃ w, w = h * 74928996 + 207051525 := ⟨_, rfl⟩
  obtain ⟨w2, e2⟩ : ∃ w, w = h * 74928996 + 207051525 + w1 * 2574540698736918529 := ⟨_, rfl⟩
  obtain ⟨w3, e3⟩ : ∃ w, w = h * 74928996 + 207051525 + w2 * 2574540698736918529 := ⟨_, rfl⟩
  have m1 : w1 % 4194304 = 2605489 := by omega
  have m2 : w2 % 4194304 = 1016674 := by omega
  have m3 : w3 % 4194304 = 3622163 := by omega
  have j1 : its 34359738368 h = (h + 34359738368 * w1) % 18446744073709551616 := by rw [its35, e1]; omega
  have j2 : its (2 * 34359738368) h = (h + 34359738368 * w2) % 18446744073709551616 := by rw [show 2 * 34359738368 = 34359738368 + 34359738368 from rfl, its_add, j1, far, e2]
  have j3 : its (3 * 34359738368) h = (h + 34359738368 * w3) % 18446744073709551616 := by rw [show 3 * 34359738368 = 2 * 34359738368 + 34359738368 from rfl, its_add, j2, far, e3]
  have s1 : ∀ g, its 1 g = stp g := its_one
  have s3 : ∀ g, its 3 g = stp (stp (stp g)) := its_three
  have f1 : ∀ w, vv (stp ((h + 34359738368 * w) % 18446744073709551616)) = (vv (stp h) + 4 * (w * 6364136223846793005)) % 16777216 := fun w => by rw [stp_shift, vv_shift]
  have f3 : ∀ w, vv (stp (stp (stp ((h + 34359738368 * w) % 18446744073709551616)))) = (vv (stp (stp (stp h))) + 4 * (w * 6364136223846793005 * 6364136223846793005 * 6364136223846793005)) % 16777216 := fun w => by rw [stp_shift, stp_shift, stp_shift, vv_shift]
  have b1 : vv (stp h) < 16777216 := Nat.mod_lt _ (by decide)
  have b3 : vv (stp (stp (stp h))) < 16777216 := Nat.mod_lt _ (by decide)
  have p1 := f1 w1; have q1 := f3 w1
  have p1' : vv (stp ((h + 34359738368 * w1) % 18446744073709551616)) = (vv (stp h) + 6515828) % 16777216 := by rw [p1]; clear p1 q1 f1 f3; omega
  have q1' : vv (stp (stp (stp ((h + 34359738368 * w1) % 18446744073709551616)))) = (vv (stp (stp (stp h))) + 9705876) % 16777216 := by rw [q1]; clear p1 q1 f1 f3; omega
  have p2 := f1 w2; have q2 := f3 w2
  have p2' : vv (stp ((h + 34359738368 * w2) % 18446744073709551616)) = (vv (stp h) + 13031656) % 16777216 := by rw [p2]; clear p2 q2 f1 f3; omega
  have q2' : vv (stp (stp (stp ((h + 34359738368 * w2) % 18446744073709551616)))) = (vv (stp (stp (stp h))) + 2634536) % 16777216 := by rw [q2]; clear p2 q2 f1 f3; omega
  have p3 := f1 w3; have q3 := f3 w3
  have p3' : vv (stp ((h + 34359738368 * w3) % 18446744073709551616)) = (vv (stp h) + 2770268) % 16777216 := by rw [p3]; clear p3 q3 f1 f3; omega
  have q3' : vv (stp (stp (stp ((h + 34359738368 * w3) % 18446744073709551616)))) = (vv (stp (stp (stp h))) + 12340412) % 16777216 := by rw [q3]; clear p3 q3 f1 f3; omega
  have all := meet35_all _ _ b1 b3
  rcases all with ⟨x, y⟩ | ⟨x, y⟩ | ⟨x, y⟩ | ⟨x, y⟩
  · exact ⟨0, by decide, by rw [Nat.zero_mul, Nat.zero_add, s1]; exact x, by rw [Nat.zero_mul, Nat.zero_add, s3]; exact y⟩
  · exact ⟨1, by decide, by rw [Nat.one_mul, its_add, j1, s1, p1']; exact x, by rw [Nat.one_mul, its_add, j1, s3, q1']; exact y⟩
  · exact ⟨2, by decide, by rw [its_add, j2, s1, p2']; exact x, by rw [its_add, j2, s3, q2']; exact y⟩
  · exact ⟨3, by decide, by rw [its_add, j3, s1, p3']; exact x, by rw [its_add, j3, s3, q3']; exact y⟩
/-- From every state on, soon two numbers two apart are not divisible by 3. -/
theorem soon (h : Nat) : ∃ m, m < 200000000000 ∧ m % 2 = 0 ∧ vv (its (m + 1) h) % 3 ≠ 0 ∧ vv (its (m + 3) h) % 3 ≠ 0 := by
  have fin : ∀ n k : Nat, n < 1048576 → n % 2 = 0 → k < 4 → vv (its (k * 34359738368 + 1) (its n h)) % 3 ≠ 0 → vv (its (k * 34359738368 + 3) (its n h)) % 3 ≠ 0 → ∃ m, m < 200000000000 ∧ m % 2 = 0 ∧ vv (its (m + 1) h) % 3 ≠ 0 ∧ vv (its (m + 3) h) % 3 ≠ 0 := by
    intro n k hn he hk x y
    refine ⟨n + k * 34359738368, by omega, by omega, ?_, ?_⟩
    · rw [Nat.add_assoc, its_add]; exact x
    · rw [Nat.add_assoc, its_add]; exact y
  by_cases hp : h % 2 = 0
  · obtain ⟨n, hn, he, hm⟩ := reach h 4 (by omega) 19 (by decide)
    obtain ⟨k, hk, x, y⟩ := meet4 (h := its n h) hm
    exact fin n k hn he hk x y
  · obtain ⟨n, hn, he, hm⟩ := reach h 35 (by omega) 19 (by decide)
    obtain ⟨k, hk, x, y⟩ := meet35 (h := its n h) hm
    exact fin n k hn he hk x y
end Go.Pu

/- Plain laws: texts that are drawn; the law FnSquares. -/
namespace Go.Pu
open Go Go.Abs Go.Lab

/-- A loop with a number that goes down, which the state need not tell. -/
theorem W.loopG {α σ ρ : Type} {Q : α → Prop} {step : σ → Option (Out σ ρ)} {k : Out σ ρ → Option α} (I : Nat → σ → Prop)
    (h : ∀ g s, I g s → W (step s) fun o => match o with | .next s' => ∃ g', g' < g ∧ I g' s' | .stop s' id => W (k (.stop s' id)) Q | .ret r => W (k (.ret r)) Q) :
    ∀ (m g : Nat) (s : σ), g < m → I g s → W ((loopV step s).bind k) Q := by
  intro m
  induction m with
  | zero => intro g s hg; omega
  | succ m ih =>
    intro g s hg hs
    obtain ⟨o, e, q⟩ := h g s hs
    rw [loopV_eq, e]
    cases o with
    | next s' =>
      obtain ⟨g', lt, i⟩ := q
      exact ih g' s' (by omega) i
    | stop s' id => exact q
    | ret r => exact q

theorem and24 (x : Nat) (hx : x < 18446744073709551616) : bits .and .u64 ((x : Int).fdiv (2 ^ (min ((33 : Int).toNat) IntKind.u64.bits))) 16777215 = (vv x : Nat) := by
  have e1 : (x : Int).fdiv (2 ^ (min ((33 : Int).toNat) IntKind.u64.bits)) = ((x / 8589934592 : Nat) : Int) := by
    show (x : Int).fdiv 8589934592 = _
    rw [Int.fdiv_eq_ediv_of_nonneg _ (by decide)]; omega
  rw [e1]
  show IntKind.u64.wrap ((BitVec.ofInt 64 ((x / 8589934592 : Nat) : Int) &&& BitVec.ofInt 64 16777215).toNat : Int) = _
  have e2 : (BitVec.ofInt 64 ((x / 8589934592 : Nat) : Int)).toNat = x / 8589934592 := by rw [BitVec.toNat_ofInt]; omega
  have e3 : (BitVec.ofInt 64 16777215).toNat = 2 ^ 24 - 1 := by rw [BitVec.toNat_ofInt]; rfl
  rw [BitVec.toNat_and, e2, e3, Nat.and_two_pow_sub_one_eq_mod]
  have : x / 8589934592 % 2 ^ 24 < 16777216 := Nat.mod_lt _ (by decide)
  rw [wu64 (by omega)]; rfl

theorem sign_size : ∀ k : Nat, k < 13 → (([((ByteArray.mk #[48])), ((ByteArray.mk #[49])), ((ByteArray.mk #[50])), ((ByteArray.mk #[57])), ((ByteArray.mk #[120])), ((ByteArray.mk #[42])), ((ByteArray.mk #[47])), ((ByteArray.mk #[92])), ((ByteArray.mk #[61])), ((ByteArray.mk #[40])), ((ByteArray.mk #[41])), ((ByteArray.mk #[32])), ((ByteArray.mk #[10]))]).getD k ⟨#[]⟩).size = 1 := by decide

theorem strOf_size {n : List Int} : (strOf n).size = n.length := by
  have : ∀ (n : List Int) (s : ByteArray), (n.foldl (fun r n => r.push (UInt8.ofNat n.toNat)) s).size = s.size + n.length := by
    intro n
    induction n with
    | nil => intro s; simp
    | cons a n ih => intro s; rw [List.foldl_cons, ih, ByteArray.size_push, List.length_cons]; omega
  unfold strOf
  rw [this]; simp

section
variable {l : List Int} (hl : Code l)
include hl

/-- how a draw goes on -/
structure Goes (l : List Int) (s s' : Rng) : Prop where
  hash : s'.hash = (stp s.hash.toNat : Nat)
  at_ : s'.at_ = l.length ∨ s'.at_ = s.at_ + 1
theorem Next_exact {s : Rng} (hs : SrcOk l s) {n : Int} (h1 : 1 ≤ n) (hn : n ≤ 1099511627776) : W (m_spec_l01Next s l n) fun r => SrcOk l r.2 ∧ Goes l s r.2 ∧ (0 ≤ r.1 ∧ r.1 < n) ∧ (s.at_ = l.length → r.1 = (vv (stp s.hash.toNat) : Int) % n) := by
  have := hl.len
  obtain ⟨r, er, ok, lt, _⟩ := l01Next_W hl hs n hn
  refine ⟨r, er, ok, ?_, lt h1, ?_⟩ <;> clear lt
  all_goals
    obtain ⟨a1, a2, a3, a4⟩ := hs
    have eh : IntKind.u64.wrap (IntKind.u64.wrap (s.hash * 6364136223846793005) + 1442695040888963407) = (stp s.hash.toNat : Nat) := by
      have e : ∀ x : Int, 0 ≤ x → IntKind.u64.wrap x = x % 18446744073709551616 := fun x hx => by
        have e : IntKind.u64.bits = 64 := rfl
        have s : IntKind.u64.signed = false := rfl
        simp only [IntKind.wrap, e, s, Bool.false_and]
        rw [if_neg (by simp)]
        omega
      rw [e (s.hash * 6364136223846793005) (by omega), e (s.hash * 6364136223846793005 % 18446744073709551616 + 1442695040888963407) (by omega)]
      unfold stp
      omega
    have hv : stp s.hash.toNat < 18446744073709551616 := Nat.mod_lt _ (by decide)
    have hvv : vv (stp s.hash.toNat) < 16777216 := Nat.mod_lt _ (by decide)
    unfold m_spec_l01Next at er
    rw [eh] at er
    simp only [and24 _ hv] at er
    rw [show decide (n < 1) = false from decide_eq_false (by omega)] at er
    simp only [cond_false] at er
    by_cases hc : s.at_ < (l.length : Nat)
  · simp only [hc, decide_true, cond_true] at er
    rw [if_pos ⟨a1, True.intro⟩, if_pos (show n ≠ 0 by omega)] at er
    cases er
    exact ⟨rfl, .inr (by simp only; rw [w64 (by omega)])⟩
  · simp only [hc, decide_false, cond_false] at er
    rw [if_pos (by omega)] at er
    cases er
    exact ⟨rfl, .inl (by simp only; omega)⟩
  · intro e; omega
  · simp only [hc, decide_false, cond_false] at er
    rw [if_pos (by omega)] at er
    cases er
    intro _
    simp only
    rw [w64 (by omega), Int.tmod_eq_emod_of_nonneg (by omega)]

/-- the state after i draws -/
structure At (l : List Int) (h0 i : Nat) (s : Rng) : Prop where
  ok : SrcOk l s
  hash : s.hash = (its i h0 : Nat)
  at_ : s.at_ = l.length ∨ (i : Int) ≤ s.at_
theorem At.next {h0 i : Nat} {s : Rng} (a : At l h0 i s) {n : Int} (h1 : 1 ≤ n) (hn : n ≤ 1099511627776) : W (m_spec_l01Next s l n) fun r => At l h0 (i + 1) r.2 ∧ (0 ≤ r.1 ∧ r.1 < n) ∧ (4096 ≤ i → r.1 = (vv (its (i + 1) h0) : Int) % n) := by
  have := hl.len
  have lo := a.ok.lo; have hi := a.ok.hi
  have e : stp s.hash.toNat = its (i + 1) h0 := by rw [a.hash, Int.toNat_natCast, its_add, its_one]
  refine (Next_exact hl a.ok h1 hn).mono fun r h => ⟨⟨h.1, by rw [h.2.1.hash, e], ?_⟩, h.2.2.1, fun hi' => ?_⟩
  · rcases h.2.1.at_ with x | x
    · exact .inl x
    · rcases a.at_ with y | y
      · have := h.1.hi; omega
      · exact .inr (by omega)
  · rw [h.2.2.2 (by rcases a.at_ with y | y <;> omega), e]

theorem Damage_W {h0 i : Nat} {s : Rng} (a : At l h0 i s) {t : ByteArray} (ht : t.size ≤ 1000000000000) : W (m_spec_l01Damage s l t) fun r => r.1.size ≤ t.size + 1 ∧ ∃ d, (d = 1 ∨ d = 3) ∧ At l h0 (i + d) r.2 := by
  unfold m_spec_l01Damage
  refine W.call (a.next hl (by omega) (by omega)) fun r1 k1 => ?_
  have b1 := k1.2.1
  have sz := sign_size r1.1.toNat (by omega)
  refine W.chk (by omega) (W.condEq (fun h => W.some ⟨?_, 1, .inl rfl, k1.1⟩) (fun h => ?_))
  · simp only
    rw [sz]; omega
  refine W.call (k1.1.next hl (by omega) (by omega)) fun r2 k2 => W.call (k2.1.next hl (by omega) (by omega)) fun r3 k3 => ?_
  have b2 := k2.2.1
  rw [w64 (n := r2.1 + 1) (by omega)]
  have s1 : (t.extract 0 r2.1.toNat).size = r2.1.toNat := by rw [ByteArray.size_extract]; omega
  have s2 : (t.extract (r2.1 + 1).toNat t.size).size = t.size - (r2.1 + 1).toNat := by rw [ByteArray.size_extract]; omega
  have s3 : (t.extract r2.1.toNat t.size).size = t.size - r2.1.toNat := by rw [ByteArray.size_extract]; omega
  refine W.cond (fun _ => ?_) (fun _ => W.cond (fun _ => ?_) (fun _ => ?_))
  · refine W.chk (by omega) (W.chk (by rw [s1, sz]; omega) (W.chk (by omega) (W.chk (by rw [ByteArray.size_append, s1, sz, s2]; omega) (W.some ⟨?_, 3, .inr rfl, k3.1⟩))))
    simp only
    rw [ByteArray.size_append, ByteArray.size_append, s1, sz, s2]; omega
  · refine W.chk (by omega) (W.chk (by omega) (W.chk (by rw [s1, s2]; omega) (W.some ⟨?_, 3, .inr rfl, k3.1⟩)))
    simp only
    rw [ByteArray.size_append, s1, s2]; omega
  · refine W.chk (by omega) (W.chk (by rw [s1, sz]; omega) (W.chk (by omega) (W.chk (by rw [ByteArray.size_append, s1, sz, s3]; omega) (W.some ⟨?_, 3, .inr rfl, k3.1⟩))))
    simp only
    rw [ByteArray.size_append, ByteArray.size_append, s1, sz, s3]; omega

theorem DrawParseSquare_W : W (m_spec_DrawParseSquare l) fun r => r.size ≤ 1000000000000 := by
  unfold m_spec_DrawParseSquare
  refine W.call (l01From_W hl) fun s hs => W.call (l01DrawSquare_W hl hs) fun r2 k2 => W.call (l01Text_W k2.1) fun t ht => ?_
  have hlen : t.size ≤ 200 := by
    rw [ht, strOf_size]
    exact joinC_digs_le k2.1 (by have := k2.1.n1; omega)
  obtain ⟨m, hm, me, v1, v3⟩ := soon (its 8192 r2.2.hash.toNat)
  rw [← its_add] at v1 v3
  have h0 := k2.2.h0
  refine W.loopG (I := fun g (s : ByteArray × Rng) => ∃ i, i % 2 = 0 ∧ i ≤ 8192 + m + 2 ∧ g = 8192 + m + 2 - i ∧ At l r2.2.hash.toNat i s.2 ∧ s.1.size ≤ 200 + i) ?_ (8192 + m + 3) (8192 + m + 2) _ (by omega)
    ⟨0, rfl, by omega, rfl, ⟨k2.2, by rw [its_zero]; simp only; omega, .inr (by simpa using k2.2.lo)⟩, by simp only; omega⟩
  rintro g ⟨x1, x2⟩ ⟨i, ie, im, eg, a, sz⟩
  simp only at a sz
  unfold m_spec_DrawParseSquare_l0
  refine W.call (a.next hl (by omega) (by omega)) fun r4 k4 => W.condEq (fun h => ?_) (fun h => W.some (W.some ?_))
  · have far : i < 8192 + m := by
      refine Nat.lt_of_not_le fun hge => ?_
      have e := k4.2.2 (by omega)
      have hi : i = 8192 + m ∨ i = 8192 + m + 2 := by omega
      rw [h] at e
      rcases hi with hi | hi
      · subst hi; exact v1 (by rw [Nat.add_assoc] at e; omega)
      · subst hi; exact v3 (by rw [Nat.add_assoc, Nat.add_assoc] at e; simp only [Nat.reduceAdd] at e; omega)
    refine W.call (Damage_W hl k4.1 (t := x1) (by omega)) fun r5 k5 => W.some ?_
    obtain ⟨d, hd, a5⟩ := k5.2
    refine ⟨8192 + m + 2 - (i + 1 + d), by omega, i + 1 + d, by omega, by omega, rfl, a5, ?_⟩
    have := k5.1
    simp only; omega
  · omega

/-- The tail of the law. -/
theorem sqTail_W : W ((m_spec_DrawLeftQuotient l).bind fun r33 => ((m_impl_LeftQuotient r33.1 r33.2.1 r33.2.2).bind fun r34 => ((m_spec_LeftQuotient r33.1 r33.2.1 r33.2.2).bind fun r35 => ((m_impl_RightQuotient r33.1 r33.2.1 r33.2.2).bind fun r36 => ((m_spec_RightQuotient r33.1 r33.2.1 r33.2.2).bind fun r37 => ((m_spec_DrawSquareOfLists l).bind fun r38 => ((m_impl_SquareOfLists r38).bind fun r39 => ((m_spec_SquareOfLists r38).bind fun r40 => ((m_spec_DrawParseSquare l).bind fun r41 => ((m_impl_ParseSquare r41).bind fun r42 => ((m_spec_ParseSquare r41).bind fun r43 => (_root_.cond (r34.2 == r35.2) (_root_.cond (r34.1 == r35.1) (_root_.cond (r36.2 == r37.2) (_root_.cond (r36.1 == r37.1) (_root_.cond (r39.2 == r40.2) (_root_.cond (eqSq r39.1 r40.1) (_root_.cond (r42.2 == r43.2) (some (eqSq r42.1 r43.1)) (some false)) (some false)) (some false)) (some false)) (some false)) (some false)) (some false))))))))))))) fun r => r = true := by
  refine W.call (DrawLeftQuotient_W hl) fun r h => W.call (LeftQuotient_W h.1 h.2.1 h.2.2) fun r1 h1 => W.call (spec_LeftQuotient_W h.1 h.2.1 h.2.2) fun r2 h2 => ?_
  have e := h1.eq h2 fun L a b x y => LeftP.uniq L h.2.1.1 a
  subst e
  refine W.call (RightQuotient_W h.1 h.2.1 h.2.2) fun r1 h1 => W.call (spec_RightQuotient_W h.1 h.2.1 h.2.2) fun r2 h2 => ?_
  have e := h1.eq h2 fun L a b x y => RightP.uniq L h.2.2.1 b
  subst e
  refine W.call (DrawSquareOfLists_W hl) fun r3 h3 => W.call (SquareOfLists_W h3) fun r4 h4 => W.call (spec_SquareOfLists_W h3) fun r5 h5 => ?_
  have e := h4.eq h5
  subst e
  refine W.call (DrawParseSquare_W hl) fun r6 h6 => W.call ParseSquare_W fun r7 h7 => W.call (spec_ParseSquare_W h6) fun r8 h8 => ?_
  have e := h7.eq h8
  subst e
  simp only [beq_self_eq_true, cond_true, eqSq_refl]
  exact W.some rfl

theorem FnSquares_W : W (m_laws_FnSquares l) fun r => r = true := by
  have ne : ∀ {α : Type} {a : α} {P : Prop}, a ≠ a → P := fun h => absurd rfl h
  unfold m_laws_FnSquares m_laws_big
  refine W.call (W.some rfl) fun b hb => W.cond (fun _ => W.some rfl) (fun _ => ?_)
  refine W.call (DrawProductIn_W hl) fun r2 h2 => W.call (ProductIn_W h2.1 h2.2.1 h2.2.2) fun r3 h3 => W.call (spec_ProductIn_W h2.1 h2.2.1 h2.2.2) fun r4 h4 => ?_
  have e := h3.eq h4 fun L a b x y p q => p.trans q.symm
  subst e
  refine W.condNe ne (fun _ => W.condNe ne (fun _ => ?_))
  refine W.call (IsSquare_W h2.1) fun r5 h5 => W.call (spec_IsSquare_W h2.1) fun r6 h6 => ?_
  have e := same_bool h5 h6; subst e
  refine W.condNe ne (fun _ => W.call (IsLoop_W h2.1) fun r7 h7 => W.call (spec_IsLoop_W h2.1) fun r8 h8 => ?_)
  have e := same_bool h7 h8; subst e
  refine W.condNe ne (fun _ => W.call (IsGroup_W h2.1) fun r9 h9 => W.call (spec_IsGroup_W h2.1) fun r10 h10 => ?_)
  have e := same_bool h9 h10; subst e
  refine W.condNe ne (fun _ => W.condEq (fun z => ?_) (fun _ => sqTail_W hl))
  rcases h3 with ⟨_, c⟩ | ⟨_, _, c⟩ | ⟨L, ha, hb', _, p⟩
  · rw [c] at z; exact absurd z (by decide)
  · rw [c] at z; exact absurd z (by decide)
  obtain ⟨q, x, y⟩ := r2
  obtain ⟨zz, one⟩ := r3
  simp only at *
  have p : zz = q.t x.toNat y.toNat := p
  have hx := h2.2.1; have hy := h2.2.2
  simp only at hx hy
  have n10 := L.n10
  have lt := L.lt (x := x.toNat) (y := y.toNat) (by omega) (by omega)
  rw [← p] at lt
  refine W.call (LeftQuotient_W L.byt hx (b := zz) (by omega)) fun r11 h11 => W.call (RightQuotient_W L.byt (a := zz) (by omega) hy) fun r12 h12 => W.call (RowMap_W L hx.1 ha) fun r13 h13 => W.call (ColumnMap_W L hy.1 hb') fun r14 h14 => W.call (OppositeOf_W L) fun r15 h15 => ?_
  subst h15
  have LO := oppS_latin L
  refine W.call (OppositeOf_W LO) fun r16 h16 => W.call (ProductIn_W LO.byt hy hx) fun r17 h17 => ?_
  subst h16; subst h13
  have f11 : r11.2 = 0 ∧ r11.1 = y := by
    rcases h11 with ⟨k, _⟩ | ⟨_, k, _⟩ | ⟨_, _, _, a, b⟩
    · exact absurd L k
    · exact absurd ⟨ha, lt.2⟩ k
    · exact ⟨a, LeftP.uniq L hx.1 ha b ⟨hy.1, hb', p.symm⟩⟩
  have f12 : r12.2 = 0 ∧ r12.1 = x := by
    rcases h12 with ⟨k, _⟩ | ⟨_, k, _⟩ | ⟨_, _, _, a, b⟩
    · exact absurd L k
    · exact absurd ⟨lt.2, hb'⟩ k
    · exact ⟨a, RightP.uniq L hy.1 hb' b ⟨hx.1, ha, p.symm⟩⟩
  have f17 : r17.2 = 0 ∧ r17.1 = zz := by
    rcases h17 with ⟨k, _⟩ | ⟨_, k, _⟩ | ⟨_, _, _, a, b⟩
    · exact absurd LO k
    · exact absurd ⟨hb', ha⟩ k
    · refine ⟨a, b.trans ?_⟩
      rw [p]
      exact tabF_lt (g := fun x y => q.t y x) (by omega) (by omega)
  refine W.condNe (fun h => absurd f11.1 h) (fun _ => W.condNe (fun h => absurd f12.1 h) (fun _ => W.condNe ne (fun _ => W.condNe (fun h => absurd h14.1 h) (fun _ => W.condNe ne (fun _ => W.condNe ne (fun _ => W.condNe (fun h => absurd f17.1 h) (fun _ => ?_)))))))
  refine W.condNe (fun h => absurd f11.2 h) (fun _ => W.condNe (fun h => absurd f12.2 h) (fun _ => W.chk (by omega) (W.condNe (fun h => absurd p.symm h) (fun _ => W.chk (by omega) (W.condNe (fun h => absurd ((h14.2 x.toNat (by omega)).trans p.symm) h) (fun _ => ?_))))))
  refine W.condNot (fun h => absurd (opp_opp L) (ne_true_of_false h)) (fun _ => W.condNe (fun h => absurd f17.2 h) (fun _ => ?_))
  refine W.call (ListsOfSquare_W L) fun r18 h18 => ?_
  subst h18
  have R := rowsL_of (q := q) (by have := L.n1; omega)
  refine W.call (SquareOfLists_W (by have := R.len; show (rowsL q q.order.toNat).length ≤ 1000; omega)) fun r19 h19 => W.call (SquareText_W L) fun r20 h20 => ?_
  subst h20
  have f19 := lists_back L R h19
  refine W.call ParseSquare_W fun r21 h21 => ?_
  have f21 : r21.2 = 0 ∧ eqSq r21.1 q = true := by
    have e : lst (strOf (txt q)) = txt q := lst_strOf (txt_byte L)
    rcases h21 with ⟨q', L', C', f, g⟩ | ⟨n, _⟩
    · obtain ⟨o, t⟩ := txt_inj L' L (by rw [← f, e])
      rw [g]
      refine ⟨rfl, eqSq_iff.2 ⟨o, fun i j hi hj => ?_⟩⟩
      by_cases c : (i : Int) < q.order ∧ (j : Int) < q.order
      · exact t i j c.1 c.2
      · rw [L.zero i j hi hj (by omega), L'.zero i j hi hj (by omega)]
    · exact absurd e (n q L)
  exact W.condNe ne (fun _ => W.condNe (fun h => absurd f19.1 h) (fun _ => W.condNe ne (fun _ => W.condNe (fun h => absurd f21.1 h) (fun _ => W.condNot (fun h => absurd f19.2 (ne_true_of_false h)) (fun _ => W.condNot (fun h => absurd f21.2 (ne_true_of_false h)) (fun _ => sqTail_W hl))))))
end
end Go.Pu
