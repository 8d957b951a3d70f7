/- Plain laws, the first part: words on numbers, what an Option yields, loops, permutations of small numbers. -/
import Derived.Test.YthhgemlaiekjpacA
import Derived.Test.YthhgemlaiekjpacM
set_option linter.unusedVariables false
set_option linter.unusedSimpArgs false
namespace Go.Pu
open Go Go.Abs

/-! ## Numbers -/
theorem w64 {n : Int} (h : -9223372036854775808 ≤ n ∧ n ≤ 9223372036854775807) : IntKind.i64.wrap n = n := by
  have e : IntKind.i64.bits = 64 := rfl
  have s : IntKind.i64.signed = true := rfl
  simp only [IntKind.wrap, e, s, Bool.true_and, decide_eq_true_eq]
  split <;> omega
theorem w8 {n : Int} (h : 0 ≤ n ∧ n ≤ 255) : IntKind.u8.wrap n = n := by
  have e : IntKind.u8.bits = 8 := rfl
  have s : IntKind.u8.signed = false := rfl
  simp only [IntKind.wrap, e, s, Bool.false_and]
  rw [if_neg (by simp)]
  omega
theorem w8_lt (n : Int) : 0 ≤ IntKind.u8.wrap n ∧ IntKind.u8.wrap n ≤ 255 := by
  have e : IntKind.u8.bits = 8 := rfl
  have s : IntKind.u8.signed = false := rfl
  simp only [IntKind.wrap, e, s, Bool.false_and]
  rw [if_neg (by simp)]
  omega
theorem wu64_lt (n : Int) : 0 ≤ IntKind.u64.wrap n ∧ IntKind.u64.wrap n ≤ 18446744073709551615 := by
  have e : IntKind.u64.bits = 64 := rfl
  have s : IntKind.u64.signed = false := rfl
  simp only [IntKind.wrap, e, s, Bool.false_and]
  rw [if_neg (by simp)]
  omega
theorem wu64 {n : Int} (h : 0 ≤ n ∧ n ≤ 18446744073709551615) : IntKind.u64.wrap n = n := by
  have e : IntKind.u64.bits = 64 := rfl
  have s : IntKind.u64.signed = false := rfl
  simp only [IntKind.wrap, e, s, Bool.false_and]
  rw [if_neg (by simp)]
  omega
theorem ne_true_of_false {b : Bool} (h : b = false) : ¬ b = true := by simp [h]

/-! ## What an Option yields -/
def W {α : Type} (m : Option α) (Q : α → Prop) : Prop := ∃ r, m = some r ∧ Q r
section
variable {α β σ ρ : Type} {Q : α → Prop}
theorem W.some {r : α} (h : Q r) : W (some r) Q := ⟨r, rfl, h⟩
theorem W.bind {m : Option β} {f : β → Option α} (h : W m fun b => W (f b) Q) : W (m.bind f) Q := by
  obtain ⟨b, e, r, e2, q⟩ := h
  exact ⟨r, by rw [e]; exact e2, q⟩
theorem W.mono {m : Option α} {Q' : α → Prop} (h : W m Q') (k : ∀ r, Q' r → Q r) : W m Q := by
  obtain ⟨r, e, q⟩ := h
  exact ⟨r, e, k r q⟩
/-- a step that is known, then the rest -/
theorem W.call {m : Option β} {f : β → Option α} {R : β → Prop} (h : W m R) (k : ∀ b, R b → W (f b) Q) : W (m.bind f) Q := W.bind (h.mono k)
theorem W.chk {p : Prop} [Decidable p] {x : Option α} (h : p) (k : W x Q) : W (if p then x else none) Q := by rw [if_pos h]; exact k
theorem W.cond {b : Bool} {x y : Option α} (ht : b = true → W x Q) (hf : b = false → W y Q) : W (cond b x y) Q := by
  cases b with
  | true => exact ht rfl
  | false => exact hf rfl
theorem W.condP {p : Prop} [Decidable p] {x y : Option α} (ht : p → W x Q) (hf : ¬ p → W y Q) : W (_root_.cond (decide p) x y) Q := by
  by_cases h : p
  · simp only [h, decide_true, cond_true]; exact ht h
  · simp only [h, decide_false, cond_false]; exact hf h
theorem W.condEq {γ : Type} [BEq γ] [LawfulBEq γ] {a c : γ} {x y : Option α} (ht : a = c → W x Q) (hf : a ≠ c → W y Q) : W (_root_.cond (a == c) x y) Q := by
  by_cases h : a = c
  · subst h; simp only [beq_self_eq_true, cond_true]; exact ht rfl
  · rw [beq_eq_false_iff_ne.2 h]; exact hf h
theorem W.condNe {γ : Type} [BEq γ] [LawfulBEq γ] {a c : γ} {x y : Option α} (ht : a ≠ c → W x Q) (hf : a = c → W y Q) : W (_root_.cond (a != c) x y) Q := by
  by_cases h : a = c
  · subst h; simp only [bne_self_eq_false, cond_false]; exact hf rfl
  · rw [bne_iff_ne.2 h]; exact ht h
theorem W.condNot {b : Bool} {x y : Option α} (ht : b = false → W x Q) (hf : b = true → W y Q) : W (_root_.cond (!b) x y) Q := by
  cases b with
  | true => exact hf rfl
  | false => exact ht rfl
theorem W.get {m : Option α} {r : α} (h : W m Q) (e : m = Option.some r) : Q r := by
  obtain ⟨r', e', q⟩ := h
  rw [e] at e'; cases e'; exact q
theorem W.eq {m : Option α} {r : α} (e : m = Option.some r) (h : Q r) : W m Q := ⟨r, e, h⟩
theorem W.and {m : Option α} {Q' : α → Prop} (h : W m Q) (h' : W m Q') : W m fun r => Q r ∧ Q' r := by
  obtain ⟨r, e, q⟩ := h
  exact ⟨r, e, q, h'.get e⟩

/-- A loop and what comes behind it: 'I' holds at each head, 'm' goes down. -/
theorem W.loop {step : σ → Option (Out σ ρ)} {k : Out σ ρ → Option α} {s : σ} (I : σ → Prop) (m : σ → Nat) (hi : I s)
    (h : ∀ s, I s → W (step s) fun o => match o with | .next s' => I s' ∧ m s' < m s | .stop s' id => W (k (.stop s' id)) Q | .ret r => W (k (.ret r)) Q) :
    W ((loopV step s).bind k) Q := by
  have := loopV_inv (step := step) I m (fun o => W (k o) Q) (fun s hs => by
    obtain ⟨o, e, q⟩ := h s hs
    cases o with
    | next s' => exact .inl ⟨s', e, q⟩
    | stop s' id => exact .inr ⟨_, e, by simp, q⟩
    | ret r => exact .inr ⟨_, e, by simp, q⟩) hi
  obtain ⟨o, e, q⟩ := this
  exact W.bind ⟨o, e, q⟩

/-- A loop that counts a number up to 'n'. -/
theorem W.upto {step : σ → Option (Out σ ρ)} {k : Out σ ρ → Option α} {s : σ} (c : σ → Int) (n : Int) (I : σ → Prop) (hi : I s)
    (h : ∀ s, I s → W (step s) fun o => match o with | .next s' => I s' ∧ c s < c s' ∧ c s < n | .stop s' id => W (k (.stop s' id)) Q | .ret r => W (k (.ret r)) Q) :
    W ((loopV step s).bind k) Q := by
  refine W.loop I (fun s => (n - c s).toNat) hi fun s hs => ?_
  refine (h s hs).mono fun o q => ?_
  cases o with
  | next s' => exact ⟨q.1, by have := q.2; omega⟩
  | stop s' id => exact q
  | ret r => exact q
end

/-! ## Functions on small numbers -/
/-- 'f' leads the numbers below n to numbers below n. -/
def Into (n : Nat) (f : Nat → Nat) : Prop := ∀ i, i < n → f i < n
def Inj (n : Nat) (f : Nat → Nat) : Prop := ∀ i j, i < n → j < n → f i = f j → i = j
def Onto (n : Nat) (f : Nat → Nat) : Prop := ∀ v, v < n → ∃ i, i < n ∧ f i = v

theorem nodup_map {n : Nat} {f : Nat → Nat} (h : Inj n f) : ∀ {m : Nat}, m ≤ n → ((List.range m).map f).Nodup
  | 0, _ => by simp
  | m + 1, hm => by
    rw [List.range_succ, List.map_append, List.nodup_append]
    refine ⟨nodup_map h (by omega), by simp, ?_⟩
    intro a ha b hb
    simp only [List.map_cons, List.map_nil, List.mem_singleton] at hb
    obtain ⟨i, hi, rfl⟩ := List.mem_map.1 ha
    rw [List.mem_range] at hi
    subst hb
    intro e
    have := h i m (by omega) (by omega) e
    omega

theorem onto_of_inj {n : Nat} {f : Nat → Nat} (h1 : Into n f) (h2 : Inj n f) : Onto n f := by
  intro v hv
  by_cases hex : ∃ i, i < n ∧ f i = v
  · exact hex
  · exfalso
    have hnd : (v :: (List.range n).map f).Nodup := by
      rw [List.nodup_cons]
      refine ⟨?_, nodup_map h2 (Nat.le_refl _)⟩
      intro hm
      obtain ⟨i, hi, e⟩ := List.mem_map.1 hm
      exact hex ⟨i, List.mem_range.1 hi, e⟩
    have hsub : (v :: (List.range n).map f) ⊆ List.range n := by
      intro x hx
      rw [List.mem_cons] at hx
      rcases hx with rfl | hx
      · exact List.mem_range.2 hv
      · obtain ⟨i, hi, e⟩ := List.mem_map.1 hx
        subst e
        exact List.mem_range.2 (h1 i (List.mem_range.1 hi))
    have := hnd.length_le_of_subset hsub
    simp at this; omega

theorem inj_of_onto {n : Nat} {f : Nat → Nat} (h2 : Onto n f) : Inj n f := by
  intro i j hi hj e
  by_cases hij : i = j
  · exact hij
  · exfalso
    have hnd : (List.range n).Nodup := List.nodup_range
    have hsub : List.range n ⊆ ((List.range n).erase j).map f := by
      intro v hv
      obtain ⟨k, hk, ek⟩ := h2 v (List.mem_range.1 hv)
      by_cases hkj : k = j
      · subst hkj
        exact List.mem_map.2 ⟨i, (List.mem_erase_of_ne hij).2 (List.mem_range.2 hi), e.trans ek⟩
      · exact List.mem_map.2 ⟨k, (List.mem_erase_of_ne hkj).2 (List.mem_range.2 hk), ek⟩
    have := hnd.length_le_of_subset hsub
    rw [List.length_map, List.length_erase_of_mem (List.mem_range.2 hj)] at this
    simp at this
    omega

end Go.Pu

/- Plain laws: what draws a number, places. -/
namespace Go.Pu
open Go Go.Abs Go.Lab

/-- The code that came in. -/
structure Code (l : List Int) : Prop where
  len : l.length ≤ 4096
  byte : ∀ i, 0 ≤ l.getD i 0 ∧ l.getD i 0 ≤ 255

structure SrcOk (l : List Int) (s : Rng) : Prop where
  lo : 0 ≤ s.at_
  hi : s.at_ ≤ l.length
  h0 : 0 ≤ s.hash
  h1 : s.hash ≤ 18446744073709551615

theorem and_le (a b : Int) (hb : 0 ≤ b) (hb' : b < 9223372036854775808) : 0 ≤ bits .and .u64 a b ∧ bits .and .u64 a b ≤ b := by
  show 0 ≤ IntKind.u64.wrap ((BitVec.ofInt 64 a &&& BitVec.ofInt 64 b).toNat : Int) ∧ IntKind.u64.wrap ((BitVec.ofInt 64 a &&& BitVec.ofInt 64 b).toNat : Int) ≤ b
  have h1 : (BitVec.ofInt 64 a &&& BitVec.ofInt 64 b).toNat ≤ (BitVec.ofInt 64 b).toNat := by
    rw [BitVec.toNat_and]; exact Nat.and_le_right
  have h2 : ((BitVec.ofInt 64 b).toNat : Int) = b := by
    rw [BitVec.toNat_ofInt]; omega
  have h3 : 0 ≤ ((BitVec.ofInt 64 a &&& BitVec.ofInt 64 b).toNat : Int) ∧ ((BitVec.ofInt 64 a &&& BitVec.ofInt 64 b).toNat : Int) ≤ b := by omega
  rw [wu64 (by omega)]
  exact h3

section
variable {l : List Int} (hl : Code l)
include hl

theorem l01From_W : W (m_spec_l01From l) (SrcOk l) := by
  have := hl.len
  unfold m_spec_l01From
  refine W.upto (fun s => s.1) l.length (fun s => 0 ≤ s.1 ∧ s.1 ≤ l.length ∧ SrcOk l s.2) ⟨by simp, by simp, by simp, by simp, (wu64_lt _).1, (wu64_lt _).2⟩ ?_
  rintro ⟨x1, x2⟩ ⟨h1, h2, h3⟩
  simp only at h1 h2 h3
  unfold m_spec_l01From_l0
  refine W.condP (fun h => W.condP (fun h' => ?_) (fun h' => ?_)) (fun h => ?_)
  · refine W.chk (by omega) (W.some ?_)
    simp only
    rw [w64 (by omega)]
    exact ⟨⟨by omega, by omega, h3.lo, h3.hi, (wu64_lt _).1, (wu64_lt _).2⟩, by omega, by omega⟩
  · exact W.some (W.some h3)
  · exact W.some (W.some h3)

theorem l01Next_W {s : Rng} (hs : SrcOk l s) (n : Int) (hn : n ≤ 1099511627776) : W (m_spec_l01Next s l n) fun r => SrcOk l r.2 ∧ (1 ≤ n → 0 ≤ r.1 ∧ r.1 < n) ∧ (n < 1 → r.1 = 0) := by
  have := hl.len
  obtain ⟨a1, a2, a3, a4⟩ := hs
  unfold m_spec_l01Next
  refine W.condP (fun h => W.some ⟨⟨a1, a2, a3, a4⟩, by simp only; omega, by simp⟩) (fun h => ?_)
  have hb := hl.byte s.at_.toNat
  have hx := and_le (Int.fdiv (IntKind.u64.wrap (IntKind.u64.wrap (s.hash * 6364136223846793005) + 1442695040888963407)) (2 ^ min (33 : Int).toNat IntKind.u64.bits)) 16777215 (by omega) (by omega)
  refine W.condP (fun h' => ?_) (fun h' => ?_)
  · refine W.chk (by simp only at h' ⊢; omega) (W.chk (by omega) (W.some ?_))
    simp only at h' ⊢
    rw [w64 (n := bits _ _ _ _) (by omega), w64 (n := l.getD _ _) (by omega), w64 (n := bits _ _ _ _ + _) (by omega), w64 (n := s.at_ + 1) (by omega)]
    refine ⟨⟨by simp only; omega, by simp only; omega, (wu64_lt _).1, (wu64_lt _).2⟩, fun _ => ⟨Int.tmod_nonneg _ (by omega), Int.tmod_lt_of_pos _ (by omega)⟩, fun h => by omega⟩
  · refine W.chk (by omega) (W.some ?_)
    simp only at h' ⊢
    rw [w64 (n := bits _ _ _ _) (by omega)]
    refine ⟨⟨by simp only; omega, by simp only; omega, (wu64_lt _).1, (wu64_lt _).2⟩, fun _ => ⟨Int.tmod_nonneg _ (by omega), Int.tmod_lt_of_pos _ (by omega)⟩, fun h => by omega⟩

theorem l01Pick_W {s : Rng} (hs : SrcOk l s) (m : List Int) (h0 : 0 < m.length) (h1 : m.length ≤ 100) : W (m_spec_l01Pick s l m) fun r => SrcOk l r.2 ∧ r.1 ∈ m := by
  unfold m_spec_l01Pick
  refine W.call (l01Next_W hl hs _ (by omega)) fun r hr => ?_
  have := hr.2.1 (by omega)
  refine W.chk (by omega) (W.some ⟨hr.1, ?_⟩)
  simp only
  rw [List.getD_eq_getElem?_getD, List.getElem?_eq_getElem (by omega)]
  exact List.getElem_mem _

end

/-! ## Places -/
/-- 'p' leads the numbers below n to numbers below n, no two to one. -/
structure PermP (n : Int) (p : Nat → Int) : Prop where
  lo : ∀ i : Nat, (i : Int) < n → 0 ≤ p i ∧ p i < n
  inj : ∀ i j : Nat, (i : Int) < n → (j : Int) < n → p i = p j → i = j

def Zt (n : Int) (p : Nat → Int) : Prop := ∀ i : Nat, n ≤ i → i < 10 → p i = 0
def ByP (p : Nat → Int) : Prop := ∀ i : Nat, i < 10 → 0 ≤ p i ∧ p i ≤ 255

theorem PermP.ext {n : Int} {p q : Nat → Int} (h : PermP n p) (e : ∀ i : Nat, (i : Int) < n → q i = p i) : PermP n q :=
  ⟨fun i hi => by rw [e i hi]; exact h.lo i hi, fun i j hi hj he => h.inj i j hi hj (by rw [← e i hi, ← e j hj, he])⟩
theorem fset_eq {α : Type} (f : Nat → α) (i : Nat) (v : α) (j : Nat) : fset f i v j = if j = i then v else f j := rfl

theorem l01Same_W {n : Int} (hn : n ≤ 10) : W (m_spec_l01Same n) fun p => (∀ i : Nat, (i : Int) < n → p i = i) ∧ ∀ i : Nat, n ≤ i → p i = 0 := by
  unfold m_spec_l01Same
  refine W.upto (fun s => s.1) n (fun s => 0 ≤ s.1 ∧ (s.1 ≤ n ∨ s.1 = 0) ∧ (∀ i : Nat, (i : Int) < s.1 → s.2 i = i) ∧ ∀ i : Nat, s.1 ≤ i → s.2 i = 0) ⟨by simp, by simp, by simp; omega, by simp [pl0]⟩ ?_
  rintro ⟨x1, x2⟩ ⟨h1, h2, h3, h4⟩
  simp only at h1 h2 h3 h4
  unfold m_spec_l01Same_l0
  refine W.condP (fun h => ?_) (fun h => ?_)
  · refine W.chk (by omega) (W.some ?_)
    simp only
    rw [w64 (by omega), w8 (by omega)]
    refine ⟨⟨by omega, by omega, fun i hi => ?_, fun i hi => ?_⟩, by omega, by omega⟩
    · rw [fset_eq]
      split
      · omega
      · exact h3 i (by omega)
    · rw [fset_eq, if_neg (by omega)]
      exact h4 i (by omega)
  · refine W.some (W.some ⟨fun i hi => h3 i (by omega), fun i hi => ?_⟩)
    exact h4 i (by omega)

theorem PermP.id {n : Int} {p : Nat → Int} (h : ∀ i : Nat, (i : Int) < n → p i = i) : PermP n p :=
  ⟨fun i hi => by rw [h i hi]; omega, fun i j hi hj e => by rw [h i hi, h j hj] at e; omega⟩

theorem PermP.swap {n : Int} {p : Nat → Int} (h : PermP n p) {a b : Nat} (ha : (a : Int) < n) (hb : (b : Int) < n) : PermP n (fset (fset p a (p b)) b (p a)) := by
  refine ⟨fun i hi => ?_, fun i j hi hj e => ?_⟩
  · simp only [fset_eq]
    split
    · exact h.lo a ha
    · split
      · exact h.lo b hb
      · exact h.lo i hi
  · simp only [fset_eq] at e
    have I := h.inj
    split at e <;> split at e <;> (try split at e) <;> (try split at e) <;> first
      | omega
      | (have := I _ _ ha hj e; omega)
      | (have := I _ _ hi ha e; omega)
      | (have := I _ _ hb hj e; omega)
      | (have := I _ _ hi hb e; omega)
      | (have := I _ _ ha hb e; omega)
      | (have := I _ _ hb ha e; omega)
      | (have := I _ _ hi hj e; omega)

section
variable {l : List Int} (hl : Code l)
include hl

theorem l01DrawPlaces_W {s : Rng} (hs : SrcOk l s) {n : Int} (hn : n ≤ 10) (hn0 : -1000 ≤ n) : W (m_spec_l01DrawPlaces s l n) fun r => PermP n r.1 ∧ Zt n r.1 ∧ SrcOk l r.2 := by
  unfold m_spec_l01DrawPlaces
  refine W.call (l01Same_W hn) fun p hp => ?_
  refine W.call (l01Next_W hl hs _ (by omega)) fun r hr => ?_
  refine W.cond (fun h => W.some ⟨PermP.id hp.1, fun i hi _ => hp.2 i hi, hr.1⟩) (fun h => ?_)
  rw [w64 (by omega)]
  refine W.loop (fun s => s.1 < n ∧ PermP n s.2.1 ∧ Zt n s.2.1 ∧ SrcOk l s.2.2) (fun s => s.1.toNat) ⟨by simp only; omega, PermP.id hp.1, fun i hi _ => hp.2 i hi, hr.1⟩ ?_
  rintro ⟨x1, x2, x3⟩ ⟨h1, h2, h3, h4⟩
  simp only at h1 h2 h3 h4
  unfold m_spec_l01DrawPlaces_l0
  refine W.condP (fun h => ?_) (fun h => W.some (W.some ⟨h2, h3, h4⟩))
  rw [w64 (by omega), w64 (by omega)]
  refine W.call (l01Next_W hl h4 _ (by omega)) fun r3 hr3 => ?_
  have := hr3.2.1 (by omega)
  refine W.chk (by omega) (W.chk (by omega) (W.chk (by omega) (W.chk (by omega) (W.some ⟨⟨by simp only; omega, ?_, ?_, hr3.1⟩, by simp only; omega⟩))))
  · exact h2.swap (by omega) (by omega)
  · intro i hi hi'
    simp only [fset_eq]
    rw [if_neg (by omega), if_neg (by omega)]
    exact h3 i hi hi'

end
end Go.Pu

/- Plain laws: permutations; what the program's and the reference's functions tell of them. -/
namespace Go.Pu
open Go Go.Abs Go.Lab

theorem or_i64 {a b : Nat} (ha : a < 2 ^ 62) (hb : b < 2 ^ 62) : bits .or .i64 (a : Int) (b : Int) = ((a ||| b : Nat) : Int) := by
  show IntKind.i64.wrap ((BitVec.ofInt 64 (a : Int) ||| BitVec.ofInt 64 (b : Int)).toNat : Int) = _
  have h : a ||| b < 2 ^ 62 := Nat.or_lt_two_pow ha hb
  have e1 : (BitVec.ofInt 64 (a : Int)).toNat = a := by rw [BitVec.toNat_ofInt]; omega
  have e2 : (BitVec.ofInt 64 (b : Int)).toNat = b := by rw [BitVec.toNat_ofInt]; omega
  rw [BitVec.toNat_or, e1, e2]
  exact w64 (by omega)
/-- one bit -/
theorem bit_i64 {v : Int} (h0 : 0 ≤ v) (h1 : v ≤ 60) : IntKind.i64.wrap (1 * 2 ^ (min v.toNat IntKind.i64.bits)) = ((2 ^ v.toNat : Nat) : Int) := by
  have e : min v.toNat IntKind.i64.bits = v.toNat := Nat.min_eq_left (by show _ ≤ 64; omega)
  rw [e, Int.one_mul]
  have : 2 ^ v.toNat ≤ 2 ^ 60 := Nat.pow_le_pow_right (by omega) (by omega)
  rw [show (2 : Int) ^ v.toNat = ((2 ^ v.toNat : Nat) : Int) from by simp]
  generalize 2 ^ v.toNat = k at this
  exact w64 (by omega)

theorem permP_iff {n : Int} {p : Nat → Int} (h : ByP p) (hn : n ≤ 10) :
    PermP n p ↔ (∀ i : Nat, (i : Int) < n → p i < n) ∧ ∀ v : Nat, (v : Int) < n → ∃ i : Nat, (i : Int) < n ∧ p i = v := by
  constructor
  · intro hp
    refine ⟨fun i hi => (hp.lo i hi).2, fun v hv => ?_⟩
    obtain ⟨i, hi, e⟩ := onto_of_inj (n := n.toNat) (f := fun i => (p i).toNat) (fun i hi => by have := hp.lo i (by omega); show (p i).toNat < _; omega)
      (fun i j hi hj e => hp.inj i j (by omega) (by omega) (by have := hp.lo i (by omega); have := hp.lo j (by omega); simp only at e; omega)) v (by omega)
    refine ⟨i, by omega, ?_⟩
    have := hp.lo i (by omega)
    simp only at e; omega
  · rintro ⟨h1, h2⟩
    refine ⟨fun i hi => ⟨(h i (by omega)).1, h1 i hi⟩, fun i j hi hj e => ?_⟩
    refine inj_of_onto (n := n.toNat) (f := fun i => (p i).toNat) (fun v hv => ?_) i j (by omega) (by omega) (by simp only [e])
    obtain ⟨k, hk, e⟩ := h2 v (by omega)
    exact ⟨k, by omega, by simp only [e]; omega⟩

/-- 'p' is a permutation of n numbers. -/
structure IsP (n : Int) (p : Nat → Int) : Prop where
  n1 : 1 ≤ n
  n10 : n ≤ 10
  perm : PermP n p
  zero : Zt n p

theorem within_W (a b c : Int) : W (m_impl_within a b c) fun r => r = true ↔ b ≤ a ∧ a ≤ c := by
  unfold m_impl_within
  refine W.condP (fun h => W.some ?_) (fun h => W.some ?_)
  · simp; omega
  · simp; omega
theorem l01In_W (a b c : Int) : W (m_spec_l01In a b c) fun r => r = true ↔ b ≤ a ∧ a ≤ c := by
  unfold m_spec_l01In
  refine W.condP (fun h => W.some ?_) (fun h => W.some ?_)
  · simp; omega
  · simp; omega

/-- the bits of what has been met -/
structure Met (m : Nat) (P : Nat → Prop) : Prop where
  lt : m < 1024
  bit : ∀ v, m.testBit v = true ↔ P v
theorem Met.zero {P : Nat → Prop} (h : ∀ v, ¬ P v) : Met 0 P := ⟨by omega, fun v => by simp [h v]⟩
theorem Met.add {m : Nat} {P P' : Nat → Prop} (h : Met m P) {v : Int} (h0 : 0 ≤ v) (hv : v < 10) (e : ∀ u, P' u ↔ P u ∨ (u : Int) = v) :
    ∃ m' : Nat, bits .or .i64 (m : Int) (IntKind.i64.wrap (1 * 2 ^ (min v.toNat IntKind.i64.bits))) = m' ∧ Met m' P' := by
  have hp : 2 ^ v.toNat < 1024 := by
    have : 2 ^ v.toNat ≤ 2 ^ 9 := Nat.pow_le_pow_right (by omega) (by omega)
    omega
  have := h.lt
  refine ⟨m ||| 2 ^ v.toNat, ?_, Nat.or_lt_two_pow (n := 10) h.lt hp, fun u => ?_⟩
  · rw [bit_i64 h0 (by omega), or_i64 (by omega) (by omega)]
  · rw [Nat.testBit_or, e u, Bool.or_eq_true, h.bit u, Nat.testBit_two_pow, decide_eq_true_eq]
    constructor
    · rintro (h | h)
      · exact .inl h
      · exact .inr (by omega)
    · rintro (h | h)
      · exact .inl h
      · exact .inr (by omega)
/-- all bits below n are met -/
theorem Met.full {m : Nat} {P : Nat → Prop} (h : Met m P) {n : Int} (h1 : 1 ≤ n) (h10 : n ≤ 10) (hP : ∀ v : Nat, P v → (v : Int) < n) :
    ((m : Int) = IntKind.i64.wrap (IntKind.i64.wrap (1 * 2 ^ (min n.toNat IntKind.i64.bits)) - 1)) ↔ ∀ v : Nat, (v : Int) < n → P v := by
  rw [bit_i64 (by omega) (by omega)]
  have hp : 2 ^ n.toNat ≤ 1024 := by
    have : 2 ^ n.toNat ≤ 2 ^ 10 := Nat.pow_le_pow_right (by omega) (by omega)
    omega
  have hpos : 0 < 2 ^ n.toNat := Nat.pow_pos (by omega)
  rw [w64 (by omega)]
  have e : ((2 ^ n.toNat : Nat) : Int) - 1 = ((2 ^ n.toNat - 1 : Nat) : Int) := by omega
  rw [e, Int.ofNat_inj]
  constructor
  · intro e v hv
    rw [← h.bit v, e, Nat.testBit_two_pow_sub_one]
    simp; omega
  · intro hall
    refine Nat.eq_of_testBit_eq fun v => ?_
    rw [Nat.testBit_two_pow_sub_one, Bool.eq_iff_iff, h.bit v, decide_eq_true_eq]
    exact ⟨fun hv => by have := hP v hv; omega, fun hv => hall v (by omega)⟩

theorem l01Perm_W {p : Nat → Int} {n : Int} (hb : ByP p) : W (m_spec_l01Perm p n) fun r => r = true ↔ IsP n p := by
  unfold m_spec_l01Perm
  refine W.call (l01In_W _ _ _) fun b hbn => W.condNot (fun h => W.some ?_) (fun h => ?_)
  · simp only [h, Bool.false_eq_true, false_iff] at hbn ⊢
    exact fun hp => hbn ⟨hp.n1, hp.n10⟩
  obtain ⟨n1, n10⟩ := hbn.1 h
  refine W.upto (fun s => s.1) 10 (fun s => 0 ≤ s.1 ∧ s.1 ≤ 10 ∧ (∀ v : Nat, s.2 v = true ↔ ∃ i : Nat, (i : Int) < s.1 ∧ (i : Int) < n ∧ p i = v) ∧ (∀ i : Nat, (i : Int) < s.1 → (i : Int) < n → p i < n) ∧ (∀ i : Nat, (i : Int) < s.1 → n ≤ i → p i = 0)
      ∧ (∀ i j : Nat, (i : Int) < s.1 → (i : Int) < n → (j : Int) < s.1 → (j : Int) < n → p i = p j → i = j))
    ⟨by simp, by simp, by intro v; simp [bl0]; omega, by simp; omega, by simp; omega, by simp; omega⟩ ?_
  rintro ⟨x1, x2⟩ ⟨h1, h2, hM, h4, h5, h6⟩
  simp only at h1 h2 hM h4 h5 h6
  unfold m_spec_l01Perm_l0
  refine W.condP (fun h => ?_) (fun h => ?_)
  · have hx := hb x1.toNat (by omega)
    refine W.condP (fun h' => W.chk (by omega) (W.condNe (fun h0 => W.some (W.some ?_)) (fun h0 => W.some ?_))) (fun h' => W.chk (by omega) ?_)
    · simp only [Bool.false_eq_true, false_iff]
      exact fun hp => h0 (hp.zero _ (by omega) (by omega))
    · simp only
      rw [w64 (by omega)]
      refine ⟨⟨by omega, by omega, fun v => (hM v).trans ?_, fun i hi hn => h4 i (by omega) hn, fun i hi hn => ?_, fun i j a b c d => h6 i j (by omega) b (by omega) d⟩, by omega, by omega⟩
      · exact ⟨fun ⟨i, a, b, c⟩ => ⟨i, by omega, b, c⟩, fun ⟨i, a, b, c⟩ => ⟨i, by omega, b, c⟩⟩
      · by_cases e : (i : Int) = x1
        · subst e; exact h0
        · exact h5 i (by omega) hn
    · rw [w64 (n := p _) (by omega)]
      refine W.condP (fun h0 => W.some (W.some ?_)) (fun h0 => W.chk (by omega) (W.chk (by omega) (W.cond (fun hm => W.some (W.some ?_)) (fun hm => W.chk (by omega) (W.chk (by omega) (W.some ?_))))))
      · simp only [Bool.false_eq_true, false_iff]
        exact fun hp => by have := hp.perm.lo x1.toNat (by omega); omega
      · simp only [Bool.false_eq_true, false_iff]
        obtain ⟨i, a, b, c⟩ := (hM _).1 hm
        exact fun hp => by have := hp.perm.inj i x1.toNat b (by omega) (by omega); omega
      · simp only
        have hno := mt (hM _).2 (ne_true_of_false hm)
        rw [w64 (by omega)]
        refine ⟨⟨by omega, by omega, fun v => ?_, fun i hi hn => ?_, fun i hi hn => h5 i (by omega) hn, fun i j a b c d e => ?_⟩, by omega, by omega⟩
        · rw [fset_eq]
          split
          · simp only [true_iff]
            exact ⟨x1.toNat, by omega, by omega, by omega⟩
          · rw [hM v]
            constructor
            · exact fun ⟨i, a, b, c⟩ => ⟨i, by omega, b, c⟩
            · rintro ⟨i, a, b, c⟩
              by_cases e : (i : Int) = x1
              · subst e; simp only [Int.toNat_natCast] at *; omega
              · exact ⟨i, by omega, b, c⟩
        · by_cases e : (i : Int) = x1
          · subst e; simp only [Int.toNat_natCast] at h0; omega
          · exact h4 i (by omega) hn
        · by_cases ei : (i : Int) = x1
          · by_cases ej : (j : Int) = x1
            · omega
            · exact absurd ⟨j, by omega, d, by subst ei; simp only [Int.toNat_natCast] at hx ⊢; omega⟩ hno
          · by_cases ej : (j : Int) = x1
            · exact absurd ⟨i, by omega, b, by subst ej; simp only [Int.toNat_natCast] at hx ⊢; omega⟩ hno
            · exact h6 i j (by omega) b (by omega) d e
  · refine W.some ?_
    simp only [if_true]
    refine W.some ?_
    simp only [true_iff]
    exact ⟨n1, n10, ⟨fun i hi => ⟨(hb i (by omega)).1, h4 i (by omega) hi⟩, fun i j hi hj e => h6 i j (by omega) hi (by omega) hj e⟩, fun i hi hi' => h5 i (by omega) hi⟩
end Go.Pu

/- Plain laws: permutations one after the other, back, and their signs. -/
namespace Go.Pu
open Go Go.Abs Go.Lab

/-! ## Products over pairs -/
/-! ## The functions -/
theorem eqPl_iff {p q : Nat → Int} : eqPl p q = true ↔ ∀ i : Nat, i < 10 → p i = q i := by
  simp [eqPl]

/-- 'r' leads back what 'p' has led. -/
structure BackOf (n : Int) (p r : Nat → Int) : Prop where
  at_ : ∀ i : Nat, (i : Int) < n → r (p i).toNat = i
  zero : ∀ i : Nat, n ≤ i → r i = 0

theorem BackOf.perm {n : Int} {p r : Nat → Int} (hb : ByP p) (h10 : n ≤ 10) (hp : PermP n p) (h : BackOf n p r) : PermP n r := by
  have on := ((permP_iff hb h10).1 hp).2
  refine ⟨fun v hv => ?_, fun v u hv hu e => ?_⟩
  · obtain ⟨i, hi, e⟩ := on v hv
    have := h.at_ i hi
    rw [e] at this; simp only [Int.toNat_natCast] at this; omega
  · obtain ⟨i, hi, e1⟩ := on v hv
    obtain ⟨j, hj, e2⟩ := on u hu
    have a := h.at_ i hi; have b := h.at_ j hj
    rw [e1] at a; rw [e2] at b
    simp only [Int.toNat_natCast] at a b
    have : i = j := by omega
    subst this; omega

/-! ## Signs -/
end Go.Pu

/- Plain laws: squares as tables; the reference's functions on them. -/
namespace Go.Pu
open Go Go.Abs Go.Lab

/-- The table of a function below n, else 0. -/
def tabF (n : Int) (g : Nat → Nat → Int) : Nat → Nat → Int := fun i j => if (i : Int) < n ∧ (j : Int) < n then g i j else 0
def Fil (n : Int) (g : Nat → Nat → Int) (x y : Int) (t : Nat → Nat → Int) : Prop :=
  ∀ i j : Nat, t i j = if (j : Int) < n ∧ ((i : Int) < x ∨ (i : Int) = x ∧ (j : Int) < y) then g i j else 0
theorem Fil.zero {n : Int} {g : Nat → Nat → Int} : Fil n g 0 0 tb0 := fun i j => by rw [if_neg (by omega)]; rfl
theorem Fil.step {n : Int} {g : Nat → Nat → Int} {x y : Int} {t : Nat → Nat → Int} (h : Fil n g x y t) (hx : 0 ≤ x) (hy : 0 ≤ y) (hn : y < n) : Fil n g x (y + 1) (tset t x.toNat y.toNat (g x.toNat y.toNat)) := fun i j => by
  unfold tset
  by_cases e : i = x.toNat ∧ j = y.toNat
  · rw [if_pos e, if_pos (by omega), e.1, e.2]
  · rw [if_neg e, h i j]
    by_cases e2 : (j : Int) < n ∧ ((i : Int) < x ∨ (i : Int) = x ∧ (j : Int) < y)
    · rw [if_pos e2, if_pos (by omega)]
    · rw [if_neg e2, if_neg (by omega)]
theorem Fil.row {n : Int} {g : Nat → Nat → Int} {x y : Int} {t : Nat → Nat → Int} (h : Fil n g x y t) (hy : n ≤ y) : Fil n g (x + 1) 0 t := fun i j => by
  rw [h i j]
  by_cases e2 : (j : Int) < n ∧ ((i : Int) < x ∨ (i : Int) = x ∧ (j : Int) < y)
  · rw [if_pos e2, if_pos (by omega)]
  · rw [if_neg e2, if_neg (by omega)]
theorem Fil.full {n : Int} {g : Nat → Nat → Int} {x : Int} {t : Nat → Nat → Int} (h : Fil n g x 0 t) (hx : x = n) : t = tabF n g := by
  funext i j
  rw [h i j]; unfold tabF
  by_cases e2 : (i : Int) < n ∧ (j : Int) < n
  · rw [if_pos e2, if_pos (by omega)]
  · rw [if_neg e2, if_neg (by omega)]

/-- Two loops that fill a square. -/
theorem W.fill {α ρ : Type} {Q : α → Prop} {n ord : Int} (h0n : 0 ≤ n) (hn : n ≤ 10) {g : Nat → Nat → Int} {step1 : Int → Int × Sq → Option (Out (Int × Sq) ρ)} {step0 : Int × Sq → Option (Out (Int × Sq) ρ)}
    (h1 : ∀ x y t, 0 ≤ x → x < n → 0 ≤ y → y < n → W (step1 x (y, ⟨ord, t⟩)) fun o => o = Out.next (y + 1, ⟨ord, tset t x.toNat y.toNat (g x.toNat y.toNat)⟩))
    (h1e : ∀ x y t, 0 ≤ x → x < n → n ≤ y → W (step1 x (y, ⟨ord, t⟩)) fun o => o = Out.stop (y, ⟨ord, t⟩) 2)
    (h0 : ∀ x t, 0 ≤ x → x < n → ∀ Q' : Out (Int × Sq) ρ → Prop, (∀ k : Out (Int × Sq) ρ → Option (Out (Int × Sq) ρ), (∀ y s, k (.stop (y, s) 2) = Option.some (.next (IntKind.i64.wrap (x + 1), s))) → W ((loopV (step1 x) (0, ⟨ord, t⟩)).bind k) Q') → W (step0 (x, ⟨ord, t⟩)) Q')
    (h0e : ∀ x t, 0 ≤ x → n ≤ x → W (step0 (x, ⟨ord, t⟩)) fun o => o = Out.stop (x, ⟨ord, t⟩) 0)
    {k : Out (Int × Sq) ρ → Option α} (hk : ∀ x, W (k (.stop (x, ⟨ord, tabF n g⟩) 0)) Q) : W ((loopV step0 (0, ⟨ord, tb0⟩)).bind k) Q := by
  refine W.upto (fun s => s.1) n (fun s => 0 ≤ s.1 ∧ s.1 ≤ n ∧ s.2.order = ord ∧ Fil n g s.1 0 s.2.t) ⟨by simp, by simp; omega, rfl, Fil.zero⟩ ?_
  rintro ⟨x, ⟨o, t⟩⟩ ⟨a1, a2, a3, a4⟩
  simp only at a1 a2 a3 a4
  subst a3
  by_cases hx : x < n
  · refine h0 x t a1 hx _ fun kk hkk => ?_
    refine W.upto (fun s => s.1) n (fun s => 0 ≤ s.1 ∧ s.2.order = o ∧ Fil n g x s.1 s.2.t) ⟨by simp, rfl, a4⟩ ?_
    rintro ⟨y, ⟨o', t'⟩⟩ ⟨b1, b2, b3⟩
    simp only at b1 b2 b3
    subst b2
    by_cases hy : y < n
    · refine (h1 x y t' a1 hx b1 hy).mono fun o ho => ?_
      subst ho
      exact ⟨⟨by simp only; omega, rfl, b3.step a1 b1 hy⟩, by simp only; omega, by simp only; omega⟩
    · refine (h1e x y t' a1 hx (by omega)).mono fun o ho => ?_
      subst ho
      simp only
      rw [hkk]
      refine W.some ?_
      simp only
      rw [w64 (by omega)]
      exact ⟨⟨by omega, by omega, trivial, b3.row (by omega)⟩, by omega, by omega⟩
  · refine (h0e x t a1 (by omega)).mono fun o ho => ?_
    subst ho
    simp only
    rw [a4.full (by omega)]
    exact hk x

/-! ## Squares -/
def Byt (t : Nat → Nat → Int) : Prop := ∀ x y : Nat, x < 10 → y < 10 → 0 ≤ t x y ∧ t x y ≤ 255

structure Latin (q : Sq) : Prop where
  n1 : 1 ≤ q.order
  n10 : q.order ≤ 10
  row : ∀ x : Nat, (x : Int) < q.order → PermP q.order (q.t x)
  col : ∀ y : Nat, (y : Int) < q.order → PermP q.order fun x => q.t x y
  zero : ∀ x y : Nat, x < 10 → y < 10 → q.order ≤ x ∨ q.order ≤ y → q.t x y = 0

theorem Latin.byt {q : Sq} (h : Latin q) : Byt q.t := fun x y hx hy => by
  by_cases e : q.order ≤ x ∨ q.order ≤ y
  · rw [h.zero x y hx hy e]; omega
  · have := h.n10
    have := (h.row x (by omega)).lo y (by omega)
    omega
theorem Latin.lt {q : Sq} (h : Latin q) {x y : Nat} (hx : (x : Int) < q.order) (hy : (y : Int) < q.order) : 0 ≤ q.t x y ∧ q.t x y < q.order := (h.row x hx).lo y hy

theorem l01Rows_W {t : Nat → Nat → Int} {n : Int} (hb : Byt t) (h0 : 1 ≤ n) (h10 : n ≤ 10) :
    W (m_spec_l01Rows t n) fun r => r = true ↔ (∀ x : Nat, x < 10 → (x : Int) < n → IsP n (t x)) ∧ ∀ x : Nat, x < 10 → n ≤ x → ∀ y : Nat, y < 10 → t x y = 0 := by
  unfold m_spec_l01Rows
  refine W.upto (fun s => s) 10 (fun s => 0 ≤ s ∧ s ≤ 10 ∧ (∀ x : Nat, (x : Int) < s → (x : Int) < n → IsP n (t x)) ∧ ∀ x : Nat, (x : Int) < s → n ≤ x → ∀ y : Nat, y < 10 → t x y = 0) ⟨by omega, by omega, by omega, by omega⟩ ?_
  rintro x1 ⟨h1, h2, h3, h4⟩
  unfold m_spec_l01Rows_l0
  refine W.condP (fun h => ?_) (fun h => ?_)
  · refine W.condP (fun h' => W.chk (by omega) (W.call (l01Perm_W (fun i hi => hb _ i (by omega) hi)) fun b hbn => W.condNot (fun hf => W.some (W.some ?_)) (fun ht => W.condP (fun h'' => by omega) (fun _ => W.some ?_))))
      (fun h' => W.condP (fun _ => W.chk (by omega) (W.condNot (fun hf => W.some (W.some ?_)) (fun ht => W.some ?_))) (fun h'' => by omega))
    · simp only [hf, Bool.false_eq_true, false_iff] at hbn ⊢
      exact fun x => hbn (x.1 _ (by omega) (by omega))
    · simp only
      rw [w64 (by omega)]
      refine ⟨⟨by omega, by omega, fun i hi hn => ?_, fun i hi hn => h4 i (by omega) hn⟩, by omega, by omega⟩
      by_cases e : (i : Int) = x1
      · have := hbn.1 ht; subst e; simpa using this
      · exact h3 i (by omega) hn
    · simp only [Bool.false_eq_true, false_iff]
      rintro ⟨_, hz⟩
      refine ne_true_of_false hf (eqPl_iff.2 fun i hi => ?_)
      exact hz _ (by omega) (by omega) i hi
    · simp only
      rw [w64 (by omega)]
      refine ⟨⟨by omega, by omega, fun i hi hn => h3 i (by omega) hn, fun i hi hn => ?_⟩, by omega, by omega⟩
      by_cases e : (i : Int) = x1
      · subst e
        intro y hy
        have := eqPl_iff.1 ht y hy
        simpa [pl0] using this
      · exact h4 i (by omega) hn
  · refine W.some ?_
    simp only [if_true]
    refine W.some ?_
    simp only [true_iff]
    exact ⟨fun x hx hn => h3 x (by omega) hn, fun x hx hn => h4 x (by omega) hn⟩

theorem l01Turned_W (t : Nat → Nat → Int) : W (m_spec_l01Turned t) fun r => ∀ x y : Nat, r x y = if x < 10 ∧ y < 10 then t y x else 0 := by
  unfold m_spec_l01Turned
  refine W.upto (fun s => s.1) 10 (fun s => 0 ≤ s.1 ∧ s.1 ≤ 10 ∧ ∀ x y : Nat, s.2 x y = if (y : Int) < s.1 ∧ x < 10 then t y x else 0) ⟨by simp, by simp, fun x y => by rw [if_neg (by simp only; omega)]; rfl⟩ ?_
  rintro ⟨x1, x2⟩ ⟨h1, h2, h3⟩
  simp only at h1 h2 h3
  unfold m_spec_l01Turned_l0
  refine W.condP (fun h => ?_) (fun h => ?_)
  · refine W.upto (fun s => s.1) 10 (fun s => 0 ≤ s.1 ∧ s.1 ≤ 10 ∧ ∀ x y : Nat, s.2 x y = if x < 10 ∧ ((y : Int) < x1 ∨ (y : Int) = x1 ∧ (x : Int) < s.1) then t y x else 0) ⟨by simp, by simp, fun x y => ?_⟩ ?_
    · simp only
      rw [h3 x y]
      by_cases e : (y : Int) < x1 ∧ x < 10
      · rw [if_pos e, if_pos (by omega)]
      · rw [if_neg e, if_neg (by omega)]
    rintro ⟨x3, x4⟩ ⟨g1, g2, g3⟩
    simp only at g1 g2 g3
    unfold m_spec_l01Turned_l1
    refine W.condP (fun h' => W.chk (by omega) (W.chk (by omega) (W.chk (by omega) (W.chk (by omega) (W.some ?_))))) (fun h' => W.some ?_)
    · simp only
      rw [w64 (by omega)]
      refine ⟨⟨by omega, by omega, fun x y => ?_⟩, by omega, by omega⟩
      unfold tset
      by_cases e : x = x3.toNat ∧ y = x1.toNat
      · rw [if_pos e, if_pos (by omega), e.1, e.2]
      · rw [if_neg e, g3 x y]
        by_cases e2 : x < 10 ∧ ((y : Int) < x1 ∨ (y : Int) = x1 ∧ (x : Int) < x3)
        · rw [if_pos e2, if_pos (by omega)]
        · rw [if_neg e2, if_neg (by omega)]
    · simp only [if_true]
      refine W.some ?_
      simp only
      rw [w64 (by omega)]
      refine ⟨⟨by omega, by omega, fun x y => ?_⟩, by omega, by omega⟩
      rw [g3 x y]
      by_cases e2 : x < 10 ∧ ((y : Int) < x1 ∨ (y : Int) = x1 ∧ (x : Int) < x3)
      · rw [if_pos e2, if_pos (by omega)]
      · rw [if_neg e2, if_neg (by omega)]
  · refine W.some (W.some fun x y => ?_)
    rw [h3 x y]
    by_cases e2 : x < 10 ∧ y < 10
    · rw [if_pos e2, if_pos (by omega)]
    · rw [if_neg e2, if_neg (by omega)]

theorem latin_iff {q : Sq} (h1 : 1 ≤ q.order) (h10 : q.order ≤ 10) {r : Nat → Nat → Int} (hr : ∀ x y : Nat, r x y = if x < 10 ∧ y < 10 then q.t y x else 0) :
    Latin q ↔ ((∀ x : Nat, x < 10 → (x : Int) < q.order → IsP q.order (q.t x)) ∧ ∀ x : Nat, x < 10 → q.order ≤ x → ∀ y : Nat, y < 10 → q.t x y = 0)
      ∧ ((∀ x : Nat, x < 10 → (x : Int) < q.order → IsP q.order (r x)) ∧ ∀ x : Nat, x < 10 → q.order ≤ x → ∀ y : Nat, y < 10 → r x y = 0) := by
  have hr' : ∀ x y : Nat, x < 10 → y < 10 → r x y = q.t y x := fun x y hx hy => by rw [hr x y, if_pos ⟨hx, hy⟩]
  constructor
  · intro h
    refine ⟨⟨fun x hx hn => ⟨h1, h10, h.row x hn, fun i hi hi' => h.zero x i hx hi' (.inr hi)⟩, fun x hx hn y hy => h.zero x y hx hy (.inl hn)⟩, fun x hx hn => ⟨h1, h10, (h.col x hn).ext fun i hi => hr' x i hx (by omega), fun i hi hi' => ?_⟩, fun x hx hn y hy => ?_⟩
    · rw [hr' x i hx hi']; exact h.zero i x hi' hx (.inl hi)
    · rw [hr' x y hx hy]; exact h.zero y x hy hx (.inr hn)
  · rintro ⟨⟨a, b⟩, c, d⟩
    refine ⟨h1, h10, fun x hx => (a x (by omega) hx).perm, fun y hy => (c y (by omega) hy).perm.ext fun i hi => (hr' y i (by omega) (by omega)).symm, fun x y hx hy hn => ?_⟩
    rcases hn with hn | hn
    · exact b x hx hn y hy
    · have := d y hy hn x hx
      rw [hr' y x hy hx] at this; exact this

theorem l01Is_W {q : Sq} (hb : Byt q.t) : W (m_spec_l01Is q) fun r => r = true ↔ Latin q := by
  unfold m_spec_l01Is
  refine W.call (l01In_W _ _ _) fun b hbn => W.cond (fun h => ?_) (fun h => W.some ?_)
  · obtain ⟨n1, n10⟩ := hbn.1 h
    obtain ⟨rt, et, hrt⟩ := l01Turned_W q.t
    have iff := latin_iff n1 n10 hrt
    refine W.call (l01Rows_W hb n1 n10) fun b2 h2 => W.cond (fun h => ?_) (fun h => W.some ?_)
    · rw [et]
      refine W.call (W.some rfl) fun r3 e3 => ?_
      subst e3
      refine W.call (l01Rows_W (fun x y hx hy => by rw [hrt, if_pos ⟨hx, hy⟩]; exact hb y x hy hx) n1 n10) fun b4 h4 => W.some ?_
      rw [h4, iff]
      exact ⟨fun x => ⟨h2.1 h, x⟩, fun x => x.2⟩
    · simp only [h, Bool.false_eq_true, false_iff] at h2 ⊢
      exact fun x => h2 (iff.1 x).1
  · simp only [h, Bool.false_eq_true, false_iff] at hbn ⊢
    exact fun x => hbn ⟨x.n1, x.n10⟩
end Go.Pu

/- Plain laws: squares that are read, moved, ordered, made. -/
namespace Go.Pu
open Go Go.Abs Go.Lab

theorem l01Split_W {s : ByteArray} (hs : s.size ≤ 1000000) (c : Int) : W (m_spec_l01Split s c) fun r => 1 ≤ r.length ∧ r.length ≤ s.size + 1 := by
  unfold m_spec_l01Split
  refine W.upto (fun t => t.2.2) s.size (fun t => 0 ≤ t.2.1 ∧ t.2.1 ≤ t.2.2 ∧ t.2.2 ≤ s.size ∧ (t.1.length : Int) ≤ t.2.2) ⟨by simp, by simp, by simp, by simp⟩ ?_
  rintro ⟨x1, x2, x3⟩ ⟨h1, h2, h3, h4⟩
  simp only at h1 h2 h3 h4
  unfold m_spec_l01Split_l0
  refine W.condP (fun h => W.chk (by omega) (W.cond (fun h' => W.chk (by omega) (W.chk (by omega) (W.some ?_))) (fun h' => W.some ?_))) (fun h => ?_)
  · simp only
    rw [w64 (by omega)]
    refine ⟨⟨by omega, by omega, by omega, by simp; omega⟩, by omega, by omega⟩
  · simp only
    rw [w64 (by omega)]
    refine ⟨⟨by omega, by omega, by omega, by omega⟩, by omega, by omega⟩
  · refine W.some ?_
    simp only [if_true]
    refine W.chk (by omega) (W.chk (by omega) (W.some ?_))
    simp only [List.length_append, List.length_cons, List.length_nil]
    omega

theorem Byt.tset {t : Nat → Nat → Int} (h : Byt t) (a b : Nat) {v : Int} (hv : 0 ≤ v ∧ v ≤ 255) : Byt (Abs.tset t a b v) := fun x y hx hy => by
  unfold Abs.tset
  split
  · exact hv
  · exact h x y hx hy
theorem Byt.zero : Byt tb0 := fun _ _ _ _ => by simp [tb0]

theorem l01Read_W {s : ByteArray} (hs : s.size ≤ 1000000) : W (m_spec_l01Read s) fun r => Byt r.1.t ∧ (r.2 = true → Latin r.1) := by
  unfold m_spec_l01Read
  refine W.call (l01Split_W hs _) fun l hl => ?_
  refine W.condP (fun h => W.some ⟨Byt.zero, by simp⟩) (fun h => ?_)
  refine W.upto (fun t => t.1) l.length (fun t => 0 ≤ t.1 ∧ t.1 ≤ l.length ∧ Byt t.2.2.t) ⟨by simp, by simp, Byt.zero⟩ ?_
  rintro ⟨x1, x2, x3⟩ ⟨h1, h2, h3⟩
  simp only at h1 h2 h3
  unfold m_spec_l01Read_l0
  refine W.condP (fun h' => W.chk (by omega) (W.condNe (fun h4 => W.some (W.some ⟨Byt.zero, by simp⟩)) (fun h4 => ?_))) (fun h' => ?_)
  · refine W.upto (fun t => t.1) l.length (fun t => 0 ≤ t.1 ∧ t.1 ≤ l.length ∧ Byt t.2.2.t) ⟨by simp, by simp, h3⟩ ?_
    rintro ⟨x4, x5, x6⟩ ⟨g1, g2, g3⟩
    simp only at g1 g2 g3
    unfold m_spec_l01Read_l1
    refine W.condP (fun g => W.chk (by omega) (W.chk (by omega) (W.condP (fun _ => W.some (W.some (W.some ⟨Byt.zero, by simp⟩))) (fun _ => W.chk (by omega) (W.chk (by omega) (W.condP (fun _ => W.some (W.some (W.some ⟨Byt.zero, by simp⟩))) (fun _ => W.chk (by omega) (W.chk (by omega) (W.chk (by omega) (W.chk (by omega) (W.some ?_)))))))))))
      (fun g => W.some ?_)
    · simp only
      rw [w64 (by omega)]
      exact ⟨⟨by omega, by omega, g3.tset _ _ (w8_lt _)⟩, by omega, by omega⟩
    · simp only [if_true]
      refine W.some ?_
      simp only
      rw [w64 (by omega)]
      exact ⟨⟨by omega, by omega, g3⟩, by omega, by omega⟩
  · refine W.some ?_
    simp only [if_true]
    exact W.call (l01Is_W h3) fun b hb => W.some ⟨h3, fun e => hb.1 e⟩

theorem l01Row_W {q : Sq} {x : Int} (h0 : 0 ≤ x) (h1 : x < 10) : W (m_spec_l01Row q x) fun r => r = q.t x.toNat := by
  unfold m_spec_l01Row
  exact W.chk (by omega) (W.some rfl)

theorem l01Column_W {q : Sq} {y : Int} (hn : q.order ≤ 10) (hn0 : 0 ≤ q.order) (h0 : 0 ≤ y) (h1 : y < 10) : W (m_spec_l01Column q y) fun r => r = fun i : Nat => if (i : Int) < q.order then q.t i y.toNat else 0 := by
  unfold m_spec_l01Column
  refine W.upto (fun t => t.1) q.order (fun t => 0 ≤ t.1 ∧ t.1 ≤ q.order ∧ ∀ i : Nat, t.2 i = if (i : Int) < t.1 then q.t i y.toNat else 0) ⟨by simp, by simp; omega, fun i => by rw [if_neg (by simp only; omega)]; rfl⟩ ?_
  rintro ⟨x1, x2⟩ ⟨h2, h3, h4⟩
  simp only at h2 h3 h4
  unfold m_spec_l01Column_l0
  refine W.condP (fun h => W.chk (by omega) (W.chk (by omega) (W.chk (by omega) (W.some ?_)))) (fun h => W.some (W.some ?_))
  · simp only
    rw [w64 (by omega)]
    refine ⟨⟨by omega, by omega, fun i => ?_⟩, by omega, by omega⟩
    rw [fset_eq]
    split
    · rename_i e; rw [if_pos (by omega), e]
    · rw [h4 i]
      by_cases e : (i : Int) < x1
      · rw [if_pos e, if_pos (by omega)]
      · rw [if_neg e, if_neg (by omega)]
  · funext i
    rw [h4 i]
    by_cases e : (i : Int) < x1
    · rw [if_pos e, if_pos (by omega)]
    · rw [if_neg e, if_neg (by omega)]

/-- 'r' has q's products, rows led by a, columns by b, entries by c. -/
structure MovedOf (q : Sq) (a b c : Nat → Int) (r : Sq) : Prop where
  ord : r.order = q.order
  at_ : ∀ x y : Nat, (x : Int) < q.order → (y : Int) < q.order → r.t (a x).toNat (b y).toNat = c (q.t x y).toNat
  zero : ∀ x y : Nat, q.order ≤ x ∨ q.order ≤ y → r.t x y = 0

theorem l01Moved_W {q : Sq} {a b c : Nat → Int} (h1 : 1 ≤ q.order) (h10 : q.order ≤ 10) (hq : ∀ x y : Nat, (x : Int) < q.order → (y : Int) < q.order → 0 ≤ q.t x y ∧ q.t x y < 10) (ha : PermP q.order a) (hb : PermP q.order b) :
    W (m_spec_l01Moved q a b c) (MovedOf q a b c) := by
  unfold m_spec_l01Moved
  refine W.upto (fun t => t.1) q.order (fun t => 0 ≤ t.1 ∧ t.1 ≤ q.order ∧ t.2.order = q.order ∧ (∀ x y : Nat, (x : Int) < t.1 → (y : Int) < q.order → t.2.t (a x).toNat (b y).toNat = c (q.t x y).toNat) ∧ ∀ x y : Nat, q.order ≤ x ∨ q.order ≤ y → t.2.t x y = 0)
    ⟨by simp, by simp; omega, rfl, fun x y hx => by simp only at hx; omega, fun x y _ => rfl⟩ ?_
  rintro ⟨x1, ⟨o, x2⟩⟩ ⟨h2, h3, h4, h5, h6⟩
  simp only at h2 h3 h4 h5 h6
  subst h4
  unfold m_spec_l01Moved_l0
  refine W.condP (fun h => ?_) (fun h => ?_)
  · refine W.upto (fun t => t.1) q.order (fun t => 0 ≤ t.1 ∧ t.2.order = q.order ∧ (∀ x y : Nat, (y : Int) < q.order → (x : Int) < x1 ∨ (x : Int) = x1 ∧ (y : Int) < t.1 → t.2.t (a x).toNat (b y).toNat = c (q.t x y).toNat) ∧ ∀ x y : Nat, q.order ≤ x ∨ q.order ≤ y → t.2.t x y = 0)
      ⟨by simp, rfl, fun x y hy hx => h5 x y (by simp only at hx; omega) hy, h6⟩ ?_
    rintro ⟨x3, ⟨o, x4⟩⟩ ⟨g1, g2, g3, g4⟩
    simp only at g1 g2 g3 g4
    subst g2
    unfold m_spec_l01Moved_l1
    refine W.condP (fun h' => ?_) (fun h' => ?_)
    · have e1 := hq x1.toNat x3.toNat (by omega) (by omega)
      have e2 := ha.lo x1.toNat (by omega)
      have e3 := hb.lo x3.toNat (by omega)
      refine W.chk (by omega) (W.chk (by omega) (W.chk (by omega) (W.chk (by omega) (W.chk (by omega) (W.chk (by omega) (W.chk (by omega) (W.some ?_)))))))
      simp only
      rw [w64 (by omega)]
      refine ⟨⟨by omega, trivial, fun x y hy hx => ?_, fun x y hx => ?_⟩, by omega, by omega⟩
      · unfold Abs.tset
        have ex := ha.lo x (by omega)
        have ey := hb.lo y hy
        split
        · rename_i e
          have := ha.inj x x1.toNat (by omega) (by omega) (by omega)
          have := hb.inj y x3.toNat (by omega) (by omega) (by omega)
          subst x; subst y; rfl
        · rename_i e
          refine g3 x y hy ?_
          by_cases e' : (x : Int) = x1 ∧ (y : Int) = x3
          · obtain ⟨f1, f2⟩ := e'
            subst f1; subst f2; simp at e
          · omega
      · unfold Abs.tset
        rw [if_neg (by omega)]
        exact g4 x y hx
    · refine W.some ?_
      simp only [if_true]
      refine W.some ?_
      simp only
      rw [w64 (by omega)]
      exact ⟨⟨by omega, by omega, trivial, fun x y hx hy => g3 x y hy (by omega), g4⟩, by omega, by omega⟩
  · exact W.some (W.some ⟨rfl, fun x y hx hy => h5 x y (by omega) hy, h6⟩)

theorem PermP.onto {n : Int} {p : Nat → Int} (h : PermP n p) {v : Nat} (hv : (v : Int) < n) : ∃ i : Nat, (i : Int) < n ∧ p i = v := by
  obtain ⟨i, hi, e⟩ := onto_of_inj (n := n.toNat) (f := fun i => (p i).toNat) (fun i hi => by have := h.lo i (by omega); show (p i).toNat < _; omega)
    (fun i j hi hj e => h.inj i j (by omega) (by omega) (by have := h.lo i (by omega); have := h.lo j (by omega); simp only at e; omega)) v (by omega)
  refine ⟨i, by omega, ?_⟩
  have := h.lo i (by omega)
  simp only at e; omega

theorem MovedOf.latin {q r : Sq} {a b c : Nat → Int} (hq : Latin q) (ha : PermP q.order a) (hb : PermP q.order b) (hc : PermP q.order c) (h : MovedOf q a b c r) : Latin r := by
  have key : ∀ i j : Nat, (i : Int) < q.order → (j : Int) < q.order → ∃ x y : Nat, (x : Int) < q.order ∧ (y : Int) < q.order ∧ a x = i ∧ b y = j ∧ r.t i j = c (q.t x y).toNat := fun i j hi hj => by
    obtain ⟨x, hx, ex⟩ := ha.onto hi
    obtain ⟨y, hy, ey⟩ := hb.onto hj
    refine ⟨x, y, hx, hy, ex, ey, ?_⟩
    have := h.at_ x y hx hy
    rw [ex, ey] at this; simpa using this
  have hcq : ∀ x y : Nat, (x : Int) < q.order → (y : Int) < q.order → 0 ≤ c (q.t x y).toNat ∧ c (q.t x y).toNat < q.order := fun x y hx hy => by
    have := hq.lt hx hy
    exact hc.lo _ (by omega)
  have hci : ∀ x y x' y' : Nat, (x : Int) < q.order → (y : Int) < q.order → (x' : Int) < q.order → (y' : Int) < q.order → c (q.t x y).toNat = c (q.t x' y').toNat → q.t x y = q.t x' y' := fun x y x' y' hx hy hx' hy' e => by
    have a := hq.lt hx hy; have b := hq.lt hx' hy'
    have := hc.inj _ _ (by omega) (by omega) e
    omega
  refine ⟨by rw [h.ord]; exact hq.n1, by rw [h.ord]; exact hq.n10, fun i hi => ?_, fun j hj => ?_, fun x y _ _ hz => h.zero x y (by rw [← h.ord]; exact hz)⟩
  · rw [h.ord] at hi ⊢
    refine ⟨fun j hj => ?_, fun j k hj hk e => ?_⟩
    · obtain ⟨x, y, hx, hy, ex, ey, e⟩ := key i j hi hj
      rw [e]; exact hcq x y hx hy
    · obtain ⟨x, y, hx, hy, ex, ey, e1⟩ := key i j hi hj
      obtain ⟨x', y', hx', hy', ex', ey', e2⟩ := key i k hi hk
      rw [e1, e2] at e
      have e' := hci _ _ _ _ hx hy hx' hy' e
      have exx : x = x' := ha.inj _ _ hx hx' (by omega)
      subst exx
      have := (hq.row x hx).inj _ _ hy hy' e'
      subst this; omega
  · rw [h.ord] at hj ⊢
    refine ⟨fun i hi => ?_, fun i k hi hk e => ?_⟩
    · obtain ⟨x, y, hx, hy, ex, ey, e⟩ := key i j hi hj
      simp only [e]; exact hcq x y hx hy
    · obtain ⟨x, y, hx, hy, ex, ey, e1⟩ := key i j hi hj
      obtain ⟨x', y', hx', hy', ex', ey', e2⟩ := key k j hk hj
      simp only [e1, e2] at e
      have e' := hci _ _ _ _ hx hy hx' hy' e
      have eyy : y = y' := hb.inj _ _ hy hy' (by omega)
      subst eyy
      have := (hq.col y hy).inj _ _ hx hx' e'
      subst this; omega

/-- A loop: 0 is neutral. -/
structure Loop (q : Sq) : Prop extends Latin q where
  left : ∀ x : Nat, (x : Int) < q.order → q.t 0 x = x
  right : ∀ x : Nat, (x : Int) < q.order → q.t x 0 = x

theorem l01Ordered_W {q : Sq} (h : Latin q) : W (m_spec_l01Ordered q) fun r => Loop r ∧ r.order = q.order := by
  have n1 := h.n1; have n10 := h.n10
  have h00 : ((0 : Nat) : Int) < q.order := by omega
  unfold m_spec_l01Ordered
  obtain ⟨id, eid, hid⟩ := l01Same_W (n := q.order) n10
  have pid : PermP q.order id := PermP.id hid.1
  refine W.call (W.eq eid rfl) fun r1 e1 => ?_
  refine W.call (l01Row_W (by omega) (by omega)) fun r2 e2 => ?_
  refine W.call (W.eq eid rfl) fun r3 e3 => ?_
  subst e1; subst e2; subst e3
  have hlt : ∀ {q : Sq}, Latin q → ∀ x y : Nat, (x : Int) < q.order → (y : Int) < q.order → 0 ≤ q.t x y ∧ q.t x y < 10 := fun h x y hx hy => by have := h.lt hx hy; have := h.n10; omega
  refine W.call (l01Moved_W n1 n10 (hlt h) pid (h.row 0 h00)) fun r4 h4 => ?_
  have l4 := h4.latin h pid (h.row 0 h00) pid
  have o4 := h4.ord
  -- the row 0 is in order
  have z4 : ∀ v : Nat, (v : Int) < q.order → r4.t 0 v = v := fun v hv => by
    obtain ⟨y, hy, ey⟩ := (h.row 0 h00).onto hv
    have e := h4.at_ 0 y h00 hy
    rw [hid.1 0 h00, show (Int.toNat 0) = 0 from rfl, ey] at e
    simp only [Int.toNat_natCast] at e
    rw [hid.1 v hv] at e
    simpa using e
  refine W.call (l01Column_W (by omega) (by omega) (by omega) (by omega)) fun r5 e5 => ?_
  refine W.call (W.eq eid rfl) fun r6 e6 => ?_
  refine W.call (W.eq eid rfl) fun r7 e7 => ?_
  subst e6; subst e7
  have c5 : ∀ i : Nat, (i : Int) < q.order → r5 i = r4.t i 0 := fun i hi => by rw [e5]; simp only; rw [if_pos (by omega)]; rfl
  have p5 : PermP q.order r5 := by
    have := l4.col 0 (by omega)
    rw [o4] at this
    exact this.ext c5
  refine W.call (l01Moved_W (by omega) (by omega) (hlt l4) (by rw [o4]; exact p5) (by rw [o4]; exact pid)) fun r8 h8 => W.some ?_
  have l8 := h8.latin l4 (by rw [o4]; exact p5) (by rw [o4]; exact pid) (by rw [o4]; exact pid)
  have o8 : r8.order = q.order := by rw [h8.ord, o4]
  refine ⟨⟨l8, fun y hy => ?_, fun v hv => ?_⟩, o8⟩
  · have e := h8.at_ 0 y (by omega) (by omega)
    have z := z4 y (by omega)
    rw [c5 0 h00, z4 0 h00, hid.1 y (by omega), z] at e
    simp only [Int.toNat_natCast] at e
    rw [hid.1 y (by omega)] at e
    simpa using e
  · rw [o8] at hv
    obtain ⟨x, hx, ex⟩ := p5.onto hv
    have e := h8.at_ x 0 (by omega) (by omega)
    have c := c5 x hx
    rw [ex] at c
    rw [ex, hid.1 0 h00, ← c] at e
    simp only [Int.toNat_natCast] at e
    rw [hid.1 v hv] at e
    simpa using e
end Go.Pu

/- Plain laws: cyclic and elementary squares, direct products, exchanges along a cycle. -/
namespace Go.Pu
open Go Go.Abs Go.Lab

theorem xor_i64 {a b : Nat} (ha : a < 2 ^ 62) (hb : b < 2 ^ 62) : bits .xor .i64 (a : Int) (b : Int) = ((a ^^^ b : Nat) : Int) := by
  show IntKind.i64.wrap ((BitVec.ofInt 64 (a : Int) ^^^ BitVec.ofInt 64 (b : Int)).toNat : Int) = _
  have h : a ^^^ b < 2 ^ 62 := Nat.xor_lt_two_pow ha hb
  have e1 : (BitVec.ofInt 64 (a : Int)).toNat = a := by rw [BitVec.toNat_ofInt]; omega
  have e2 : (BitVec.ofInt 64 (b : Int)).toNat = b := by rw [BitVec.toNat_ofInt]; omega
  rw [BitVec.toNat_xor, e1, e2]
  exact w64 (by omega)

theorem tabF_lt {n : Int} {g : Nat → Nat → Int} {x y : Nat} (hx : (x : Int) < n) (hy : (y : Int) < n) : tabF n g x y = g x y := by unfold tabF; rw [if_pos ⟨hx, hy⟩]
theorem tabF_zero {n : Int} {g : Nat → Nat → Int} {x y : Nat} (h : n ≤ x ∨ n ≤ y) : tabF n g x y = 0 := by unfold tabF; rw [if_neg (by omega)]

theorem latin_tabF {n : Int} {g : Nat → Nat → Int} (h1 : 1 ≤ n) (h10 : n ≤ 10) (hlo : ∀ x y : Nat, (x : Int) < n → (y : Int) < n → 0 ≤ g x y ∧ g x y < n)
    (hr : ∀ x y z : Nat, (x : Int) < n → (y : Int) < n → (z : Int) < n → g x y = g x z → y = z) (hc : ∀ x y z : Nat, (x : Int) < n → (y : Int) < n → (z : Int) < n → g y x = g z x → y = z) : Latin ⟨n, tabF n g⟩ := by
  refine ⟨h1, h10, fun x hx => ⟨fun y hy => ?_, fun y z hy hz e => ?_⟩, fun x hx => ⟨fun y hy => ?_, fun y z hy hz e => ?_⟩, fun x y _ _ h => tabF_zero h⟩ <;> simp only at *
  · rw [tabF_lt hx hy]; exact hlo x y hx hy
  · rw [tabF_lt hx hy, tabF_lt hx hz] at e; exact hr x y z hx hy hz e
  · rw [tabF_lt hy hx]; exact hlo y x hy hx
  · rw [tabF_lt hy hx, tabF_lt hz hx] at e; exact hc x y z hx hy hz e

/-! ## Cyclic squares -/
def cycG (n : Int) (x y : Nat) : Int := ((x : Int) + y) % n
theorem cycG_eq {n : Int} {x y : Nat} (hx : (x : Int) < n) (hy : (y : Int) < n) : cycG n x y = if (x : Int) + y < n then (x : Int) + y else x + y - n := by
  unfold cycG
  split
  · exact Int.emod_eq_of_lt (by omega) (by omega)
  · rw [← Int.sub_emod_right ((x : Int) + y) n]
    exact Int.emod_eq_of_lt (by omega) (by omega)
def cycS (n : Int) : Sq := ⟨n, tabF n (cycG n)⟩
theorem cycS_latin {n : Int} (h1 : 1 ≤ n) (h10 : n ≤ 10) : Latin (cycS n) := by
  refine latin_tabF h1 h10 (fun x y hx hy => ?_) (fun x y z hx hy hz e => ?_) (fun x y z hx hy hz e => ?_)
  · rw [cycG_eq hx hy]; split <;> omega
  · rw [cycG_eq hx hy, cycG_eq hx hz] at e; split at e <;> split at e <;> omega
  · rw [cycG_eq hy hx, cycG_eq hz hx] at e; split at e <;> split at e <;> omega

theorem l01Cyclic_W {n : Int} (h1 : 1 ≤ n) (h10 : n ≤ 10) : W (m_spec_l01Cyclic n) fun r => r = cycS n := by
  unfold m_spec_l01Cyclic
  refine W.fill (n := n) (g := cycG n) (by omega) h10 (step1 := fun x => m_spec_l01Cyclic_l1 n x) (fun x y t hx hx' hy hy' => ?_) (fun x y t hx hx' hy => ?_) (fun x t hx hx' Q' h => ?_) (fun x t hx hx' => ?_) (fun x => ?_)
  · unfold m_spec_l01Cyclic_l1
    refine W.condP (fun h => W.chk (by omega) (W.chk (by omega) (W.chk (by omega) (W.some ?_)))) (fun h => by omega)
    rw [w64 (by omega), w64 (by omega)]
    have e : (x + y).tmod n = cycG n x.toNat y.toNat := by
      unfold cycG
      rw [Int.tmod_eq_emod_of_nonneg (by omega)]
      congr 1; omega
    have := Int.emod_nonneg ((x.toNat : Int) + y.toNat) (show n ≠ 0 by omega)
    have := Int.emod_lt_of_pos ((x.toNat : Int) + y.toNat) (show 0 < n by omega)
    rw [e, w8 (by unfold cycG; omega)]
  · unfold m_spec_l01Cyclic_l1
    exact W.condP (fun h => by omega) (fun h => W.some rfl)
  · unfold m_spec_l01Cyclic_l0
    exact W.condP (fun _ => h _ fun _ _ => rfl) (fun h => by omega)
  · unfold m_spec_l01Cyclic_l0
    exact W.condP (fun h => by omega) (fun h => W.some rfl)
  · exact W.some rfl

/-! ## Elementary squares -/
def eleG (x y : Nat) : Int := ((x ^^^ y : Nat) : Int)
def eleS (k : Nat) : Sq := ⟨((2 ^ k : Nat) : Int), tabF ((2 ^ k : Nat) : Int) eleG⟩
theorem eleG_lt {k : Nat} {x y : Nat} (hx : (x : Int) < ((2 ^ k : Nat) : Int)) (hy : (y : Int) < ((2 ^ k : Nat) : Int)) : 0 ≤ eleG x y ∧ eleG x y < ((2 ^ k : Nat) : Int) := by
  have := Nat.xor_lt_two_pow (n := k) (x := x) (y := y) (by omega) (by omega)
  unfold eleG; omega
theorem xor_cancel {a b c : Nat} (h : a ^^^ b = a ^^^ c) : b = c := by
  have : a ^^^ (a ^^^ b) = a ^^^ (a ^^^ c) := by rw [h]
  simpa [← Nat.xor_assoc, Nat.xor_self] using this
theorem pow3 {k : Nat} (h : k ≤ 3) : 1 ≤ 2 ^ k ∧ 2 ^ k ≤ 8 := by
  have : 2 ^ k ≤ 2 ^ 3 := Nat.pow_le_pow_right (by omega) h
  have : 0 < 2 ^ k := Nat.pow_pos (by omega)
  omega
theorem eleS_latin {k : Nat} (h : k ≤ 3) : Latin (eleS k) := by
  have := pow3 h
  refine latin_tabF (by omega) (by omega) (fun x y hx hy => eleG_lt hx hy) (fun x y z hx hy hz e => ?_) (fun x y z hx hy hz e => ?_)
  · unfold eleG at e; exact xor_cancel (a := x) (by omega)
  · unfold eleG at e
    rw [Nat.xor_comm y x, Nat.xor_comm z x] at e
    exact xor_cancel (a := x) (by omega)

theorem l01Elementary_W {k : Int} (h0 : 0 ≤ k) (h3 : k ≤ 3) : W (m_spec_l01Elementary k) fun r => r = eleS k.toNat := by
  have e : IntKind.i64.wrap (1 * 2 ^ (min ((IntKind.u64.wrap k)).toNat IntKind.i64.bits)) = ((2 ^ k.toNat : Nat) : Int) := by
    rw [wu64 (by omega)]; exact bit_i64 h0 (by omega)
  have hp := pow3 (k := k.toNat) (by omega)
  unfold m_spec_l01Elementary
  rw [e]
  refine W.chk (wu64_lt _).1 ?_
  refine W.fill (n := ((2 ^ k.toNat : Nat) : Int)) (g := eleG) (by omega) (by omega) (step1 := fun x => m_spec_l01Elementary_l1 k x) (fun x y t hx hx' hy hy' => ?_) (fun x y t hx hx' hy => ?_) (fun x t hx hx' Q' h => ?_) (fun x t hx hx' => ?_) (fun x => ?_)
  · unfold m_spec_l01Elementary_l1
    rw [e]
    refine W.condP (fun h => W.chk (by omega) (W.chk (by omega) (W.some ?_))) (fun h => by omega)
    rw [w64 (by omega)]
    have e' : bits .xor .i64 x y = eleG x.toNat y.toNat := by
      have := xor_i64 (a := x.toNat) (b := y.toNat) (by omega) (by omega)
      unfold eleG
      rw [← this]; congr 1 <;> omega
    have := eleG_lt (k := k.toNat) (x := x.toNat) (y := y.toNat) (by omega) (by omega)
    rw [e', w8 (by omega)]
  · unfold m_spec_l01Elementary_l1
    rw [e]
    exact W.condP (fun h => by omega) (fun h => W.some rfl)
  · unfold m_spec_l01Elementary_l0
    rw [e]
    exact W.condP (fun _ => h _ fun _ _ => rfl) (fun h => by omega)
  · unfold m_spec_l01Elementary_l0
    rw [e]
    exact W.condP (fun h => by omega) (fun h => W.some rfl)
  · exact W.some rfl

/-! ## Direct products -/
def dirG (q r : Sq) (x y : Nat) : Int := r.order * q.t (x / r.order.toNat) (y / r.order.toNat) + r.t (x % r.order.toNat) (y % r.order.toNat)
def dirS (q r : Sq) : Sq := ⟨q.order * r.order, tabF (q.order * r.order) (dirG q r)⟩
theorem div_lt {n m : Int} {x : Nat} (hn : 0 ≤ n) (hm : 1 ≤ m) (h : (x : Int) < n * m) : ((x / m.toNat : Nat) : Int) < n := by
  have e : ((n.toNat * m.toNat : Nat) : Int) = n * m := by rw [Int.natCast_mul]; congr 1 <;> omega
  have : x < n.toNat * m.toNat := by omega
  have := Nat.div_lt_of_lt_mul (m := x) (n := m.toNat) (k := n.toNat) (by rw [Nat.mul_comm]; exact this)
  omega
theorem mod_lt {m : Int} (x : Nat) (hm : 1 ≤ m) : ((x % m.toNat : Nat) : Int) < m := by
  have := Nat.mod_lt x (show 0 < m.toNat by omega)
  omega
theorem dm_inj {m a b a' b' : Int} (h0 : 0 ≤ b) (h : b < m) (h0' : 0 ≤ b') (h' : b' < m) (e : m * a + b = m * a' + b') : a = a' ∧ b = b' := by
  have e1 : (m * a + b) / m = a := by rw [Int.add_comm, Int.add_mul_ediv_left _ _ (by omega), Int.ediv_eq_zero_of_lt h0 h]; omega
  have e2 : (m * a' + b') / m = a' := by rw [Int.add_comm, Int.add_mul_ediv_left _ _ (by omega), Int.ediv_eq_zero_of_lt h0' h']; omega
  have ea : a = a' := by rw [← e1, ← e2, e]
  subst ea
  exact ⟨rfl, by omega⟩
theorem dm_nat {m x y : Nat} (h1 : x / m = y / m) (h2 : x % m = y % m) : x = y := by
  rw [← Nat.div_add_mod x m, ← Nat.div_add_mod y m, h1, h2]
theorem mul_le10 {n m : Int} (h1 : 1 ≤ n) (h1' : 1 ≤ m) (h : n * m ≤ 10) : n ≤ 10 ∧ m ≤ 10 ∧ 1 ≤ n * m := by
  have a : n * 1 ≤ n * m := Int.mul_le_mul_of_nonneg_left h1' (by omega)
  have b : 1 * m ≤ n * m := Int.mul_le_mul_of_nonneg_right h1 (by omega)
  omega
theorem dirG_lt {q r : Sq} (hq : Latin q) (hr : Latin r) {x y : Nat} (hx : (x : Int) < q.order * r.order) (hy : (y : Int) < q.order * r.order) : 0 ≤ dirG q r x y ∧ dirG q r x y < q.order * r.order := by
  have := hq.n1; have := hr.n1
  have a := hq.lt (div_lt (by omega) hr.n1 hx) (div_lt (by omega) hr.n1 hy)
  have b := hr.lt (mod_lt x hr.n1) (mod_lt y hr.n1)
  unfold dirG
  have c : r.order * q.t (x / r.order.toNat) (y / r.order.toNat) ≤ r.order * (q.order - 1) := Int.mul_le_mul_of_nonneg_left (by omega) (by omega)
  have d : 0 ≤ r.order * q.t (x / r.order.toNat) (y / r.order.toNat) := Int.mul_nonneg (by omega) (by omega)
  have e : r.order * (q.order - 1) = q.order * r.order - r.order := by rw [Int.mul_sub, Int.mul_one, Int.mul_comm]
  omega
theorem dirS_latin {q r : Sq} (hq : Latin q) (hr : Latin r) (h10 : q.order * r.order ≤ 10) : Latin (dirS q r) := by
  have q1 := hq.n1; have r1 := hr.n1
  refine latin_tabF (mul_le10 q1 r1 h10).2.2 h10 (fun x y hx hy => dirG_lt hq hr hx hy) (fun x y z hx hy hz e => ?_) (fun x y z hx hy hz e => ?_)
  · unfold dirG at e
    have dx := div_lt (by omega) r1 hx; have dy := div_lt (by omega) r1 hy; have dz := div_lt (by omega) r1 hz
    have b := hr.lt (mod_lt x r1) (mod_lt y r1); have c := hr.lt (mod_lt x r1) (mod_lt z r1)
    obtain ⟨f, g⟩ := dm_inj b.1 b.2 c.1 c.2 e
    exact dm_nat ((hq.row _ dx).inj _ _ dy dz f) ((hr.row _ (mod_lt x r1)).inj _ _ (mod_lt y r1) (mod_lt z r1) g)
  · unfold dirG at e
    have dx := div_lt (by omega) r1 hx; have dy := div_lt (by omega) r1 hy; have dz := div_lt (by omega) r1 hz
    have b := hr.lt (mod_lt y r1) (mod_lt x r1); have c := hr.lt (mod_lt z r1) (mod_lt x r1)
    obtain ⟨f, g⟩ := dm_inj b.1 b.2 c.1 c.2 e
    exact dm_nat ((hq.col _ dx).inj _ _ dy dz f) ((hr.col _ (mod_lt x r1)).inj _ _ (mod_lt y r1) (mod_lt z r1) g)
theorem tdiv_nat {x m : Int} (hx : 0 ≤ x) (hm : 1 ≤ m) : x.tdiv m = ((x.toNat / m.toNat : Nat) : Int) := by
  rw [Int.tdiv_eq_ediv_of_nonneg hx, Int.natCast_ediv]; congr 1 <;> omega
theorem tmod_nat {x m : Int} (hx : 0 ≤ x) (hm : 1 ≤ m) : x.tmod m = ((x.toNat % m.toNat : Nat) : Int) := by
  rw [Int.tmod_eq_emod_of_nonneg hx, Int.natCast_emod]; congr 1 <;> omega

/-- the entry that is stored -/
theorem dir_entry {q r : Sq} (hq : Latin q) (hr : Latin r) (h10 : q.order * r.order ≤ 10) {x y : Nat} (hx : (x : Int) < q.order * r.order) (hy : (y : Int) < q.order * r.order) :
    IntKind.u8.wrap (IntKind.u8.wrap (r.order * q.t (x / r.order.toNat) (y / r.order.toNat)) + r.t (x % r.order.toNat) (y % r.order.toNat)) = dirG q r x y := by
  have := dirG_lt hq hr hx hy
  have b := hr.lt (mod_lt x hr.n1) (mod_lt y hr.n1)
  have a := hq.lt (div_lt (by have := hq.n1; omega) hr.n1 hx) (div_lt (by have := hq.n1; omega) hr.n1 hy)
  have d : 0 ≤ r.order * q.t (x / r.order.toNat) (y / r.order.toNat) := Int.mul_nonneg (by have := hr.n1; omega) (by omega)
  unfold dirG at *
  rw [w8 (n := r.order * _) (by omega), w8 (by omega)]

theorem l01Direct_W {q r : Sq} (hq : Latin q) (hr : Latin r) (h10 : q.order * r.order ≤ 10) : W (m_spec_l01Direct q r) fun s => s = dirS q r := by
  have q1 := hq.n1; have r1 := hr.n1
  obtain ⟨q10, r10, m1⟩ := mul_le10 q1 r1 h10
  unfold m_spec_l01Direct
  rw [w64 (by omega)]
  refine W.fill (n := q.order * r.order) (g := dirG q r) (by omega) h10 (step1 := fun x => m_spec_l01Direct_l1 q r x) (fun x y t hx hx' hy hy' => ?_) (fun x y t hx hx' hy => ?_) (fun x t hx hx' Q' h => ?_) (fun x t hx hx' => ?_) (fun x => ?_)
  · unfold m_spec_l01Direct_l1
    dsimp only
    have dx := div_lt (x := x.toNat) (n := q.order) (m := r.order) (by omega) r1 (by omega)
    have dy := div_lt (x := y.toNat) (n := q.order) (m := r.order) (by omega) r1 (by omega)
    have mx := mod_lt (m := r.order) x.toNat r1
    have my := mod_lt (m := r.order) y.toNat r1
    have nn : ∀ a : Nat, 0 ≤ (a : Int) := fun a => Int.natCast_nonneg a
    have n1 := nn (x.toNat / r.order.toNat); have n2 := nn (y.toNat / r.order.toNat); have n3 := nn (x.toNat % r.order.toNat); have n4 := nn (y.toNat % r.order.toNat)
    rw [tdiv_nat hx r1, tdiv_nat hy r1, tmod_nat hx r1, tmod_nat hy r1]
    rw [w64 (n := ((x.toNat / r.order.toNat : Nat) : Int)) (by omega), w64 (n := ((y.toNat / r.order.toNat : Nat) : Int)) (by omega)]
    refine W.condP (fun h => W.chk (by omega) (W.chk (by omega) (W.chk (by omega) (W.chk (by omega) (W.chk (by omega) (W.chk (by omega) (W.chk (by omega) (W.chk (by omega) (W.chk (by omega) (W.chk (by omega) (W.some ?_))))))))))) (fun h => by omega)
    simp only [Int.toNat_natCast]
    rw [w64 (by omega), w8 (n := r.order) (by omega), dir_entry hq hr h10 (by omega) (by omega)]
  · unfold m_spec_l01Direct_l1
    exact W.condP (fun h => by simp only at h; omega) (fun h => W.some rfl)
  · unfold m_spec_l01Direct_l0
    exact W.condP (fun _ => h _ fun _ _ => rfl) (fun h => by simp only at h; omega)
  · unfold m_spec_l01Direct_l0
    exact W.condP (fun h => by simp only at h; omega) (fun h => W.some rfl)
  · exact W.some rfl

/-! ## The opposite -/
theorem l01Opposite_W {q : Sq} (h : Latin q) : W (m_spec_l01Opposite q) fun r => Latin r ∧ r.order = q.order ∧ ∀ x y : Nat, r.t x y = if x < 10 ∧ y < 10 then q.t y x else 0 := by
  have n10 := h.n10
  unfold m_spec_l01Opposite
  refine W.call (l01Turned_W _) fun r hr => W.some ⟨⟨h.n1, h.n10, fun x hx => ?_, fun y hy => ?_, fun x y hx hy hz => ?_⟩, rfl, hr⟩ <;> simp only at *
  · exact (h.col x hx).ext fun i hi => by rw [hr, if_pos (by omega)]
  · exact (h.row y hy).ext fun i hi => by rw [hr, if_pos (by omega)]
  · rw [hr, if_pos (by omega)]; exact h.zero y x hy hx (by omega)
end Go.Pu

/- Plain laws: exchanges along a cycle, and the draws of squares. -/
namespace Go.Pu
open Go Go.Abs Go.Lab

/-- Two rows of a square, of which the columns V are exchanged. -/
structure Sw (q0 : Sq) (a b : Nat) (V : Nat → Prop) (t : Nat → Nat → Int) : Prop where
  ina : ∀ c : Nat, V c → t a c = q0.t b c
  inb : ∀ c : Nat, V c → t b c = q0.t a c
  out : ∀ r c : Nat, ¬ V c ∨ (r ≠ a ∧ r ≠ b) → t r c = q0.t r c

theorem Sw.latin {q0 : Sq} (h : Latin q0) {a b : Nat} (ha : (a : Int) < q0.order) (hb : (b : Int) < q0.order) (hab : a ≠ b) {V : Nat → Prop} [∀ c, Decidable (V c)] {t : Nat → Nat → Int} (s : Sw q0 a b V t)
    (hV : ∀ c, V c → (c : Int) < q0.order) (c1 : ∀ v, V v → ∃ u, V u ∧ q0.t a u = q0.t b v) (c2 : ∀ u, V u → ∃ v, V v ∧ q0.t b v = q0.t a u) : Latin ⟨q0.order, t⟩ := by
  have ra := h.row a ha; have rb := h.row b hb
  have ea : ∀ c, t a c = if V c then q0.t b c else q0.t a c := fun c => by
    split
    · exact s.ina c ‹_›
    · exact s.out a c (.inl ‹_›)
  have eb : ∀ c, t b c = if V c then q0.t a c else q0.t b c := fun c => by
    split
    · exact s.inb c ‹_›
    · exact s.out b c (.inl ‹_›)
  refine ⟨h.n1, h.n10, fun x hx => ?_, fun y hy => ?_, fun x y hx hy hz => ?_⟩ <;> simp only at *
  · by_cases hxa : x = a
    · subst hxa
      refine ⟨fun i hi => ?_, fun i j hi hj e => ?_⟩
      · rw [ea]; split
        · exact rb.lo i hi
        · exact ra.lo i hi
      · rw [ea, ea] at e
        split at e <;> split at e
        · exact rb.inj i j hi hj e
        · rename_i vi vj
          obtain ⟨u, hu, eu⟩ := c1 i vi
          exact absurd (ra.inj u j (hV u hu) hj (eu.trans e) ▸ hu) vj
        · rename_i vi vj
          obtain ⟨u, hu, eu⟩ := c1 j vj
          exact absurd (ra.inj u i (hV u hu) hi (eu.trans e.symm) ▸ hu) vi
        · exact ra.inj i j hi hj e
    · by_cases hxb : x = b
      · subst hxb
        refine ⟨fun i hi => ?_, fun i j hi hj e => ?_⟩
        · rw [eb]; split
          · exact ra.lo i hi
          · exact rb.lo i hi
        · rw [eb, eb] at e
          split at e <;> split at e
          · exact ra.inj i j hi hj e
          · rename_i vi vj
            obtain ⟨u, hu, eu⟩ := c2 i vi
            exact absurd (rb.inj u j (hV u hu) hj (eu.trans e) ▸ hu) vj
          · rename_i vi vj
            obtain ⟨u, hu, eu⟩ := c2 j vj
            exact absurd (rb.inj u i (hV u hu) hi (eu.trans e.symm) ▸ hu) vi
          · exact rb.inj i j hi hj e
      · exact (h.row x hx).ext fun i _ => s.out x i (.inr ⟨hxa, hxb⟩)
  · by_cases hv : V y
    · have := (h.col y hy).swap ha hb
      refine this.ext fun i hi => ?_
      simp only [fset_eq]
      by_cases e1 : i = b
      · rw [if_pos e1, e1, eb, if_pos hv]
      · rw [if_neg e1]
        by_cases e2 : i = a
        · rw [if_pos e2, e2, ea, if_pos hv]
        · rw [if_neg e2]; exact s.out i y (.inr ⟨e2, e1⟩)
    · exact (h.col y hy).ext fun i _ => s.out i y (.inl hv)
  · have hva : V y → (y : Int) < q0.order := hV y
    by_cases hv : V y
    · rw [s.out x y (.inr ⟨by have := hva hv; omega, by have := hva hv; omega⟩)]
      exact h.zero x y hx hy hz
    · rw [s.out x y (.inl hv)]
      exact h.zero x y hx hy hz

theorem Sw.step {q0 : Sq} {a b : Nat} (hab : a ≠ b) {V : List Nat} {t : Nat → Nat → Int} (s : Sw q0 a b (· ∈ V) t) {y : Nat} (hy : y ∉ V) : Sw q0 a b (· ∈ y :: V) (tset (tset t a y (t b y)) b y (t a y)) := by
  refine ⟨fun c hc => ?_, fun c hc => ?_, fun r c hrc => ?_⟩
  · unfold tset
    rw [if_neg (fun e => hab e.1)]
    split
    · rename_i e; rw [e.2]; exact s.out b y (.inl hy)
    · rename_i e
      rcases List.mem_cons.1 hc with e' | hc
      · exact absurd ⟨rfl, e'⟩ e
      · exact s.ina c hc
  · unfold tset
    split
    · rename_i e; rw [e.2]; exact s.out a y (.inl hy)
    · rename_i e
      rw [if_neg (fun e => hab e.1.symm)]
      rcases List.mem_cons.1 hc with e' | hc
      · exact absurd ⟨rfl, e'⟩ e
      · exact s.inb c hc
  · unfold tset
    have hy' : ∀ r', (r' = a ∨ r' = b) → ¬ (r = r' ∧ c = y) := fun r' hr' ⟨e1, e2⟩ => by
      rcases hrc with h | h
      · exact h (by rw [e2]; exact List.mem_cons_self)
      · rcases hr' with hr' | hr'
        · exact h.1 (e1.trans hr')
        · exact h.2 (e1.trans hr')
    rw [if_neg (hy' b (.inr rfl)), if_neg (hy' a (.inl rfl))]
    refine s.out r c ?_
    rcases hrc with h | h
    · exact .inl fun hc => h (List.mem_cons_of_mem _ hc)
    · exact .inr h

theorem l01Switch_W {q : Sq} (h : Latin q) {a b y0 : Int} (ha0 : 0 ≤ a) (ha : a < q.order) (hb0 : 0 ≤ b) (hb : b < q.order) (hy0 : 0 ≤ y0) (hy : y0 < q.order) :
    W (m_spec_l01Switch q a b y0) fun r => Latin r ∧ r.order = q.order := by
  have n1 := h.n1; have n10 := h.n10
  unfold m_spec_l01Switch
  refine W.condEq (fun e => W.some ⟨h, rfl⟩) (fun hab => ?_)
  have hab' : a.toNat ≠ b.toNat := by omega
  have ra := h.row a.toNat (by omega)
  have rb := h.row b.toNat (by omega)
  refine W.bind (W.mono (Q' := fun o => match o with | .ret r => Latin r ∧ r.order = q.order | _ => False) ?_ ?_)
  rotate_left
  · intro o ho
    match o, ho with
    | .ret r, ho => exact W.some ho
  let I : List Nat → Int × Sq × Sq → Prop := fun V s => 0 ≤ s.1 ∧ s.1 < q.order ∧ s.2.1.order = q.order ∧ Sw q a.toNat b.toNat (· ∈ V) s.2.1.t ∧ s.1.toNat ∉ V ∧ V.Nodup ∧ (∀ v, v ∈ V → (v : Int) < q.order)
      ∧ (∀ v, v ∈ V → ∃ u, (u ∈ V ∨ u = s.1.toNat) ∧ q.t a.toNat u = q.t b.toNat v) ∧ (∀ u, u ∈ V ∨ u = s.1.toNat → u = y0.toNat ∨ ∃ v, v ∈ V ∧ q.t b.toNat v = q.t a.toNat u)
  have main : ∀ (m : Nat) (V : List Nat) (s : Int × Sq × Sq), q.order.toNat - V.length = m → I V s → W (loopV (m_spec_l01Switch_l0 a b) s) fun o => match o with | .ret r => Latin r ∧ r.order = q.order | _ => False := by
    intro m
    induction m using Nat.strongRecOn with
    | _ m ih =>
      rintro V ⟨y, ⟨o, t⟩, z⟩ hm ⟨h1, h2, h3, h4, h5, h6, h7, h8, h9⟩
      simp only at h1 h2 h3 h4 h5 h8 h9
      subst h3
      have hlen : V.length + 1 ≤ q.order.toNat := by
        have hnd : (y.toNat :: V).Nodup := List.nodup_cons.2 ⟨h5, h6⟩
        have hsub : (y.toNat :: V) ⊆ List.range q.order.toNat := by
          intro x hx
          rw [List.mem_range]
          rcases List.mem_cons.1 hx with e | hx
          · omega
          · have := h7 x hx; omega
        have := hnd.length_le_of_subset hsub
        simpa using this
      have s' := Sw.step hab' h4 h5
      have tin : ∀ c : Nat, c ∈ y.toNat :: V → (tset (tset t a.toNat y.toNat (t b.toNat y.toNat)) b.toNat y.toNat (t a.toNat y.toNat)) a.toNat c = q.t b.toNat c := s'.ina
      have tout : ∀ c : Nat, c ∉ y.toNat :: V → (tset (tset t a.toNat y.toNat (t b.toNat y.toNat)) b.toNat y.toNat (t a.toNat y.toNat)) a.toNat c = q.t a.toNat c := fun c hc => s'.out _ c (.inl hc)
      rw [loopV_eq]
      unfold m_spec_l01Switch_l0
      dsimp only
      generalize et : tset (tset t a.toNat y.toNat (t b.toNat y.toNat)) b.toNat y.toNat (t a.toNat y.toNat) = t' at s' tin tout ⊢
      refine W.bind ?_
      refine W.chk (by omega) (W.chk (by omega) (W.chk (by omega) (W.chk (by omega) (W.chk (by omega) (W.chk (by omega) (W.chk (by omega) (W.chk (by omega) ?_)))))))
      refine W.upto (fun s => s.1) q.order (fun s => 0 ≤ s.1 ∧ s.1 < q.order ∧ ∀ c : Nat, (c : Int) < s.1 → c = y.toNat ∨ t' a.toNat c ≠ t' a.toNat y.toNat) ⟨by simp, by simp only; omega, fun c hc => by simp only at hc; omega⟩ ?_
      rintro ⟨x4, x5⟩ ⟨g1, g2, g3⟩
      simp only at g1 g2 g3
      unfold m_spec_l01Switch_l1
      dsimp only
      rw [et]
      -- none is left: the cycle is closed
      have closed : (∀ c : Nat, (c : Int) < x4 + 1 → c = y.toNat ∨ t' a.toNat c ≠ t' a.toNat y.toNat) → x4 + 1 = q.order → Latin ⟨q.order, t'⟩ := by
        intro hall hx4
        have hy' : t' a.toNat y.toNat = q.t b.toNat y.toNat := tin _ List.mem_cons_self
        have e1 : ∃ u, u ∈ y.toNat :: V ∧ q.t a.toNat u = q.t b.toNat y.toNat := by
          have := rb.lo y.toNat (by omega)
          obtain ⟨u, hu, eu⟩ := ra.onto (v := (q.t b.toNat y.toNat).toNat) (by omega)
          refine ⟨u, ?_, by omega⟩
          by_cases hm : u ∈ y.toNat :: V
          · exact hm
          · exfalso
            have e := tout u hm
            rcases hall u (by omega) with e' | e'
            · exact hm (by rw [e']; exact List.mem_cons_self)
            · exact e' (by rw [e, hy']; omega)
        refine Sw.latin h (by omega) (by omega) hab' s' (fun c hc => ?_) (fun v hv => ?_) (fun u hu => ?_)
        · rcases List.mem_cons.1 hc with e | hc
          · omega
          · exact h7 c hc
        · rcases List.mem_cons.1 hv with e | hv
          · subst e; exact e1
          · obtain ⟨u, hu, eu⟩ := h8 v hv
            refine ⟨u, ?_, eu⟩
            rcases hu with hu | hu
            · exact List.mem_cons_of_mem _ hu
            · rw [hu]; exact List.mem_cons_self
        · have hu' : u ∈ V ∨ u = y.toNat := by
            rcases List.mem_cons.1 hu with e | hu
            · exact .inr e
            · exact .inl hu
          rcases h9 u hu' with e | ⟨v, hv, ev⟩
          · obtain ⟨u0, hu0, eu0⟩ := e1
            have hu0' : u0 ∈ V ∨ u0 = y.toNat := by
              rcases List.mem_cons.1 hu0 with e | hu
              · exact .inr e
              · exact .inl hu
            rcases h9 u0 hu0' with e' | ⟨v, hv, ev⟩
            · exact ⟨y.toNat, List.mem_cons_self, by rw [e, ← e', eu0]⟩
            · have := rb.inj v y.toNat (h7 v hv) (by omega) (by rw [ev, eu0])
              exact absurd (this ▸ hv) h5
          · exact ⟨v, List.mem_cons_of_mem _ hv, ev⟩
      have stepup : (x4.toNat = y.toNat ∨ t' a.toNat x4.toNat ≠ t' a.toNat y.toNat) → ∀ c : Nat, (c : Int) < x4 + 1 → c = y.toNat ∨ t' a.toNat c ≠ t' a.toNat y.toNat := fun hx c hc => by
        by_cases e : (c : Int) = x4
        · have : c = x4.toNat := by omega
          subst this; exact hx
        · exact g3 c (by omega)
      refine W.condEq (fun e => ?_) (fun e => ?_)
      · rw [w8 (by omega), w64 (by omega)]
        have up := stepup (.inl (by omega))
        refine W.condEq (fun e' => W.some (W.some (W.some ⟨closed up e', rfl⟩))) (fun e' => W.some ?_)
        exact ⟨⟨by omega, by omega, up⟩, by omega, by omega⟩
      · refine W.chk (by omega) (W.chk (by omega) (W.chk (by omega) (W.chk (by omega) ?_)))
        refine W.condNe (fun ht => ?_) (fun ht => ?_)
        · rw [w8 (by omega), w64 (by omega)]
          have up := stepup (.inr ht)
          refine W.condEq (fun e' => W.some (W.some (W.some ⟨closed up e', rfl⟩))) (fun e' => W.some ?_)
          exact ⟨⟨by omega, by omega, up⟩, by omega, by omega⟩
        · refine W.some ?_
          simp only [if_true]
          refine W.some ?_
          simp only
          have hy' : t' a.toNat y.toNat = q.t b.toNat y.toNat := tin _ List.mem_cons_self
          have hnot : x4.toNat ∉ y.toNat :: V := fun hm => by
            have e2 := tin _ hm
            have := rb.inj x4.toNat y.toNat (by omega) (by omega) (by rw [← e2, ht, hy'])
            omega
          have ex : q.t a.toNat x4.toNat = q.t b.toNat y.toNat := by rw [← tout _ hnot, ht, hy']
          refine ih (q.order.toNat - (y.toNat :: V).length) (by simp only [List.length_cons]; omega) (y.toNat :: V) _ rfl ⟨g1, g2, rfl, s', hnot, List.nodup_cons.2 ⟨h5, h6⟩, fun v hv => ?_, fun v hv => ?_, fun u hu => ?_⟩
          · rcases List.mem_cons.1 hv with e | hv
            · omega
            · exact h7 v hv
          · rcases List.mem_cons.1 hv with e | hv
            · exact ⟨x4.toNat, .inr rfl, by rw [e]; exact ex⟩
            · obtain ⟨u, hu, eu⟩ := h8 v hv
              refine ⟨u, .inl ?_, eu⟩
              rcases hu with hu | hu
              · exact List.mem_cons_of_mem _ hu
              · rw [hu]; exact List.mem_cons_self
          · rcases hu with hu | hu
            · have hu' : u ∈ V ∨ u = y.toNat := by
                rcases List.mem_cons.1 hu with e | hu
                · exact .inr e
                · exact .inl hu
              rcases h9 u hu' with e | ⟨v, hv, ev⟩
              · exact .inl e
              · exact .inr ⟨v, List.mem_cons_of_mem _ hv, ev⟩
            · exact .inr ⟨y.toNat, List.mem_cons_self, by rw [hu]; exact ex.symm⟩
  refine main _ [] _ rfl ⟨hy0, hy, rfl, ⟨fun c hc => by simp at hc, fun c hc => by simp at hc, fun _ _ _ => rfl⟩, by simp, by simp, by simp, by simp, fun u hu => ?_⟩
  rcases hu with hu | hu
  · simp at hu
  · exact .inl hu
end Go.Pu

/- Plain laws: the draws of squares. -/
namespace Go.Pu
open Go Go.Abs Go.Lab

section
variable {l : List Int} (hl : Code l)
include hl

theorem l01Known_W {s : Rng} (hs : SrcOk l s) : W (m_spec_l01Known s l) fun r => Latin r.1 ∧ SrcOk l r.2 := by
  unfold m_spec_l01Known
  have cyc : ∀ {s : Rng}, SrcOk l s → W ((m_spec_l01Next s l 5).bind fun r5 => ((m_spec_l01Next r5.2 l 8).bind fun r6 => ((m_spec_l01Next r6.2 l 10).bind fun r7 => ((m_spec_l01Pick r7.2 l ([r5.1, r6.1, r7.1])).bind fun r8 => ((m_spec_l01Cyclic (IntKind.i64.wrap (1 + r8.1))).bind fun r9 => some (r9, r8.2)))))) fun r => Latin r.1 ∧ SrcOk l r.2 := by
    intro s hs
    refine W.call (l01Next_W hl hs _ (by omega)) fun r5 h5 => ?_
    refine W.call (l01Next_W hl h5.1 _ (by omega)) fun r6 h6 => ?_
    refine W.call (l01Next_W hl h6.1 _ (by omega)) fun r7 h7 => ?_
    refine W.call (l01Pick_W hl h7.1 _ (by simp) (by simp)) fun r8 h8 => ?_
    have a := h5.2.1 (by omega); have b := h6.2.1 (by omega); have c := h7.2.1 (by omega)
    have d := h8.2
    simp only [List.mem_cons, List.not_mem_nil, or_false] at d
    rw [w64 (by omega)]
    refine W.call (l01Cyclic_W (by omega) (by omega)) fun r9 h9 => W.some ⟨?_, h8.1⟩
    rw [h9]; exact cycS_latin (by omega) (by omega)
  refine W.call (l01Next_W hl hs _ (by omega)) fun r1 h1 => ?_
  have a1 := h1.2.1 (by omega)
  refine W.cond (fun _ => ?_) (fun _ => W.cond (fun _ => ?_) (fun _ => W.cond (fun _ => ?_) (fun _ => cyc h1.1)))
  · refine W.call (l01Next_W hl h1.1 _ (by omega)) fun r2 h2 => ?_
    have a2 := h2.2.1 (by omega)
    refine W.chk (by omega) ?_
    refine W.call (l01Read_W ?_) fun r3 h3 => ?_
    · have : r2.1.toNat = 0 ∨ r2.1.toNat = 1 ∨ r2.1.toNat = 2 ∨ r2.1.toNat = 3 := by omega
      rcases this with e | e | e | e <;> rw [e] <;> decide
    refine W.cond (fun e => ?_) (fun e => cyc h2.1)
    exact W.call (l01Ordered_W (h3.2 e)) fun r4 h4 => W.some ⟨h4.1.toLatin, h2.1⟩
  · refine W.call (l01Next_W hl h1.1 _ (by omega)) fun r2 h2 => ?_
    have a2 := h2.2.1 (by omega)
    refine W.call (l01Elementary_W (by omega) (by omega)) fun r3 h3 => W.some ⟨?_, h2.1⟩
    rw [h3]; exact eleS_latin (by omega)
  · refine W.call (l01Next_W hl h1.1 _ (by omega)) fun r2 h2 => ?_
    have a2 := h2.2.1 (by omega)
    rw [w64 (by omega)]
    refine W.call (l01Cyclic_W (by omega) (by omega)) fun r3 h3 => ?_
    refine W.call (l01Next_W hl h2.1 _ (by omega)) fun r4 h4 => ?_
    have a4 := h4.2.1 (by omega)
    rw [w64 (by omega)]
    refine W.call (l01Cyclic_W (by omega) (by omega)) fun r5 h5 => ?_
    subst h3; subst h5
    have c1 := cycS_latin (n := 1 + r2.1) (by omega) (by omega)
    have c2 := cycS_latin (n := 1 + r4.1) (by omega) (by omega)
    have hm : (1 + r2.1) * (1 + r4.1) ≤ 10 := by
      have : (1 + r2.1) * (1 + r4.1) ≤ 3 * 3 := Int.mul_le_mul (by omega) (by omega) (by omega) (by omega)
      omega
    refine W.call (l01Direct_W c1 c2 hm) fun r6 h6 => W.some ⟨?_, h4.1⟩
    rw [h6]; exact dirS_latin c1 c2 hm

theorem l01Draw_W {s : Rng} (hs : SrcOk l s) : W (m_spec_l01Draw s l) fun r => Loop r.1 ∧ SrcOk l r.2 := by
  unfold m_spec_l01Draw
  refine W.call (l01Known_W hl hs) fun r1 h1 => ?_
  refine W.call (l01Pick_W hl h1.2 _ (by simp) (by simp)) fun r2 h2 => ?_
  have n1 := h1.1.n1; have n10 := h1.1.n10
  have d := h2.2
  simp only [List.mem_cons, List.not_mem_nil, or_false] at d
  refine W.loop (fun s => s.1 ≤ 4 ∧ Latin s.2.1 ∧ s.2.1.order = r1.1.order ∧ SrcOk l s.2.2) (fun s => s.1.toNat) ⟨by simp only; omega, h1.1, rfl, h2.1⟩ ?_
  rintro ⟨x1, x2, x3⟩ ⟨g1, g2, g3, g4⟩
  simp only at g1 g2 g3 g4
  unfold m_spec_l01Draw_l0
  refine W.condP (fun h => ?_) (fun h => ?_)
  · refine W.call (l01Next_W hl g4 _ (by omega)) fun r3 h3 => ?_
    rw [← g3] at n1 n10 ⊢
    have sw : ∀ {q : Sq} {s : Rng}, Latin q → q.order = x2.order → SrcOk l s → W ((m_spec_l01Next s l x2.order).bind fun r5 => ((m_spec_l01Next r5.2 l x2.order).bind fun r6 => ((m_spec_l01Next r6.2 l x2.order).bind fun r7 => ((m_spec_l01Switch q (IntKind.u8.wrap r5.1) (IntKind.u8.wrap r6.1) (IntKind.u8.wrap r7.1)).bind fun r8 => some (Out.next (ρ := Sq × Rng) (IntKind.i64.wrap (x1 - 1), r8, r7.2))))))
        fun o => match o with | .next s' => (s'.1 ≤ 4 ∧ Latin s'.2.1 ∧ s'.2.1.order = x2.order ∧ SrcOk l s'.2.2) ∧ s'.1.toNat < x1.toNat | _ => False := by
      intro q s hq ho hs
      refine W.call (l01Next_W hl hs _ (by omega)) fun r5 h5 => ?_
      refine W.call (l01Next_W hl h5.1 _ (by omega)) fun r6 h6 => ?_
      refine W.call (l01Next_W hl h6.1 _ (by omega)) fun r7 h7 => ?_
      have a := h5.2.1 (by omega); have b := h6.2.1 (by omega); have c := h7.2.1 (by omega)
      rw [w8 (by omega), w8 (by omega), w8 (by omega)]
      refine W.call (l01Switch_W hq a.1 (by omega) b.1 (by omega) c.1 (by omega)) fun r8 h8 => W.some ?_
      simp only
      rw [w64 (by omega)]
      exact ⟨⟨by omega, h8.1, by rw [h8.2, ho], h7.1⟩, by omega⟩
    refine W.mono (Q' := fun o => match o with | .next s' => (s'.1 ≤ 4 ∧ Latin s'.2.1 ∧ s'.2.1.order = x2.order ∧ SrcOk l s'.2.2) ∧ s'.1.toNat < x1.toNat | _ => False) ?_ ?_
    · refine W.cond (fun _ => ?_) (fun _ => sw g2 rfl h3.1)
      exact W.call (l01Opposite_W g2) fun r4 h4 => sw h4.1 h4.2.1 h3.1
    · intro o ho
      match o, ho with
      | .next s', ho => exact ho
  · refine W.some ?_
    simp only [if_true]
    refine W.call (l01Next_W hl g4 _ (by omega)) fun r13 h13 => ?_
    rw [← g3] at n1 n10 ⊢
    have hlt : ∀ x y : Nat, (x : Int) < x2.order → (y : Int) < x2.order → 0 ≤ x2.t x y ∧ x2.t x y < 10 := fun x y hx hy => by have := g2.lt hx hy; omega
    refine W.cond (fun _ => ?_) (fun _ => W.call (l01Ordered_W g2) fun r h => W.some ⟨h.1, h13.1⟩)
    refine W.call (l01DrawPlaces_W hl h13.1 n10 (by omega)) fun r14 h14 => ?_
    refine W.call (l01DrawPlaces_W hl h14.2.2 n10 (by omega)) fun r15 h15 => ?_
    refine W.call (l01DrawPlaces_W hl h15.2.2 n10 (by omega)) fun r16 h16 => ?_
    refine W.call (l01Moved_W n1 n10 hlt h14.1 h15.1) fun r17 h17 => ?_
    exact W.call (l01Ordered_W (h17.latin g2 h14.1 h15.1 h16.1)) fun r h => W.some ⟨h.1, h16.2.2⟩

theorem l01DrawSquare_W {s : Rng} (hs : SrcOk l s) : W (m_spec_l01DrawSquare s l) fun r => Latin r.1 ∧ SrcOk l r.2 := by
  unfold m_spec_l01DrawSquare
  refine W.call (l01Draw_W hl hs) fun r1 h1 => ?_
  have g2 := h1.1.toLatin
  have n1 := g2.n1; have n10 := g2.n10
  have hlt : ∀ x y : Nat, (x : Int) < r1.1.order → (y : Int) < r1.1.order → 0 ≤ r1.1.t x y ∧ r1.1.t x y < 10 := fun x y hx hy => by have := g2.lt hx hy; omega
  refine W.call (l01Next_W hl h1.2 _ (by omega)) fun r2 h2 => ?_
  refine W.cond (fun _ => W.some ⟨g2, h2.1⟩) (fun _ => ?_)
  refine W.call (l01DrawPlaces_W hl h2.1 n10 (by omega)) fun r14 h14 => ?_
  refine W.call (l01DrawPlaces_W hl h14.2.2 n10 (by omega)) fun r15 h15 => ?_
  refine W.call (l01DrawPlaces_W hl h15.2.2 n10 (by omega)) fun r16 h16 => ?_
  exact W.call (l01Moved_W n1 n10 hlt h14.1 h15.1) fun r17 h17 => W.some ⟨h17.latin g2 h14.1 h15.1 h16.1, h16.2.2⟩

/-- A struct that the program can bear: entries are bytes. -/
structure SqOk (q : Sq) : Prop where
  o0 : -1 ≤ q.order
  o1 : q.order ≤ 11
  byt : Byt q.t

theorem l01Broken_W {s : Rng} (hs : SrcOk l s) {q : Sq} (hq : Latin q) : W (m_spec_l01Broken s l q) fun r => SqOk r.1 ∧ SrcOk l r.2 := by
  have n1 := hq.n1; have n10 := hq.n10
  unfold m_spec_l01Broken
  refine W.call (l01Next_W hl hs _ (by omega)) fun r1 h1 => ?_
  refine W.cond (fun _ => W.some ⟨⟨by simp only; omega, by simp only; omega, hq.byt.tset _ _ (w8_lt _)⟩, h1.1⟩) (fun _ => W.cond (fun _ => ?_) (fun _ => W.cond (fun _ => ?_) (fun _ => W.some ⟨⟨by simp only; omega, by simp only; omega, hq.byt⟩, h1.1⟩)))
  · rw [w64 (by omega), w64 (by omega)]
    refine W.call (l01Pick_W hl h1.1 _ (by simp) (by simp)) fun r2 h2 => W.some ⟨⟨?_, ?_, hq.byt⟩, h2.1⟩ <;>
    · have d := h2.2
      simp only [List.mem_cons, List.not_mem_nil, or_false] at d ⊢
      omega
  · exact W.call (l01Pick_W hl h1.1 _ (by simp) (by simp)) fun r3 h3 => W.some ⟨⟨by simp only; omega, by simp only; omega, hq.byt.tset _ _ (w8_lt _)⟩, h3.1⟩

theorem l01Spoil_W {s : Rng} (hs : SrcOk l s) : W (m_spec_l01Spoil s l) fun r => SqOk r.1 ∧ SrcOk l r.2 := by
  unfold m_spec_l01Spoil
  refine W.call (l01Next_W hl hs _ (by omega)) fun r1 h1 => W.cond (fun _ => ?_) (fun _ => ?_)
  · exact W.call (l01Draw_W hl h1.1) fun r2 h2 => W.call (l01Broken_W hl h2.2 h2.1.toLatin) fun r3 h3 => W.some h3
  · exact W.call (l01DrawSquare_W hl h1.1) fun r2 h2 => W.call (l01Broken_W hl h2.2 h2.1) fun r3 h3 => W.some h3

end
end Go.Pu

/- Plain laws: the program's functions on squares. -/
namespace Go.Pu
open Go Go.Abs Go.Lab

theorem elements_W {q : Sq} (h0 : 0 ≤ q.order) (h1 : q.order ≤ 200) : W (m_impl_Square_elements q) fun r => (r.length : Int) = q.order ∧ ∀ i : Nat, (i : Int) < q.order → r.getD i 0 = i := by
  unfold m_impl_Square_elements
  refine W.upto (fun s => s.2) q.order (fun s => 0 ≤ s.2 ∧ s.2 ≤ q.order ∧ (s.1.length : Int) = s.2 ∧ ∀ i : Nat, (i : Int) < s.2 → s.1.getD i 0 = i) ⟨by simp, by simp; omega, by simp, fun i hi => by simp only at hi; omega⟩ ?_
  rintro ⟨x1, x2⟩ ⟨h2, h3, h4, h5⟩
  simp only at h2 h3 h4 h5
  unfold m_impl_Square_elements_l0
  dsimp only
  rw [w8 (n := q.order) (by omega)]
  refine W.condP (fun h => W.chk (by omega) (W.some ?_)) (fun h => W.some (W.some ⟨by show (x1.length : Int) = _; omega, fun i hi => h5 i (by omega)⟩))
  simp only
  rw [w8 (by omega)]
  refine ⟨⟨by omega, by omega, by simp; omega, fun i hi => ?_⟩, by omega, by omega⟩
  rw [List.getD_eq_getElem?_getD, List.getElem?_append]
  split
  · rw [← List.getD_eq_getElem?_getD]; exact h5 i (by omega)
  · have e : i - x1.length = 0 := by omega
    rw [e]; simp; omega

/-! ## IsSquare -/
theorem IsSquare_W {q : Sq} (hb : Byt q.t) : W (m_impl_IsSquare q) fun r => r = true ↔ Latin q := by
  unfold m_impl_IsSquare
  refine W.call (within_W _ _ _) fun b hbn => W.condNot (fun h => W.some ?_) (fun h => ?_)
  · simp only [h, Bool.false_eq_true, false_iff] at hbn ⊢
    exact fun x => hbn ⟨x.n1, x.n10⟩
  obtain ⟨n1, n10⟩ := hbn.1 h
  have hrow : ∀ x : Nat, (x : Int) < q.order → ByP (q.t x) := fun x hx i hi => hb x i (by omega) hi
  have hcol : ∀ x : Nat, (x : Int) < q.order → ByP fun i => q.t i x := fun x hx i hi => hb i x hi (by omega)
  refine W.upto (fun s => s) 10 (fun s => 0 ≤ s ∧ s ≤ 10 ∧ (∀ x : Nat, (x : Int) < s → (x : Int) < q.order → PermP q.order (q.t x) ∧ PermP q.order fun i => q.t i x) ∧ ∀ x y : Nat, (x : Int) < s → y < 10 → q.order ≤ x ∨ q.order ≤ y → q.t x y = 0) ⟨by omega, by omega, fun x hx => by omega, fun x y hx => by omega⟩ ?_
  rintro x1 ⟨h1, h2, h3, h4⟩
  unfold m_impl_IsSquare_l0
  refine W.condP (fun hx1 => ?_) (fun hx1 => ?_)
  · refine W.upto (fun s => s.2.2) 10 (fun s => 0 ≤ s.2.2 ∧ s.2.2 ≤ 10 ∧ (∀ y : Nat, (y : Int) < s.2.2 → q.order ≤ x1 ∨ q.order ≤ y → q.t x1.toNat y = 0) ∧ (x1 < q.order → (∃ m : Nat, s.1 = m ∧ Met m fun v => ∃ i : Nat, (i : Int) < s.2.2 ∧ (i : Int) < q.order ∧ q.t x1.toNat i = v)
        ∧ (∃ m : Nat, s.2.1 = m ∧ Met m fun v => ∃ i : Nat, (i : Int) < s.2.2 ∧ (i : Int) < q.order ∧ q.t i x1.toNat = v) ∧ ∀ i : Nat, (i : Int) < s.2.2 → (i : Int) < q.order → q.t x1.toNat i < q.order ∧ q.t i x1.toNat < q.order))
      ⟨by simp, by simp, fun y hy => by simp only at hy; omega, fun _ => ⟨⟨0, rfl, Met.zero (by simp; omega)⟩, ⟨0, rfl, Met.zero (by simp; omega)⟩, fun i hi => by simp only at hi; omega⟩⟩ ?_
    rintro ⟨x2, x3, x4⟩ ⟨g1, g2, g3, g4⟩
    simp only at g1 g2 g3 g4
    unfold m_impl_IsSquare_l1
    dsimp only
    have bad : ∀ {P : Prop}, ¬ P → ((false = true) ↔ P) := fun hp => by simp only [Bool.false_eq_true, false_iff]; exact hp
    -- a round inside the square
    have inside : x4 < 10 → x1 < q.order → x4 < q.order → ∀ {k : Option (Out (Int × Int × Int) Bool)}, k = some (.next ((bits .or .i64 x2 (IntKind.i64.wrap (1 * 2 ^ (min (((q.t (x1).toNat (x4).toNat) : Int).toNat) IntKind.i64.bits)))), (bits .or .i64 x3 (IntKind.i64.wrap (1 * 2 ^ (min (((q.t (x4).toNat (x1).toNat) : Int).toNat) IntKind.i64.bits)))), (IntKind.i64.wrap (x4 + 1)))) →
        q.t x1.toNat x4.toNat < q.order → q.t x4.toNat x1.toNat < q.order →
        W k fun o => match o with | .next s' => (0 ≤ s'.2.2 ∧ s'.2.2 ≤ 10 ∧ (∀ y : Nat, (y : Int) < s'.2.2 → q.order ≤ x1 ∨ q.order ≤ y → q.t x1.toNat y = 0) ∧ (x1 < q.order → (∃ m : Nat, s'.1 = m ∧ Met m fun v => ∃ i : Nat, (i : Int) < s'.2.2 ∧ (i : Int) < q.order ∧ q.t x1.toNat i = v)
        ∧ (∃ m : Nat, s'.2.1 = m ∧ Met m fun v => ∃ i : Nat, (i : Int) < s'.2.2 ∧ (i : Int) < q.order ∧ q.t i x1.toNat = v) ∧ ∀ i : Nat, (i : Int) < s'.2.2 → (i : Int) < q.order → q.t x1.toNat i < q.order ∧ q.t i x1.toNat < q.order)) ∧ x4 < s'.2.2 ∧ x4 < 10 | _ => False := by
      intro ha hb1 hc k hk hlt1 hlt2
      subst hk
      refine W.some ?_
      obtain ⟨⟨m, em, hM⟩, ⟨m2, em2, hM2⟩, hi⟩ := g4 hb1
      have v1 := hb x1.toNat x4.toNat (by omega) (by omega)
      have v2 := hb x4.toNat x1.toNat (by omega) (by omega)
      obtain ⟨m', e', hM'⟩ := hM.add (v := q.t x1.toNat x4.toNat) (P' := fun v => ∃ i : Nat, (i : Int) < x4 + 1 ∧ (i : Int) < q.order ∧ q.t x1.toNat i = v) (by omega) (by omega) (fun u => by
        constructor
        · rintro ⟨i, a, b, c⟩
          by_cases e : (i : Int) = x4
          · subst e; right; simp only [Int.toNat_natCast] at c ⊢; omega
          · exact .inl ⟨i, by omega, b, c⟩
        · rintro (⟨i, a, b, c⟩ | e)
          · exact ⟨i, by omega, b, c⟩
          · exact ⟨x4.toNat, by omega, by omega, by omega⟩)
      obtain ⟨m2', e2', hM2'⟩ := hM2.add (v := q.t x4.toNat x1.toNat) (P' := fun v => ∃ i : Nat, (i : Int) < x4 + 1 ∧ (i : Int) < q.order ∧ q.t i x1.toNat = v) (by omega) (by omega) (fun u => by
        constructor
        · rintro ⟨i, a, b, c⟩
          by_cases e : (i : Int) = x4
          · subst e; right; simp only [Int.toNat_natCast] at c ⊢; omega
          · exact .inl ⟨i, by omega, b, c⟩
        · rintro (⟨i, a, b, c⟩ | e)
          · exact ⟨i, by omega, b, c⟩
          · exact ⟨x4.toNat, by omega, by omega, by omega⟩)
      subst em; subst em2
      simp only
      rw [e', e2', w64 (by omega)]
      refine ⟨⟨by omega, by omega, fun y hy ho => g3 y (by omega) (by omega), fun _ => ⟨⟨m', rfl, hM'⟩, ⟨m2', rfl, hM2'⟩, fun i hi' hn => ?_⟩⟩, by omega, ha⟩
      by_cases e : (i : Int) = x4
      · subst e; simp only [Int.toNat_natCast] at hlt1 hlt2; exact ⟨hlt1, hlt2⟩
      · exact hi i (by omega) hn
    have outside : x4 < 10 → (q.order ≤ x1 ∨ q.order ≤ x4) → q.t x1.toNat x4.toNat = 0 → ∀ {k : Option (Out (Int × Int × Int) Bool)}, k = some (.next (x2, x3, (IntKind.i64.wrap (x4 + 1)))) →
        W k fun o => match o with | .next s' => (0 ≤ s'.2.2 ∧ s'.2.2 ≤ 10 ∧ (∀ y : Nat, (y : Int) < s'.2.2 → q.order ≤ x1 ∨ q.order ≤ y → q.t x1.toNat y = 0) ∧ (x1 < q.order → (∃ m : Nat, s'.1 = m ∧ Met m fun v => ∃ i : Nat, (i : Int) < s'.2.2 ∧ (i : Int) < q.order ∧ q.t x1.toNat i = v)
        ∧ (∃ m : Nat, s'.2.1 = m ∧ Met m fun v => ∃ i : Nat, (i : Int) < s'.2.2 ∧ (i : Int) < q.order ∧ q.t i x1.toNat = v) ∧ ∀ i : Nat, (i : Int) < s'.2.2 → (i : Int) < q.order → q.t x1.toNat i < q.order ∧ q.t i x1.toNat < q.order)) ∧ x4 < s'.2.2 ∧ x4 < 10 | _ => False := by
      intro ha ho hz k hk
      subst hk
      refine W.some ?_
      simp only
      rw [w64 (by omega)]
      refine ⟨⟨by omega, by omega, fun y hy ho' => ?_, fun hb1 => ?_⟩, by omega, ha⟩
      · by_cases e : (y : Int) = x4
        · subst e; exact hz
        · exact g3 y (by omega) ho'
      · obtain ⟨⟨m, em, hM⟩, ⟨m2, em2, hM2⟩, hi⟩ := g4 hb1
        refine ⟨⟨m, em, hM.lt, fun v => (hM.bit v).trans ?_⟩, ⟨m2, em2, hM2.lt, fun v => (hM2.bit v).trans ?_⟩, fun i hi' hn => hi i (by omega) hn⟩
        · exact ⟨fun ⟨i, a, b, c⟩ => ⟨i, by omega, b, c⟩, fun ⟨i, a, b, c⟩ => ⟨i, by omega, b, c⟩⟩
        · exact ⟨fun ⟨i, a, b, c⟩ => ⟨i, by omega, b, c⟩, fun ⟨i, a, b, c⟩ => ⟨i, by omega, b, c⟩⟩
    have fit : ∀ {k : Option (Out (Int × Int × Int) Bool)} {Q : Out (Int × Int × Int) Bool → Prop} {P : (Int × Int × Int) → Prop}, W k (fun o => match o with | .next s' => P s' | _ => False) → (∀ s', P s' → Q (.next s')) → W k Q := fun hk hq => hk.mono fun o ho => by
      match o, ho with
      | .next s', ho => exact hq s' ho
    have v1 : x4 < 10 → 0 ≤ q.t x1.toNat x4.toNat ∧ q.t x1.toNat x4.toNat ≤ 255 := fun h => hb x1.toNat x4.toNat (by omega) (by omega)
    have v2 : x4 < 10 → 0 ≤ q.t x4.toNat x1.toNat ∧ q.t x4.toNat x1.toNat ≤ 255 := fun h => hb x4.toNat x1.toNat (by omega) (by omega)
    refine W.condP (fun hx4 => ?_) (fun hx4 => ?_)
    · have v1 := v1 hx4; have v2 := v2 hx4
      have e1 : IntKind.i64.wrap (q.t x1.toNat x4.toNat) = q.t x1.toNat x4.toNat := w64 (by omega)
      have e2 : IntKind.i64.wrap (q.t x4.toNat x1.toNat) = q.t x4.toNat x1.toNat := w64 (by omega)
      refine W.condP (fun ho => W.chk (by omega) (W.chk (by omega) (W.condNe (fun hz => W.some (W.some (W.some (bad fun hq => hz (hq.zero _ _ (by omega) (by omega) (by omega)))))) (fun hz => W.condP (fun hn => by omega) (fun _ => fit (outside hx4 (.inl ho) hz rfl) fun _ h => h)))))
        (fun hx => W.condP (fun ho => W.chk (by omega) (W.chk (by omega) (W.condNe (fun hz => W.some (W.some (W.some (bad fun hq => hz (hq.zero _ _ (by omega) (by omega) (by omega)))))) (fun hz => W.condP (fun _ => W.condP (fun hn => by omega) (fun _ => fit (outside hx4 (.inr ho) hz rfl) fun _ h => h)) (fun hn => by omega)))))
          (fun ho => W.condP (fun _ => W.condP (fun _ => ?_) (fun hn => by omega)) (fun hn => by omega)))
      rw [e1, e2]
      refine W.chk (by omega) (W.chk (by omega) (W.condP (fun hg => W.some (W.some (W.some (bad fun hq => ?_)))) (fun hg => W.chk (by omega) (W.chk (by omega) (W.condP (fun hg' => W.some (W.some (W.some (bad fun hq => ?_)))) (fun hg' => W.chk (by omega) (W.chk (by omega) (W.chk (by omega) (W.chk (by omega) (W.chk (by omega) (W.chk (by omega) (fit (inside hx4 (by omega) (by omega) rfl (by omega) (by omega)) fun _ h => h))))))))))))
      · have := hq.lt (x := x1.toNat) (y := x4.toNat) (by omega) (by omega); omega
      · have := hq.lt (x := x4.toNat) (y := x1.toNat) (by omega) (by omega); omega
    · refine W.some ?_
      simp only [if_true]
      have z : ∀ x y : Nat, (x : Int) < x1 + 1 → y < 10 → q.order ≤ x ∨ q.order ≤ y → q.t x y = 0 := fun x y hx hy ho => by
        by_cases e : (x : Int) = x1
        · subst e; exact g3 y (by omega) ho
        · exact h4 x y (by omega) hy ho
      refine W.condP (fun hn => ?_) (fun hn => ?_)
      · obtain ⟨⟨m, em, hM⟩, ⟨m2, em2, hM2⟩, hi⟩ := g4 hn
        subst em; subst em2
        have f1 := hM.full n1 n10 (fun v ⟨i, a, b, c⟩ => by have := (hi i a b).1; omega)
        have f2 := hM2.full n1 n10 (fun v ⟨i, a, b, c⟩ => by have := (hi i a b).2; omega)
        refine W.chk (by omega) (W.condNe (fun hne => W.some (W.some (bad fun hq => hne (f1.2 fun v hv => ?_)))) (fun he => W.chk (by omega) (W.condNe (fun hne => W.some (W.some (bad fun hq => hne (f2.2 fun v hv => ?_)))) (fun he2 => W.some ?_))))
        · obtain ⟨i, a, c⟩ := ((permP_iff (hrow x1.toNat (by omega)) n10).1 (hq.row _ (by omega))).2 v hv
          exact ⟨i, by omega, a, c⟩
        · obtain ⟨i, a, c⟩ := ((permP_iff (hcol x1.toNat (by omega)) n10).1 (hq.col _ (by omega))).2 v hv
          exact ⟨i, by omega, a, c⟩
        · simp only
          rw [w64 (by omega)]
          refine ⟨⟨by omega, by omega, fun x hx hn' => ?_, z⟩, by omega, by omega⟩
          by_cases e : (x : Int) = x1
          · subst e
            refine ⟨(permP_iff (hrow x hn') n10).2 ⟨fun i hi' => (hi i (by omega) hi').1, fun v hv => ?_⟩, (permP_iff (hcol x hn') n10).2 ⟨fun i hi' => (hi i (by omega) hi').2, fun v hv => ?_⟩⟩
            · obtain ⟨i, a, b, c⟩ := f1.1 he v hv; exact ⟨i, b, c⟩
            · obtain ⟨i, a, b, c⟩ := f2.1 he2 v hv; exact ⟨i, b, c⟩
          · exact h3 x (by omega) hn'
      · refine W.some ?_
        simp only
        rw [w64 (by omega)]
        exact ⟨⟨by omega, by omega, fun x hx hn' => h3 x (by omega) hn', z⟩, by omega, by omega⟩
  · refine W.some ?_
    simp only [if_true]
    refine W.some ?_
    simp only [true_iff]
    exact ⟨n1, n10, fun x hx => (h3 x (by omega) hx).1, fun y hy => (h3 y (by omega) hy).2, fun x y hx hy ho => h4 x y (by omega) hy ho⟩
end Go.Pu

/- Plain laws: groups, direct products of groups. -/
namespace Go.Pu
open Go Go.Abs Go.Lab

theorem isUnit_W {q : Sq} (h : Latin q) : W (m_impl_Square_isUnit q 0) fun r => r = true ↔ ∀ x : Nat, (x : Int) < q.order → q.t 0 x = x ∧ q.t x 0 = x := by
  have n1 := h.n1; have n10 := h.n10
  unfold m_impl_Square_isUnit
  refine W.call (elements_W (by omega) (by omega)) fun l hl => ?_
  refine W.upto (fun s => s) q.order (fun s => 0 ≤ s ∧ s ≤ q.order ∧ ∀ x : Nat, (x : Int) < s → q.t 0 x = x ∧ q.t x 0 = x) ⟨by omega, by omega, fun x hx => by omega⟩ ?_
  rintro x1 ⟨h1, h2, h3⟩
  unfold m_impl_Square_isUnit_l0
  have bad : ∀ {P : Prop}, ¬ P → ((false = true) ↔ P) := fun hp => by simp only [Bool.false_eq_true, false_iff]; exact hp
  refine W.condP (fun hx => ?_) (fun hx => ?_)
  · have e := hl.2 x1.toNat (by omega)
    rw [e]
    simp only [Int.toNat_natCast, show (0 : Int).toNat = 0 from rfl]
    refine W.chk (by omega) (W.chk (by omega) (W.chk (by omega) (W.condNe (fun hn => W.some (W.some (bad fun hq => hn ?_))) (fun he => W.chk (by omega) (W.chk (by omega) (W.condNe (fun hn => W.some (W.some (bad fun hq => hn ?_))) (fun he2 => W.some ?_)))))))
    · exact (hq _ (by omega)).1
    · exact (hq _ (by omega)).2
    · simp only
      rw [w64 (by omega)]
      refine ⟨⟨by omega, by omega, fun x hx => ?_⟩, by omega, by omega⟩
      by_cases e : (x : Int) = x1
      · have : x = x1.toNat := by omega
        subst this; exact ⟨he, he2⟩
      · exact h3 x (by omega)
  · refine W.some ?_
    simp only [if_true]
    refine W.some ?_
    simp only [true_iff]
    exact fun x hx => h3 x (by omega)

theorem IsLoop_W {q : Sq} (hb : Byt q.t) : W (m_impl_IsLoop q) fun r => r = true ↔ Loop q := by
  unfold m_impl_IsLoop
  refine W.call (IsSquare_W hb) fun b hbn => W.cond (fun h => ?_) (fun h => W.some ?_)
  · have L := hbn.1 h
    refine W.call (isUnit_W L) fun r hr => W.some ?_
    rw [hr]
    exact ⟨fun x => ⟨L, fun i hi => (x i hi).1, fun i hi => (x i hi).2⟩, fun x i hi => ⟨x.left i hi, x.right i hi⟩⟩
  · simp only [h, Bool.false_eq_true, false_iff] at hbn ⊢
    exact fun x => hbn x.toLatin

/-! ## Cyclic and elementary groups -/
/-! ## Direct products -/
def DirOf (q r : Sq) (s : Sq × Int) : Prop := (¬ (Latin q ∧ Latin r) ∧ s = (sq0, 1)) ∨ (Latin q ∧ Latin r ∧ q.order * r.order > 10 ∧ s = (sq0, 3)) ∨ (Latin q ∧ Latin r ∧ q.order * r.order ≤ 10 ∧ s = (dirS q r, 0))
theorem DirOf.eq {q r : Sq} {s s' : Sq × Int} (h : DirOf q r s) (h' : DirOf q r s') : s = s' := by
  rcases h with ⟨a, b⟩ | ⟨a, b, c, d⟩ | ⟨a, b, c, d⟩ <;> rcases h' with ⟨a', b'⟩ | ⟨a', b', c', d'⟩ | ⟨a', b', c', d'⟩ <;> first
    | (exfalso; omega)
    | (rw [b, b']; done)
    | (rw [d, d']; done)
    | exact absurd ⟨a', b'⟩ a
    | exact absurd ⟨a, b⟩ a'

end Go.Pu

/- Plain laws: sums modulo a prime, their products and augmentations; the law FnSums. -/
namespace Go.Pu
open Go Go.Abs Go.Lab

theorem bad {P : Prop} (h : ¬ P) : (false = true) ↔ P := by simp only [Bool.false_eq_true, false_iff]; exact h

/-! ## Sums of numbers -/
def sumN (f : Nat → Int) : Nat → Int
  | 0 => 0
  | n + 1 => sumN f n + f n
theorem sumN_congr {f g : Nat → Int} : ∀ {n : Nat}, (∀ i, i < n → f i = g i) → sumN f n = sumN g n
  | 0, _ => rfl
  | n + 1, h => by simp only [sumN]; rw [sumN_congr fun i hi => h i (by omega), h n (by omega)]
theorem sumN_add (f g : Nat → Int) : ∀ n, sumN (fun i => f i + g i) n = sumN f n + sumN g n
  | 0 => rfl
  | n + 1 => by simp only [sumN, sumN_add f g n]; omega
theorem sumN_mul (f : Nat → Int) (c : Int) : ∀ n, sumN (fun i => f i * c) n = sumN f n * c
  | 0 => by simp [sumN]
  | n + 1 => by simp only [sumN, sumN_mul f c n, Int.add_mul]
theorem sumN_mul' (f : Nat → Int) (c : Int) : ∀ n, sumN (fun i => c * f i) n = c * sumN f n
  | 0 => by simp [sumN]
  | n + 1 => by simp only [sumN, sumN_mul' f c n, Int.mul_add]
theorem sumN_zero : ∀ n, sumN (fun _ => 0) n = 0
  | 0 => rfl
  | n + 1 => by simp only [sumN, sumN_zero n]; omega
theorem sumN_swap (f : Nat → Nat → Int) (m : Nat) : ∀ n, sumN (fun i => sumN (fun j => f i j) m) n = sumN (fun j => sumN (fun i => f i j) n) m
  | 0 => by simp only [sumN]; rw [sumN_zero]
  | n + 1 => by simp only [sumN, sumN_swap f m n, ← sumN_add]
theorem sumN_one {v : Nat} {c : Int} : ∀ {n : Nat}, v < n → sumN (fun z => if v = z then c else 0) n = c
  | 0, h => by omega
  | n + 1, h => by
    simp only [sumN]
    by_cases e : v = n
    · subst e
      rw [if_pos rfl, sumN_congr (g := fun _ => 0) fun i hi => if_neg (by omega), sumN_zero]; omega
    · rw [if_neg e, sumN_one (by omega)]; omega
theorem sumN_mod {f g : Nat → Int} {p : Int} : ∀ {n : Nat}, (∀ i, i < n → f i % p = g i % p) → sumN f n % p = sumN g n % p
  | 0, _ => rfl
  | n + 1, h => by
    simp only [sumN]
    rw [Int.add_emod, sumN_mod fun i hi => h i (by omega), h n (by omega), ← Int.add_emod]
theorem sumN_bound {f : Nat → Int} {c : Int} (hc : 0 ≤ c) : ∀ {n : Nat}, (∀ i, i < n → 0 ≤ f i ∧ f i ≤ c) → 0 ≤ sumN f n ∧ sumN f n ≤ n * c
  | 0, _ => by simp [sumN]
  | n + 1, h => by
    have a := sumN_bound (f := f) hc (n := n) fun i hi => h i (by omega)
    have b := h n (by omega)
    simp only [sumN, Int.natCast_add, Int.add_mul]
    omega

/-! ## Sums -/
def Pr (p : Int) : Prop := p = 2 ∨ p = 3 ∨ p = 5 ∨ p = 7
theorem Pr.le {p : Int} (h : Pr p) : 2 ≤ p ∧ p ≤ 7 := by unfold Pr at h; omega
structure SumP (n p : Int) (a : List Int) : Prop where
  len : (a.length : Int) = n
  at_ : ∀ i : Nat, (i : Int) < n → 0 ≤ a.getD i 0 ∧ a.getD i 0 ≤ p - 1

theorem isSum_W {q : Sq} {p : Int} {a : List Int} (hp : -1000 ≤ p ∧ p ≤ 1000) (ha : a.length ≤ 1000000) : W (m_impl_Square_isSum q p a) fun r => r = true ↔ SumP q.order p a := by
  unfold m_impl_Square_isSum
  refine W.upto (fun s => s) a.length (fun s => 0 ≤ s ∧ s ≤ a.length ∧ ∀ i : Nat, (i : Int) < s → 0 ≤ a.getD i 0 ∧ a.getD i 0 ≤ p - 1) ⟨by omega, by omega, fun i hi => by omega⟩ ?_
  rintro x ⟨h1, h2, h3⟩
  unfold m_impl_Square_isSum_l0
  refine W.condP (fun h => W.chk (by omega) ?_) (fun h => W.some ?_)
  · rw [w64 (n := p - 1) (by omega)]
    refine W.call (within_W _ _ _) fun b hb => W.condNot (fun e => W.some (W.some (bad fun H => ne_true_of_false e (hb.2 (H.at_ x.toNat (by have := H.len; omega)))))) (fun e => W.some ?_)
    simp only
    rw [w64 (by omega)]
    refine ⟨⟨by omega, by omega, fun i hi => ?_⟩, by omega, by omega⟩
    by_cases e' : (i : Int) = x
    · have : i = x.toNat := by omega
      subst this; exact hb.1 e
    · exact h3 i (by omega)
  · simp only [if_true]
    refine W.some ?_
    rw [beq_iff_eq]
    exact ⟨fun e => ⟨e, fun i hi => h3 i (by omega)⟩, fun H => H.len⟩
theorem l10Is_W {n p : Int} {a : List Int} (hp : -1000 ≤ p ∧ p ≤ 1000) (ha : a.length ≤ 1000000) : W (m_spec_l10Is n p a) fun r => r = true ↔ SumP n p a := by
  unfold m_spec_l10Is
  refine W.upto (fun s => s) a.length (fun s => 0 ≤ s ∧ s ≤ a.length ∧ ∀ i : Nat, (i : Int) < s → 0 ≤ a.getD i 0 ∧ a.getD i 0 ≤ p - 1) ⟨by omega, by omega, fun i hi => by omega⟩ ?_
  rintro x ⟨h1, h2, h3⟩
  unfold m_spec_l10Is_l0
  refine W.condP (fun h => W.chk (by omega) ?_) (fun h => W.some ?_)
  · rw [w64 (n := p - 1) (by omega)]
    refine W.call (l01In_W _ _ _) fun b hb => W.condNot (fun e => W.some (W.some (bad fun H => ne_true_of_false e (hb.2 (H.at_ x.toNat (by have := H.len; omega)))))) (fun e => W.some ?_)
    simp only
    rw [w64 (by omega)]
    refine ⟨⟨by omega, by omega, fun i hi => ?_⟩, by omega, by omega⟩
    by_cases e' : (i : Int) = x
    · have : i = x.toNat := by omega
      subst this; exact hb.1 e
    · exact h3 i (by omega)
  · simp only [if_true]
    refine W.some ?_
    rw [beq_iff_eq]
    exact ⟨fun e => ⟨e, fun i hi => h3 i (by omega)⟩, fun H => H.len⟩

theorem l01Loop_W {q : Sq} (hb : Byt q.t) : W (m_spec_l01Loop q) fun r => r = true ↔ Loop q := by
  unfold m_spec_l01Loop
  refine W.call (l01Is_W hb) fun b h1 => W.condNot (fun e => W.some (bad fun H => ne_true_of_false e (h1.2 H.toLatin))) (fun e => ?_)
  have L := h1.1 e
  have n1 := L.n1; have n10 := L.n10
  refine W.upto (fun s => s) q.order (fun s => 0 ≤ s ∧ s ≤ q.order ∧ ∀ x : Nat, (x : Int) < s → q.t 0 x = x ∧ q.t x 0 = x) ⟨by omega, by omega, fun x hx => by omega⟩ ?_
  rintro x ⟨g1, g2, g3⟩
  unfold m_spec_l01Loop_l0
  refine W.condP (fun h => ?_) (fun h => W.some ?_)
  · rw [w8 (n := x) (by omega)]
    refine W.chk (by omega) (W.condNe (fun hn => W.some (W.some (bad fun H => hn ?_))) (fun he => W.chk (by omega) (W.condNe (fun hn => W.some (W.some (bad fun H => hn ?_))) (fun he2 => W.some ?_))))
    · have := H.left x.toNat (by omega); omega
    · have := H.right x.toNat (by omega); omega
    · simp only
      rw [w64 (by omega)]
      refine ⟨⟨by omega, by omega, fun i hi => ?_⟩, by omega, by omega⟩
      by_cases e' : (i : Int) = x
      · have : i = x.toNat := by omega
        subst this; omega
      · exact g3 i (by omega)
  · simp only [if_true]
    refine W.some ?_
    simp only [true_iff]
    exact ⟨L, fun i hi => (g3 i (by omega)).1, fun i hi => (g3 i (by omega)).2⟩

theorem isPrime_W (p : Int) : W (m_impl_isPrime p) fun r => r = true ↔ Pr p := by
  unfold m_impl_isPrime Pr
  refine W.condEq (fun h => W.some (by simp [h])) (fun h => W.condEq (fun h2 => W.some (by simp [h2])) (fun h2 => W.condEq (fun h3 => W.some (by simp [h3])) (fun h3 => W.some ?_)))
  rw [beq_iff_eq]; omega
theorem l10Prime_W (p : Int) : W (m_spec_l10Prime p) fun r => r = true ↔ Pr p := isPrime_W p

/-- the code of a loop, a number and lists -/
def CodeOf (q : Sq) (p : Int) (ls : List (List Int)) (r : Int) : Prop :=
  (¬ Loop q ∧ r = 1) ∨ (Loop q ∧ ¬ (Pr p ∧ ∀ i : Nat, i < ls.length → SumP q.order p (ls.getD i [])) ∧ r = 2) ∨ (Loop q ∧ Pr p ∧ (∀ i : Nat, i < ls.length → SumP q.order p (ls.getD i [])) ∧ r = 0)
theorem CodeOf.eq {q : Sq} {p : Int} {ls : List (List Int)} {r r' : Int} (h : CodeOf q p ls r) (h' : CodeOf q p ls r') : r = r' := by
  rcases h with ⟨a, e⟩ | ⟨a, b, e⟩ | ⟨a, b, c, e⟩ <;> rcases h' with ⟨a', e'⟩ | ⟨a', b', e'⟩ | ⟨a', b', c', e'⟩ <;> first
    | (rw [e, e']; done)
    | exact absurd a a'
    | exact absurd a' a
    | exact absurd ⟨b, c⟩ b'
    | exact absurd ⟨b', c'⟩ b
theorem ringCode_W {q : Sq} (hb : Byt q.t) {p : Int} (hp : -1000 ≤ p ∧ p ≤ 1000) {ls : List (List Int)} (hl : ls.length ≤ 1000) (ha : ∀ i : Nat, i < ls.length → (ls.getD i []).length ≤ 1000000) : W (m_impl_ringCode q p ls) (CodeOf q p ls) := by
  unfold m_impl_ringCode
  refine W.call (IsLoop_W hb) fun b1 h1 => W.condNot (fun e => W.some (.inl ⟨fun H => ne_true_of_false e (h1.2 H), rfl⟩)) (fun e1 => ?_)
  have L := h1.1 e1
  refine W.call (isPrime_W p) fun b2 h2 => W.condNot (fun e => W.some (.inr (.inl ⟨L, fun H => ne_true_of_false e (h2.2 H.1), rfl⟩))) (fun e2 => ?_)
  refine W.upto (fun s => s) ls.length (fun s => 0 ≤ s ∧ s ≤ ls.length ∧ ∀ i : Nat, (i : Int) < s → SumP q.order p (ls.getD i [])) ⟨by omega, by omega, fun i hi => by omega⟩ ?_
  rintro x ⟨g1, g2, g3⟩
  unfold m_impl_ringCode_l0
  refine W.condP (fun h => W.chk (by omega) (W.call (isSum_W hp (ha _ (by omega))) fun b3 h3 => W.condNot (fun e => W.some (W.some (.inr (.inl ⟨L, fun H => ne_true_of_false e (h3.2 (H.2 _ (by omega))), rfl⟩)))) (fun e => W.some ?_))) (fun h => W.some (W.some (.inr (.inr ⟨L, h2.1 e2, fun i hi => g3 i (by omega), rfl⟩))))
  simp only
  rw [w64 (by omega)]
  refine ⟨⟨by omega, by omega, fun i hi => ?_⟩, by omega, by omega⟩
  by_cases e' : (i : Int) = x
  · have : i = x.toNat := by omega
    subst this; exact h3.1 e
  · exact g3 i (by omega)
theorem l10Code_W {q : Sq} (hb : Byt q.t) {p : Int} (hp : -1000 ≤ p ∧ p ≤ 1000) {ls : List (List Int)} (hl : ls.length ≤ 1000) (ha : ∀ i : Nat, i < ls.length → (ls.getD i []).length ≤ 1000000) : W (m_spec_l10Code q p ls) (CodeOf q p ls) := by
  unfold m_spec_l10Code
  refine W.call (l01Loop_W hb) fun b1 h1 => W.condNot (fun e => W.some (.inl ⟨fun H => ne_true_of_false e (h1.2 H), rfl⟩)) (fun e1 => ?_)
  have L := h1.1 e1
  refine W.call (l10Prime_W p) fun b2 h2 => W.condNot (fun e => W.some (.inr (.inl ⟨L, fun H => ne_true_of_false e (h2.2 H.1), rfl⟩))) (fun e2 => ?_)
  refine W.upto (fun s => s) ls.length (fun s => 0 ≤ s ∧ s ≤ ls.length ∧ ∀ i : Nat, (i : Int) < s → SumP q.order p (ls.getD i [])) ⟨by omega, by omega, fun i hi => by omega⟩ ?_
  rintro x ⟨g1, g2, g3⟩
  unfold m_spec_l10Code_l0
  refine W.condP (fun h => W.chk (by omega) (W.call (l10Is_W hp (ha _ (by omega))) fun b3 h3 => W.condNot (fun e => W.some (W.some (.inr (.inl ⟨L, fun H => ne_true_of_false e (h3.2 (H.2 _ (by omega))), rfl⟩)))) (fun e => W.some ?_))) (fun h => W.some (W.some (.inr (.inr ⟨L, h2.1 e2, fun i hi => g3 i (by omega), rfl⟩))))
  simp only
  rw [w64 (by omega)]
  refine ⟨⟨by omega, by omega, fun i hi => ?_⟩, by omega, by omega⟩
  by_cases e' : (i : Int) = x
  · have : i = x.toNat := by omega
    subst this; exact h3.1 e
  · exact g3 i (by omega)

/-! ## Products -/
/-- the list of a function's values -/
def tabL (n : Int) (f : Nat → Int) : List Int := (List.range n.toNat).map f
theorem tabL_getD {n : Int} {f : Nat → Int} {i : Nat} (h : (i : Int) < n) : (tabL n f).getD i 0 = f i := by
  rw [List.getD_eq_getElem?_getD]
  unfold tabL
  rw [List.getElem?_map, List.getElem?_range (by omega)]; rfl
theorem tabL_length {n : Int} {f : Nat → Int} (h : 0 ≤ n) : ((tabL n f).length : Int) = n := by unfold tabL; simp; omega
theorem eq_tabL {n : Int} {f : Nat → Int} {l : List Int} (hl : (l.length : Int) = n) (h : ∀ i : Nat, (i : Int) < n → l.getD i 0 = f i) : l = tabL n f := by
  apply List.ext_getElem?
  intro i
  by_cases hi : (i : Int) < n
  · have a := h i hi
    have b := tabL_getD (f := f) hi
    have l1 : i < l.length := by omega
    have l2 : i < (tabL n f).length := by have := tabL_length (f := f) (n := n) (by omega); omega
    rw [List.getElem?_eq_getElem l1, List.getElem?_eq_getElem l2]
    rw [List.getD_eq_getElem?_getD, List.getElem?_eq_getElem l1] at a
    rw [List.getD_eq_getElem?_getD, List.getElem?_eq_getElem l2] at b
    simp only [Option.getD_some] at a b
    rw [a, b]
  · rw [List.getElem?_eq_none (by omega), List.getElem?_eq_none]
    unfold tabL; simp; omega
theorem tabL_congr {n : Int} {f g : Nat → Int} (h : ∀ i : Nat, (i : Int) < n → f i = g i) (hn : 0 ≤ n) : tabL n f = tabL n g := eq_tabL (tabL_length hn) fun i hi => by rw [tabL_getD hi, h i hi]

/-- what a row gives to z -/
def rowG (q : Sq) (a b : Nat → Int) (z x : Nat) (m : Nat) : Int := sumN (fun y => if (q.t x y).toNat = z then a x * b y else 0) m
def conv (q : Sq) (p : Int) (a b : Nat → Int) (z : Nat) : Int := sumN (fun x => rowG q a b z x q.order.toNat) q.order.toNat % p
def fn (l : List Int) : Nat → Int := fun i => l.getD i 0
def timesL (q : Sq) (p : Int) (a b : List Int) : List Int := tabL q.order (conv q p (fn a) (fn b))

theorem mul36 {a b : Int} (h1 : 0 ≤ a) (h2 : a ≤ 6) (h3 : 0 ≤ b) (h4 : b ≤ 6) : 0 ≤ a * b ∧ a * b ≤ 36 := by
  have := Int.mul_nonneg h1 h3
  have : a * b ≤ 6 * 6 := Int.mul_le_mul h2 h4 h3 (by omega)
  omega
theorem modp {p s v : Int} (hp : 0 < p) (hv : 0 ≤ v) : (s % p + v).tmod p = (s + v) % p := by
  have := Int.emod_nonneg s (show p ≠ 0 by omega)
  rw [Int.tmod_eq_emod_of_nonneg (by omega), Int.emod_add_emod]

/-- one store -/
theorem step_store {q : Sq} {p : Int} (L : Latin q) (hp : Pr p) {a b : List Int} (ha : SumP q.order p a) (hb : SumP q.order p b) {x y : Int} (hx0 : 0 ≤ x) (hx : x < q.order) (hy0 : 0 ≤ y) (hy : y < q.order) {l : List Int} {F : Nat → Int}
    (hl : (l.length : Int) = q.order) (hF : ∀ z : Nat, (z : Int) < q.order → l.getD z 0 = (F z + rowG q (fn a) (fn b) z x.toNat y.toNat) % p) :
    ∀ z : Nat, (z : Int) < q.order → (l.set (q.t x.toNat y.toNat).toNat ((IntKind.i64.wrap (l.getD (q.t x.toNat y.toNat).toNat 0 + IntKind.i64.wrap (a.getD x.toNat 0 * b.getD y.toNat 0))).tmod p)).getD z 0 = (F z + rowG q (fn a) (fn b) z x.toNat (y.toNat + 1)) % p := by
  intro z hz
  have pl := hp.le
  have e := L.lt (x := x.toNat) (y := y.toNat) (by omega) (by omega)
  have va := ha.at_ x.toNat (by omega); have vb := hb.at_ y.toNat (by omega)
  have m := mul36 va.1 (by omega) vb.1 (by omega)
  have g : ∀ z : Nat, rowG q (fn a) (fn b) z x.toNat (y.toNat + 1) = rowG q (fn a) (fn b) z x.toNat y.toNat + if (q.t x.toNat y.toNat).toNat = z then a.getD x.toNat 0 * b.getD y.toNat 0 else 0 := fun z => rfl
  have h1 := hF (q.t x.toNat y.toNat).toNat (by omega)
  have h2 := Int.emod_nonneg (F (q.t x.toNat y.toNat).toNat + rowG q (fn a) (fn b) (q.t x.toNat y.toNat).toNat x.toNat y.toNat) (show p ≠ 0 by omega)
  have h3 := Int.emod_lt_of_pos (F (q.t x.toNat y.toNat).toNat + rowG q (fn a) (fn b) (q.t x.toNat y.toNat).toNat x.toNat y.toNat) (show 0 < p by omega)
  rw [w64 (n := a.getD _ _ * b.getD _ _) (by omega), w64 (by omega), g]
  rw [getD_set (show (q.t x.toNat y.toNat).toNat < l.length by omega)]
  by_cases e' : z = (q.t x.toNat y.toNat).toNat
  · rw [if_pos e', if_pos e'.symm, h1, modp (by omega) m.1, ← e', Int.add_assoc]
  · rw [if_neg e', if_neg (fun x => e' x.symm), Int.add_zero]; exact hF z hz

theorem rowG_zero {q : Sq} {a b : Nat → Int} {z x : Nat} (h : a x = 0) (m : Nat) : rowG q a b z x m = 0 := by
  unfold rowG
  rw [sumN_congr (g := fun _ => 0) fun y _ => by rw [h, Int.zero_mul]; split <;> rfl]
  exact sumN_zero m

theorem times_W {q : Sq} {p : Int} (L : Latin q) (hp : Pr p) {a b : List Int} (ha : SumP q.order p a) (hb : SumP q.order p b) : W (m_impl_Square_times q p a b) fun r => r = timesL q p a b := by
  have n1 := L.n1; have n10 := L.n10; have pl := hp.le
  have la := ha.len; have lb := hb.len
  unfold m_impl_Square_times
  refine W.chk (by omega) ?_
  refine W.upto (fun s => s.1) a.length (fun s => 0 ≤ s.1 ∧ s.1 ≤ a.length ∧ (s.2.length : Int) = q.order ∧ ∀ z : Nat, (z : Int) < q.order → s.2.getD z 0 = sumN (fun x => rowG q (fn a) (fn b) z x q.order.toNat) s.1.toNat % p) ⟨by simp, by simp, by simp; omega, fun z hz => ?_⟩ ?_
  · simp [sumN, List.getD_eq_getElem?_getD, List.getElem?_replicate]
    split <;> rfl
  rintro ⟨x, l⟩ ⟨h1, h2, h3, h4⟩
  simp only at h1 h2 h3 h4
  have ex : (x + 1).toNat = x.toNat + 1 := by omega
  unfold m_impl_Square_times_l0
  refine W.condP (fun h => W.chk (by omega) (W.condEq (fun h0 => W.some ?_) (fun h0 => ?_))) (fun h => W.some (W.some ?_))
  · simp only
    rw [w64 (by omega)]
    refine ⟨⟨by omega, by omega, h3, fun z hz => ?_⟩, by omega, by omega⟩
    rw [ex]; simp only [sumN]
    rw [rowG_zero (a := fn a) h0, Int.add_zero]; exact h4 z hz
  · refine W.upto (fun s => s.1) b.length (fun s => 0 ≤ s.1 ∧ s.1 ≤ b.length ∧ (s.2.length : Int) = q.order ∧ ∀ z : Nat, (z : Int) < q.order → s.2.getD z 0 = (sumN (fun x => rowG q (fn a) (fn b) z x q.order.toNat) x.toNat + rowG q (fn a) (fn b) z x.toNat s.1.toNat) % p) ⟨by simp, by simp, h3, fun z hz => ?_⟩ ?_
    · simp only
      rw [h4 z hz]
      show _ = (_ + 0) % p
      rw [Int.add_zero]
    rintro ⟨y, l'⟩ ⟨g1, g2, g3, g4⟩
    simp only at g1 g2 g3 g4
    have ey : (y + 1).toNat = y.toNat + 1 := by omega
    unfold m_impl_Square_times_l1
    refine W.condP (fun h' => ?_) (fun h' => W.some ?_)
    · have e := L.lt (x := x.toNat) (y := y.toNat) (by omega) (by omega)
      refine W.chk (by omega) (W.chk (by omega) (W.chk (by omega) (W.chk (by omega) (W.chk (by omega) (W.chk (by omega) (W.some ?_))))))
      simp only
      rw [w64 (n := y + 1) (by omega)]
      refine ⟨⟨by omega, by omega, by simpa using g3, ?_⟩, by omega, by omega⟩
      rw [ey]
      exact step_store L hp ha hb h1 (by omega) g1 (by omega) g3 g4
    · simp only [if_true]
      refine W.some ?_
      simp only
      rw [w64 (by omega)]
      refine ⟨⟨by omega, by omega, g3, fun z hz => ?_⟩, by omega, by omega⟩
      have ey : y.toNat = q.order.toNat := by omega
      rw [ex, g4 z hz, ey]; rfl
  · refine eq_tabL h3 fun z hz => ?_
    have e : x.toNat = q.order.toNat := by omega
    rw [h4 z hz, e]; rfl

theorem l10Times_W {q : Sq} {p : Int} (L : Latin q) (hp : Pr p) {a b : List Int} (ha : SumP q.order p a) (hb : SumP q.order p b) : W (m_spec_l10Times q p a b) fun r => r = timesL q p a b := by
  have n1 := L.n1; have n10 := L.n10; have pl := hp.le
  have la := ha.len; have lb := hb.len
  unfold m_spec_l10Times
  refine W.chk (by omega) ?_
  refine W.upto (fun s => s.1) q.order (fun s => 0 ≤ s.1 ∧ s.1 ≤ q.order ∧ (s.2.length : Int) = q.order ∧ ∀ z : Nat, (z : Int) < q.order → s.2.getD z 0 = sumN (fun x => rowG q (fn a) (fn b) z x q.order.toNat) s.1.toNat % p) ⟨by simp, by simp only; omega, by simp; omega, fun z hz => ?_⟩ ?_
  · simp [sumN, List.getD_eq_getElem?_getD, List.getElem?_replicate]
    split <;> rfl
  rintro ⟨x, l⟩ ⟨h1, h2, h3, h4⟩
  simp only at h1 h2 h3 h4
  have ex : (x + 1).toNat = x.toNat + 1 := by omega
  unfold m_spec_l10Times_l0
  refine W.condP (fun h => ?_) (fun h => W.some (W.some ?_))
  · refine W.upto (fun s => s.1) q.order (fun s => 0 ≤ s.1 ∧ s.1 ≤ q.order ∧ (s.2.length : Int) = q.order ∧ ∀ z : Nat, (z : Int) < q.order → s.2.getD z 0 = (sumN (fun x => rowG q (fn a) (fn b) z x q.order.toNat) x.toNat + rowG q (fn a) (fn b) z x.toNat s.1.toNat) % p) ⟨by simp, by simp only; omega, h3, fun z hz => ?_⟩ ?_
    · simp only
      rw [h4 z hz]
      show _ = (_ + 0) % p
      rw [Int.add_zero]
    rintro ⟨y, l'⟩ ⟨g1, g2, g3, g4⟩
    simp only at g1 g2 g3 g4
    have ey : (y + 1).toNat = y.toNat + 1 := by omega
    unfold m_spec_l10Times_l1
    refine W.condP (fun h' => ?_) (fun h' => W.some ?_)
    · have e := L.lt (x := x.toNat) (y := y.toNat) (by omega) (by omega)
      refine W.chk (by omega) (W.chk (by omega) (W.chk (by omega) (W.chk (by omega) (W.chk (by omega) (W.chk (by omega) (W.chk (by omega) (W.some ?_)))))))
      simp only
      rw [w64 (n := y + 1) (by omega)]
      refine ⟨⟨by omega, by omega, by simpa using g3, ?_⟩, by omega, by omega⟩
      rw [ey]
      exact step_store L hp ha hb h1 (by omega) g1 (by omega) g3 g4
    · simp only [if_true]
      refine W.some ?_
      simp only
      rw [w64 (by omega)]
      refine ⟨⟨by omega, by omega, g3, fun z hz => ?_⟩, by omega, by omega⟩
      have ey : y.toNat = q.order.toNat := by omega
      rw [ex, g4 z hz, ey]; rfl
  · refine eq_tabL h3 fun z hz => ?_
    have e : x.toNat = q.order.toNat := by omega
    rw [h4 z hz, e]; rfl

theorem sumP_tabL {n p : Int} {f : Nat → Int} (hn : 0 ≤ n) (h : ∀ i : Nat, (i : Int) < n → 0 ≤ f i ∧ f i ≤ p - 1) : SumP n p (tabL n f) := ⟨tabL_length hn, fun i hi => by rw [tabL_getD hi]; exact h i hi⟩
theorem timesL_sum {q : Sq} {p : Int} (L : Latin q) (hp : Pr p) (a b : List Int) : SumP q.order p (timesL q p a b) := by
  have := L.n1; have pl := hp.le
  refine sumP_tabL (by omega) fun i hi => ?_
  unfold conv
  have h2 := Int.emod_nonneg (sumN (fun x => rowG q (fn a) (fn b) i x q.order.toNat) q.order.toNat) (show p ≠ 0 by omega)
  have h3 := Int.emod_lt_of_pos (sumN (fun x => rowG q (fn a) (fn b) i x q.order.toNat) q.order.toNat) (show 0 < p by omega)
  omega

def MulOf (q : Sq) (p : Int) (a b : List Int) (r : List Int × Int) : Prop := (∃ c, CodeOf q p [a, b] c ∧ c ≠ 0 ∧ r = ([], c)) ∨ (CodeOf q p [a, b] 0 ∧ r = (timesL q p a b, 0))
theorem code2 {q : Sq} {p : Int} {a b : List Int} (h : CodeOf q p [a, b] 0) : Loop q ∧ Pr p ∧ SumP q.order p a ∧ SumP q.order p b := by
  rcases h with ⟨_, e⟩ | ⟨_, _, e⟩ | ⟨x, y, z, _⟩
  · exact absurd e (by decide)
  · exact absurd e (by decide)
  · exact ⟨x, y, z 0 (by simp), z 1 (by simp)⟩
theorem code1 {q : Sq} {p : Int} {a : List Int} (h : CodeOf q p [a] 0) : Loop q ∧ Pr p ∧ SumP q.order p a := by
  rcases h with ⟨_, e⟩ | ⟨_, _, e⟩ | ⟨x, y, z, _⟩
  · exact absurd e (by decide)
  · exact absurd e (by decide)
  · exact ⟨x, y, z 0 (by simp)⟩
theorem code2_of {q : Sq} {p : Int} {a b : List Int} (h1 : Loop q) (h2 : Pr p) (h3 : SumP q.order p a) (h4 : SumP q.order p b) : CodeOf q p [a, b] 0 := .inr (.inr ⟨h1, h2, fun i hi => by
  match i, hi with
  | 0, _ => exact h3
  | 1, _ => exact h4
  | i + 2, hi => simp at hi; omega, rfl⟩)
theorem code1_of {q : Sq} {p : Int} {a : List Int} (h1 : Loop q) (h2 : Pr p) (h3 : SumP q.order p a) : CodeOf q p [a] 0 := .inr (.inr ⟨h1, h2, fun i hi => by
  match i, hi with
  | 0, _ => exact h3
  | i + 1, hi => simp at hi, rfl⟩)
theorem two_len {a b : List Int} (ha : a.length ≤ 1000000) (hb : b.length ≤ 1000000) : ∀ i : Nat, i < [a, b].length → ([a, b].getD i []).length ≤ 1000000 := fun i hi => by
  match i, hi with
  | 0, _ => exact ha
  | 1, _ => exact hb
  | i + 2, hi => simp at hi; omega
theorem one_len {a : List Int} (ha : a.length ≤ 1000000) : ∀ i : Nat, i < [a].length → ([a].getD i []).length ≤ 1000000 := fun i hi => by
  match i, hi with
  | 0, _ => exact ha
  | i + 1, hi => simp at hi
theorem MulOf.eq {q : Sq} {p : Int} {a b : List Int} {r r' : List Int × Int} (h : MulOf q p a b r) (h' : MulOf q p a b r') : r = r' := by
  rcases h with ⟨c, x, y, e⟩ | ⟨x, e⟩ <;> rcases h' with ⟨c', x', y', e'⟩ | ⟨x', e'⟩
  · rw [e, e', x.eq x']
  · exact absurd (x.eq x') y
  · exact absurd (x'.eq x) y'
  · rw [e, e']
section
variable {q : Sq} {p : Int} {a b : List Int} (hq : Byt q.t) (hp : -1000 ≤ p ∧ p ≤ 1000) (ha : a.length ≤ 1000000) (hb : b.length ≤ 1000000)
include hq hp ha hb
theorem MultiplySums_W : W (m_impl_MultiplySums q p a b) (MulOf q p a b) := by
  unfold m_impl_MultiplySums
  refine W.call (ringCode_W hq hp (by simp) (two_len ha hb)) fun c hc => W.condNe (fun h => W.some (.inl ⟨c, hc, h, rfl⟩)) (fun h => ?_)
  subst h
  obtain ⟨x, y, z, w⟩ := code2 hc
  exact W.call (times_W x.toLatin y z w) fun r hr => W.some (.inr ⟨hc, by rw [hr]⟩)
theorem spec_MultiplySums_W : W (m_spec_MultiplySums q p a b) (MulOf q p a b) := by
  unfold m_spec_MultiplySums
  refine W.call (l10Code_W hq hp (by simp) (two_len ha hb)) fun c hc => W.condNe (fun h => W.some (.inl ⟨c, hc, h, rfl⟩)) (fun h => ?_)
  subst h
  obtain ⟨x, y, z, w⟩ := code2 hc
  exact W.call (l10Times_W x.toLatin y z w) fun r hr => W.some (.inr ⟨hc, by rw [hr]⟩)

/-! ## Sums of sums -/
end
def addL (n p : Int) (a b : List Int) : List Int := tabL n fun i => (a.getD i 0 + b.getD i 0) % p
theorem addL_sum {n p : Int} (hn : 0 ≤ n) (hp : Pr p) (a b : List Int) : SumP n p (addL n p a b) := sumP_tabL hn fun i hi => by
  have pl := hp.le
  have h2 := Int.emod_nonneg (a.getD i 0 + b.getD i 0) (show p ≠ 0 by omega)
  have h3 := Int.emod_lt_of_pos (a.getD i 0 + b.getD i 0) (show 0 < p by omega)
  omega
def AddOf (q : Sq) (p : Int) (a b : List Int) (r : List Int × Int) : Prop := (∃ c, CodeOf q p [a, b] c ∧ c ≠ 0 ∧ r = ([], c)) ∨ (CodeOf q p [a, b] 0 ∧ r = (addL q.order p a b, 0))
theorem AddOf.eq {q : Sq} {p : Int} {a b : List Int} {r r' : List Int × Int} (h : AddOf q p a b r) (h' : AddOf q p a b r') : r = r' := by
  rcases h with ⟨c, x, y, e⟩ | ⟨x, e⟩ <;> rcases h' with ⟨c', x', y', e'⟩ | ⟨x', e'⟩
  · rw [e, e', x.eq x']
  · exact absurd (x.eq x') y
  · exact absurd (x'.eq x) y'
  · rw [e, e']
theorem getD_snocI {l : List Int} {v : Int} {i : Nat} : (l ++ [v]).getD i 0 = if i < l.length then l.getD i 0 else if i = l.length then v else 0 := getD_snoc
section
variable {q : Sq} {p : Int} {a b : List Int} (hq : Byt q.t) (hp : -1000 ≤ p ∧ p ≤ 1000) (ha : a.length ≤ 1000000) (hb : b.length ≤ 1000000)
include hq hp ha hb
theorem AddSums_W : W (m_impl_AddSums q p a b) (AddOf q p a b) := by
  unfold m_impl_AddSums
  refine W.call (ringCode_W hq hp (by simp) (two_len ha hb)) fun c hc => W.condNe (fun h => W.some (.inl ⟨c, hc, h, rfl⟩)) (fun h => ?_)
  subst h
  obtain ⟨L, P, A, B⟩ := code2 hc
  have la := A.len; have lb := B.len; have pl := P.le; have n10 := L.n10
  refine W.upto (fun s => s.2) a.length (fun s => 0 ≤ s.2 ∧ s.2 ≤ a.length ∧ (s.1.length : Int) = s.2 ∧ ∀ i : Nat, (i : Int) < s.2 → s.1.getD i 0 = (a.getD i 0 + b.getD i 0) % p) ⟨by simp, by simp, by simp, fun i hi => by simp only at hi; omega⟩ ?_
  rintro ⟨l, x⟩ ⟨h1, h2, h3, h4⟩
  simp only at h1 h2 h3 h4
  unfold m_impl_AddSums_l0
  refine W.condP (fun h => ?_) (fun h => W.some (W.some (.inr ⟨hc, ?_⟩)))
  · have va := A.at_ x.toNat (by omega); have vb := B.at_ x.toNat (by omega)
    refine W.chk (by omega) (W.chk (by omega) (W.chk (by omega) (W.chk (by omega) (W.some ?_))))
    simp only
    rw [w64 (n := a.getD _ _ + b.getD _ _) (by omega), w64 (by omega), Int.tmod_eq_emod_of_nonneg (by omega)]
    refine ⟨⟨by omega, by omega, by simp; omega, fun i hi => ?_⟩, by omega, by omega⟩
    rw [getD_snocI]
    split
    · exact h4 i (by omega)
    · rw [if_pos (by omega)]
      have : i = x.toNat := by omega
      rw [this]
  · rw [eq_tabL (n := q.order) (f := fun i => (a.getD i 0 + b.getD i 0) % p) (by omega) fun i hi => h4 i (by omega)]; rfl
theorem spec_AddSums_W : W (m_spec_AddSums q p a b) (AddOf q p a b) := by
  unfold m_spec_AddSums
  refine W.call (l10Code_W hq hp (by simp) (two_len ha hb)) fun c hc => W.condNe (fun h => W.some (.inl ⟨c, hc, h, rfl⟩)) (fun h => ?_)
  subst h
  obtain ⟨L, P, A, B⟩ := code2 hc
  have la := A.len; have lb := B.len; have pl := P.le; have n10 := L.n10
  refine W.call (R := fun r => r = addL q.order p a b) ?_ fun r hr => W.some (.inr ⟨hc, by rw [hr]⟩)
  unfold m_spec_l10Add
  refine W.upto (fun s => s.2) a.length (fun s => 0 ≤ s.2 ∧ s.2 ≤ a.length ∧ (s.1.length : Int) = s.2 ∧ ∀ i : Nat, (i : Int) < s.2 → s.1.getD i 0 = (a.getD i 0 + b.getD i 0) % p) ⟨by simp, by simp, by simp, fun i hi => by simp only at hi; omega⟩ ?_
  rintro ⟨l, x⟩ ⟨h1, h2, h3, h4⟩
  simp only at h1 h2 h3 h4
  unfold m_spec_l10Add_l0
  refine W.condP (fun h => ?_) (fun h => W.some (W.some ?_))
  · have va := A.at_ x.toNat (by omega); have vb := B.at_ x.toNat (by omega)
    refine W.chk (by omega) (W.chk (by omega) (W.chk (by omega) (W.chk (by omega) (W.chk (by omega) (W.some ?_)))))
    simp only
    have e := Int.emod_nonneg (a.getD x.toNat 0 + b.getD x.toNat 0) (show p ≠ 0 by omega)
    have e2 := Int.emod_lt_of_pos (a.getD x.toNat 0 + b.getD x.toNat 0) (show 0 < p by omega)
    rw [Int.one_mul, w64 (n := b.getD _ _) (by omega), w64 (n := a.getD _ _ + b.getD _ _) (by omega), Int.tmod_eq_emod_of_nonneg (a := a.getD _ _ + b.getD _ _) (by omega), w64 (by omega), w64 (by omega), Int.tmod_eq_emod_of_nonneg (by omega), Int.add_emod_right, Int.emod_emod]
    refine ⟨⟨by omega, by omega, by simp; omega, fun i hi => ?_⟩, by omega, by omega⟩
    rw [getD_snocI]
    split
    · exact h4 i (by omega)
    · rw [if_pos (by omega)]
      have : i = x.toNat := by omega
      rw [this]
  · exact eq_tabL (by omega) fun i hi => h4 i (by omega)
end

/-! ## Augmentations -/
def augL (p : Int) (a : List Int) : Int := sumN (fn a) a.length % p
def AugOf (q : Sq) (p : Int) (a : List Int) (r : Int × Int) : Prop := (∃ c, CodeOf q p [a] c ∧ c ≠ 0 ∧ r = (0, c)) ∨ (CodeOf q p [a] 0 ∧ r = (augL p a, 0))
theorem AugOf.eq {q : Sq} {p : Int} {a : List Int} {r r' : Int × Int} (h : AugOf q p a r) (h' : AugOf q p a r') : r = r' := by
  rcases h with ⟨c, x, y, e⟩ | ⟨x, e⟩ <;> rcases h' with ⟨c', x', y', e'⟩ | ⟨x', e'⟩
  · rw [e, e', x.eq x']
  · exact absurd (x.eq x') y
  · exact absurd (x'.eq x) y'
  · rw [e, e']
section
variable {q : Sq} {p : Int} {a : List Int} (hq : Byt q.t) (hp : -1000 ≤ p ∧ p ≤ 1000) (ha : a.length ≤ 1000000)
include hq hp ha
theorem AugmentationOf_W : W (m_impl_AugmentationOf q p a) (AugOf q p a) := by
  unfold m_impl_AugmentationOf
  refine W.call (ringCode_W hq hp (by simp) (one_len ha)) fun c hc => W.condNe (fun h => W.some (.inl ⟨c, hc, h, rfl⟩)) (fun h => ?_)
  subst h
  obtain ⟨L, P, A⟩ := code1 hc
  have la := A.len; have pl := P.le; have n10 := L.n10
  have bnd : ∀ m : Nat, m ≤ a.length → 0 ≤ sumN (fn a) m ∧ sumN (fn a) m ≤ m * 6 := fun m hm => sumN_bound (by omega) fun i hi => by have := A.at_ i (by omega); unfold fn; omega
  refine W.upto (fun s => s.2) a.length (fun s => 0 ≤ s.2 ∧ s.2 ≤ a.length ∧ s.1 = sumN (fn a) s.2.toNat) ⟨by simp, by simp, rfl⟩ ?_
  rintro ⟨v, x⟩ ⟨h1, h2, h3⟩
  simp only at h1 h2 h3
  have b1 := bnd x.toNat (by omega)
  unfold m_impl_AugmentationOf_l0
  refine W.condP (fun h => ?_) (fun h => W.some ?_)
  · have va := A.at_ x.toNat (by omega)
    refine W.chk (by omega) (W.some ?_)
    simp only
    have ex : (x + 1).toNat = x.toNat + 1 := by omega
    rw [w64 (by omega), w64 (by omega)]
    refine ⟨⟨by omega, by omega, ?_⟩, by omega, by omega⟩
    rw [ex, h3]; rfl
  · simp only [if_true]
    refine W.chk (by omega) (W.some (.inr ⟨hc, ?_⟩))
    have ex : x.toNat = a.length := by omega
    rw [Int.tmod_eq_emod_of_nonneg (by omega), h3, ex]; rfl
theorem spec_AugmentationOf_W : W (m_spec_AugmentationOf q p a) (AugOf q p a) := by
  unfold m_spec_AugmentationOf
  refine W.call (l10Code_W hq hp (by simp) (one_len ha)) fun c hc => W.condNe (fun h => W.some (.inl ⟨c, hc, h, rfl⟩)) (fun h => ?_)
  subst h
  obtain ⟨L, P, A⟩ := code1 hc
  have la := A.len; have pl := P.le; have n10 := L.n10
  have bnd : ∀ m : Nat, m ≤ a.length → 0 ≤ sumN (fn a) m ∧ sumN (fn a) m ≤ m * 6 := fun m hm => sumN_bound (by omega) fun i hi => by have := A.at_ i (by omega); unfold fn; omega
  refine W.call (R := fun r => r = augL p a) ?_ fun r hr => W.some (.inr ⟨hc, by rw [hr]⟩)
  unfold m_spec_l10Augment
  refine W.upto (fun s => s.2) a.length (fun s => 0 ≤ s.2 ∧ s.2 ≤ a.length ∧ s.1 = sumN (fn a) s.2.toNat) ⟨by simp, by simp, rfl⟩ ?_
  rintro ⟨v, x⟩ ⟨h1, h2, h3⟩
  simp only at h1 h2 h3
  have b1 := bnd x.toNat (by omega)
  unfold m_spec_l10Augment_l0
  refine W.condP (fun h => ?_) (fun h => W.some ?_)
  · have va := A.at_ x.toNat (by omega)
    refine W.chk (by omega) (W.some ?_)
    simp only
    have ex : (x + 1).toNat = x.toNat + 1 := by omega
    rw [w64 (by omega), w64 (by omega)]
    refine ⟨⟨by omega, by omega, ?_⟩, by omega, by omega⟩
    rw [ex, h3]; rfl
  · simp only [if_true]
    refine W.chk (by omega) (W.some ?_)
    have ex : x.toNat = a.length := by omega
    rw [Int.tmod_eq_emod_of_nonneg (by omega), h3, ex]; rfl
end
end Go.Pu

/- Plain laws: powers of sums, distributivity, augmentations of products; the law FnSums. -/
namespace Go.Pu
open Go Go.Abs Go.Lab

/-! ## Powers -/
def unitL (n : Int) : List Int := (List.replicate n.toNat 0).set 0 1
def powL (q : Sq) (p : Int) (a : List Int) : Nat → List Int
  | 0 => unitL q.order
  | k + 1 => timesL q p (powL q p a k) a
theorem unitL_sum {n p : Int} (hn : 1 ≤ n) (hp : Pr p) : SumP n p (unitL n) := by
  have pl := hp.le
  refine ⟨by unfold unitL; simp; omega, fun i hi => ?_⟩
  unfold unitL
  rw [getD_set (by simp; omega)]
  split
  · omega
  · rw [List.getD_eq_getElem?_getD, List.getElem?_replicate]
    split <;> simp <;> omega
theorem powL_sum {q : Sq} {p : Int} (L : Latin q) (hp : Pr p) (a : List Int) : ∀ k, SumP q.order p (powL q p a k)
  | 0 => unitL_sum L.n1 hp
  | k + 1 => timesL_sum L hp _ _

def PowOf (q : Sq) (p : Int) (a : List Int) (k : Int) (r : List Int × Int) : Prop := (∃ c, CodeOf q p [a] c ∧ c ≠ 0 ∧ r = ([], c)) ∨ (CodeOf q p [a] 0 ∧ ¬ (0 ≤ k ∧ k ≤ 1000) ∧ r = ([], 2)) ∨ (CodeOf q p [a] 0 ∧ 0 ≤ k ∧ k ≤ 1000 ∧ r = (powL q p a k.toNat, 0))
theorem PowOf.eq {q : Sq} {p : Int} {a : List Int} {k : Int} {r r' : List Int × Int} (h : PowOf q p a k r) (h' : PowOf q p a k r') : r = r' := by
  rcases h with ⟨c, x, y, e⟩ | ⟨x, y, e⟩ | ⟨x, y, z, e⟩ <;> rcases h' with ⟨c', x', y', e'⟩ | ⟨x', y', e'⟩ | ⟨x', y', z', e'⟩ <;> first
    | (rw [e, e', x.eq x']; done)
    | (rw [e, e']; done)
    | exact absurd (x.eq x') y
    | exact absurd (x'.eq x) y'
    | exact absurd ⟨y', z'⟩ y
    | exact absurd ⟨y, z⟩ y'
section
variable {q : Sq} {p : Int} {a : List Int} (hq : Byt q.t) (hp : -1000 ≤ p ∧ p ≤ 1000) (ha : a.length ≤ 1000000)
include hq hp ha
theorem PowerOfSum_W (k : Int) : W (m_impl_PowerOfSum q p a k) (PowOf q p a k) := by
  unfold m_impl_PowerOfSum
  refine W.call (ringCode_W hq hp (by simp) (one_len ha)) fun c hc => W.condNe (fun h => W.some (.inl ⟨c, hc, h, rfl⟩)) (fun h => ?_)
  subst h
  obtain ⟨L, P, A⟩ := code1 hc
  have n1 := L.n1; have n10 := L.n10
  refine W.call (within_W _ _ _) fun b hb => W.condNot (fun e => W.some (.inr (.inl ⟨hc, fun H => ne_true_of_false e (hb.2 H), rfl⟩))) (fun e => ?_)
  obtain ⟨k0, k1⟩ := hb.1 e
  refine W.call (m := m_impl_Square_unit q 0) (R := fun r => r = unitL q.order) (by unfold m_impl_Square_unit; exact W.chk (by omega) (W.chk (by omega) (W.some rfl))) fun r3 h3 => ?_
  refine W.upto (fun s => s.2) k (fun s => 0 ≤ s.2 ∧ s.2 ≤ k ∧ s.1 = powL q p a s.2.toNat) ⟨by simp, by simp only; omega, by rw [h3]; rfl⟩ ?_
  rintro ⟨l, x⟩ ⟨h1, h2, h4⟩
  simp only at h1 h2 h4
  subst h4
  unfold m_impl_PowerOfSum_l0
  refine W.condP (fun h => W.call (times_W L.toLatin P (powL_sum L.toLatin P a _) A) fun r4 h4 => W.some ?_) (fun h => W.some (W.some (.inr (.inr ⟨hc, k0, k1, ?_⟩))))
  · simp only
    rw [w64 (by omega)]
    have ex : (x + 1).toNat = x.toNat + 1 := by omega
    exact ⟨⟨by omega, by omega, by rw [ex, h4]; rfl⟩, by omega, by omega⟩
  · have : x = k := by omega
    rw [this]
theorem spec_PowerOfSum_W (k : Int) : W (m_spec_PowerOfSum q p a k) (PowOf q p a k) := by
  unfold m_spec_PowerOfSum
  refine W.call (l10Code_W hq hp (by simp) (one_len ha)) fun c hc => W.condEq (fun h => ?_) (fun h => W.condNe (fun h' => W.some (.inl ⟨c, hc, h, rfl⟩)) (fun h' => absurd h' h))
  subst h
  obtain ⟨L, P, A⟩ := code1 hc
  have n1 := L.n1; have n10 := L.n10
  refine W.call (l01In_W _ _ _) fun b hb => W.condNot (fun e => W.condNe (fun _ => W.some (.inr (.inl ⟨hc, fun H => ne_true_of_false e (hb.2 H), rfl⟩))) (fun h => absurd h (by decide))) (fun e => W.condNe (fun h => absurd rfl h) (fun _ => ?_))
  obtain ⟨k0, k1⟩ := hb.1 e
  refine W.call (m := m_spec_l10Unit q.order 0) (R := fun r => r = unitL q.order) (by unfold m_spec_l10Unit; exact W.chk (by omega) (W.chk (by omega) (W.some rfl))) fun r3 h3 => ?_
  refine W.loop (fun s => 0 ≤ s.1 ∧ s.1 ≤ k ∧ s.2 = powL q p a (k - s.1).toNat) (fun s => s.1.toNat) ⟨by simp only; omega, by simp, by rw [h3]; simp [powL]⟩ ?_
  rintro ⟨x, l⟩ ⟨h1, h2, h4⟩
  simp only at h1 h2 h4
  subst h4
  unfold m_spec_PowerOfSum_l1
  refine W.condP (fun h => W.call (l10Times_W L.toLatin P (powL_sum L.toLatin P a _) A) fun r4 h4 => W.some ?_) (fun h => W.some (W.some (.inr (.inr ⟨hc, k0, k1, ?_⟩))))
  · simp only
    rw [w64 (by omega)]
    have ex : (k - (x - 1)).toNat = (k - x).toNat + 1 := by omega
    exact ⟨⟨by omega, by omega, by rw [ex, h4]; rfl⟩, by omega⟩
  · have : x = 0 := by omega
    rw [this, Int.sub_zero]
end

/-! ## The laws -/
theorem likeInts_W {a b : List Int} (ha : a.length ≤ 1000000) (hb : b.length ≤ 1000000) : W (m_laws_likeInts a b) fun r => r = true ↔ a = b := by
  unfold m_laws_likeInts
  refine W.condNe (fun h => W.some (bad fun e => h (by rw [e]))) (fun h => ?_)
  refine W.upto (fun s => s) a.length (fun s => 0 ≤ s ∧ s ≤ a.length ∧ ∀ i : Nat, (i : Int) < s → a.getD i 0 = b.getD i 0) ⟨by omega, by omega, fun i hi => by omega⟩ ?_
  rintro x ⟨h1, h2, h3⟩
  unfold m_laws_likeInts_l0
  refine W.condP (fun h' => W.chk (by omega) (W.chk (by omega) (W.condNe (fun hn => W.some (W.some (bad fun e => hn (by rw [e])))) (fun he => W.some ?_)))) (fun h' => W.some ?_)
  · simp only
    rw [w64 (by omega)]
    refine ⟨⟨by omega, by omega, fun i hi => ?_⟩, by omega, by omega⟩
    by_cases e : (i : Int) = x
    · have : i = x.toNat := by omega
      subst this; exact he
    · exact h3 i (by omega)
  · simp only [if_true]
    refine W.some ?_
    simp only [true_iff]
    have e1 := eq_tabL (n := (a.length : Int)) (f := fun i => b.getD i 0) (l := a) rfl fun i hi => h3 i (by omega)
    have e2 := eq_tabL (n := (a.length : Int)) (f := fun i => b.getD i 0) (l := b) (by omega) fun i hi => rfl
    rw [e1, ← e2]

theorem cell_mod {a d p : Int} : (a % p * d) % p = (a * d) % p := by rw [Int.mul_emod, Int.emod_emod, ← Int.mul_emod]

/-- Products of sums are distributive. -/
theorem times_add {q : Sq} {p : Int} (L : Latin q) (hp : Pr p) (a b d : List Int) : timesL q p (addL q.order p a b) d = addL q.order p (timesL q p a d) (timesL q p b d) := by
  have n1 := L.n1
  have pl := hp.le
  refine tabL_congr (fun z hz => ?_) (by omega)
  unfold timesL
  rw [tabL_getD hz, tabL_getD hz]
  unfold conv
  rw [← Int.add_emod, ← sumN_add]
  refine sumN_mod fun x hx => ?_
  unfold rowG
  rw [← sumN_add]
  refine sumN_mod fun y hy => ?_
  by_cases e : (q.t x y).toNat = z
  · simp only [if_pos e]
    have ea : fn (addL q.order p a b) x = (fn a x + fn b x) % p := by unfold fn addL; exact tabL_getD (by omega)
    rw [ea, cell_mod, Int.add_mul]
  · simp only [if_neg e]; rfl

/-- Augmentations are multiplicative. -/
theorem aug_mul {q : Sq} {p : Int} (L : Latin q) (hp : Pr p) {a b : List Int} (ha : SumP q.order p a) (hb : SumP q.order p b) : augL p (timesL q p a b) = (augL p a * augL p b) % p := by
  have n1 := L.n1
  have pl := hp.le
  have la : a.length = q.order.toNat := by have := ha.len; omega
  have lb : b.length = q.order.toNat := by have := hb.len; omega
  have lt : (timesL q p a b).length = q.order.toNat := by have := (timesL_sum L hp a b).len; omega
  unfold augL
  rw [la, lb, lt]
  have e1 : sumN (fn (timesL q p a b)) q.order.toNat % p = sumN (fun z => sumN (fun x => rowG q (fn a) (fn b) z x q.order.toNat) q.order.toNat) q.order.toNat % p := by
    refine sumN_mod fun z hz => ?_
    have : fn (timesL q p a b) z = conv q p (fn a) (fn b) z := by unfold fn timesL; exact tabL_getD (by omega)
    rw [this]; unfold conv; exact Int.emod_emod _ _
  have e2 : sumN (fun z => sumN (fun x => rowG q (fn a) (fn b) z x q.order.toNat) q.order.toNat) q.order.toNat = sumN (fn a) q.order.toNat * sumN (fn b) q.order.toNat := by
    rw [sumN_swap]
    have : ∀ x, x < q.order.toNat → sumN (fun z => rowG q (fn a) (fn b) z x q.order.toNat) q.order.toNat = fn a x * sumN (fn b) q.order.toNat := fun x hx => by
      unfold rowG
      rw [sumN_swap, ← sumN_mul']
      refine sumN_congr fun y hy => ?_
      have := L.lt (x := x) (y := y) (by omega) (by omega)
      exact sumN_one (by omega)
    rw [sumN_congr this, sumN_mul]
  rw [e1, e2, Int.mul_emod]

/-! ## Draws -/
section
variable {l : List Int} (hl : Code l)
include hl
theorem l04DrawLoop_W {s : Rng} (hs : SrcOk l s) : W (m_spec_l04DrawLoop s l) fun r => SqOk r.1 ∧ SrcOk l r.2 := by
  unfold m_spec_l04DrawLoop
  refine W.call (l01Next_W hl hs _ (by omega)) fun r1 h1 => W.cond (fun _ => ?_) (fun _ => ?_)
  · exact W.call (l01Spoil_W hl h1.1) fun r2 h2 => W.some h2
  · exact W.call (l01Draw_W hl h1.1) fun r2 h2 => W.some ⟨⟨by have := h2.1.n1; simp only; omega, by have := h2.1.n10; simp only; omega, h2.1.byt⟩, h2.2⟩
theorem l10DrawSum_W {s : Rng} (hs : SrcOk l s) {n p : Int} (hn : n ≤ 11) (hp : p ≤ 100) : W (m_spec_l10DrawSum s l n p) fun r => r.1.length ≤ 11 ∧ SrcOk l r.2 := by
  unfold m_spec_l10DrawSum
  refine W.upto (fun t => t.2.1) n (fun t => 0 ≤ t.2.1 ∧ (t.2.1 ≤ n ∨ t.2.1 = 0) ∧ (t.1.length : Int) = t.2.1 ∧ SrcOk l t.2.2) ⟨by simp, by simp, by simp, hs⟩ ?_
  rintro ⟨x1, x2, x3⟩ ⟨h1, h2, h3, h4⟩
  simp only at h1 h2 h3 h4
  unfold m_spec_l10DrawSum_l0
  refine W.condP (fun h => ?_) (fun h => W.some (W.some ⟨by simp only; omega, h4⟩))
  refine W.call (l01Next_W hl h4 _ (by omega)) fun r1 k1 => W.call (l01Next_W hl k1.1 _ (by omega)) fun r2 k2 => W.chk (by omega) (W.some ?_)
  simp only
  rw [w64 (n := x2 + 1) (by omega)]
  exact ⟨⟨by omega, by omega, by simp; omega, k2.1⟩, by omega, by omega⟩
theorem l10Draw_W {s : Rng} (hs : SrcOk l s) {c : Int} (hc0 : 0 ≤ c) (hc : c ≤ 10) : W (m_spec_l10Draw s l c) fun r => SqOk r.1 ∧ (1 ≤ r.2.1 ∧ r.2.1 ≤ 11) ∧ (r.2.2.1.length : Int) = c ∧ (∀ i : Nat, i < r.2.2.1.length → (r.2.2.1.getD i []).length ≤ 12) ∧ SrcOk l r.2.2.2 := by
  unfold m_spec_l10Draw
  refine W.call (l04DrawLoop_W hl hs) fun r1 k1 => W.call (l01Pick_W hl k1.2 _ (by simp) (by simp)) fun r2 k2 => ?_
  have d := k2.2
  simp only [List.mem_cons, List.not_mem_nil, or_false] at d
  have o1 := k1.1.o1
  refine W.loop (fun t => 0 ≤ t.1 ∧ t.1 ≤ c ∧ (t.2.1.length : Int) + t.1 = c ∧ (∀ i : Nat, i < t.2.1.length → (t.2.1.getD i []).length ≤ 11) ∧ SrcOk l t.2.2) (fun t => t.1.toNat) ⟨by simp only; omega, by simp, by simp, by simp, k2.1⟩ ?_
  rintro ⟨x, ll, s'⟩ ⟨h1, h2, h3, h4, h5⟩
  simp only at h1 h2 h3 h4 h5
  unfold m_spec_l10Draw_l0
  refine W.condP (fun h => ?_) (fun h => W.some ?_)
  · refine W.call (l10DrawSum_W hl h5 (by omega) (by omega)) fun r3 k3 => W.chk (by omega) (W.some ?_)
    simp only
    rw [w64 (by omega)]
    refine ⟨⟨by omega, by omega, by simp; omega, fun i hi => ?_, k3.2⟩, by omega⟩
    rw [getD_snoc]
    split
    · exact h4 i (by omega)
    · split
      · exact k3.1
      · simp
  · simp only [if_true]
    have L : (ll.length : Int) = c := by omega
    have h4' : ∀ i : Nat, i < ll.length → (ll.getD i []).length ≤ 12 := fun i hi => by have := h4 i hi; omega
    have pp : 1 ≤ r2.1 ∧ r2.1 ≤ 11 := by omega
    refine W.call (l01Next_W hl h5 _ (by omega)) fun r4 k4 => ?_
    refine W.cond (fun _ => ?_) (fun _ => W.cond (fun _ => W.condP (fun hp => ?_) (fun _ => W.some ⟨k1.1, pp, L, h4', k4.1⟩)) (fun _ => W.cond (fun _ => W.condP (fun hp => ?_) (fun _ => W.some ⟨k1.1, pp, L, h4', k4.1⟩)) (fun _ => W.some ⟨k1.1, pp, L, h4', k4.1⟩)))
    · refine W.call (l01Pick_W hl k4.1 _ (by simp) (by simp)) fun r5 k5 => ?_
      have d := k5.2
      simp only [List.mem_cons, List.not_mem_nil, or_false] at d
      exact W.some ⟨k1.1, by simp only; omega, L, h4', k5.1⟩
    · have h0 := h4 0 (by omega)
      refine W.chk (by omega) (W.chk (by omega) (W.chk (by omega) (W.some ⟨k1.1, pp, by simpa using L, fun i hi => ?_, k4.1⟩)))
      simp only at hi ⊢
      rw [getD_set (by omega)]
      split
      · rw [List.length_append, List.length_cons, List.length_nil]; omega
      · exact h4' i (by simpa using hi)
    · refine W.chk (by omega) (W.condP (fun hq => W.chk (by omega) (W.chk (by omega) (W.some ⟨k1.1, pp, by simpa using L, fun i hi => ?_, k4.1⟩))) (fun _ => W.some ⟨k1.1, pp, L, h4', k4.1⟩))
      simp only at hi ⊢
      rw [getD_set (by omega)]
      split
      · have := h4' 0 (by omega); simpa using this
      · exact h4' i (by simpa using hi)
theorem DrawMultiplySums_W : W (m_spec_DrawMultiplySums l) fun r => Byt r.1.t ∧ (1 ≤ r.2.1 ∧ r.2.1 ≤ 11) ∧ r.2.2.1.length ≤ 12 ∧ r.2.2.2.length ≤ 12 := by
  unfold m_spec_DrawMultiplySums m_spec_l10Two
  exact W.call (W.call (l01From_W hl) fun s hs => W.call (l10Draw_W hl hs (c := 2) (by omega) (by omega)) fun r k => W.chk (by have := k.2.2.1; omega) (W.chk (by have := k.2.2.1; omega) (W.some (show Byt r.1.t ∧ (1 ≤ r.2.1 ∧ r.2.1 ≤ 11) ∧ (r.2.2.1.getD 0 []).length ≤ 12 ∧ (r.2.2.1.getD 1 []).length ≤ 12 from ⟨k.1.byt, k.2.1, k.2.2.2.1 0 (by have := k.2.2.1; omega), k.2.2.2.1 1 (by have := k.2.2.1; omega)⟩)))) fun r k => W.some k
theorem DrawPowerOfSum_W : W (m_spec_DrawPowerOfSum l) fun r => Byt r.1.t ∧ (1 ≤ r.2.1 ∧ r.2.1 ≤ 11) ∧ r.2.2.1.length ≤ 12 ∧ -1 ≤ r.2.2.2 ∧ r.2.2.2 ≤ 1001 := by
  unfold m_spec_DrawPowerOfSum m_spec_l10One
  refine W.call (l01From_W hl) fun s hs => W.call (R := fun r => Byt r.1.t ∧ (1 ≤ r.2.1 ∧ r.2.1 ≤ 11) ∧ r.2.2.length ≤ 12) (W.call (l01From_W hl) fun s hs => W.call (l10Draw_W hl hs (c := 1) (by omega) (by omega)) fun r k => W.chk (by have := k.2.2.1; omega) (W.some ⟨k.1.byt, k.2.1, k.2.2.2.1 0 (by have := k.2.2.1; omega)⟩)) fun r2 k2 => ?_
  refine W.call (l01Next_W hl hs _ (by omega)) fun r3 k3 => W.call (l01Next_W hl k3.1 _ (by omega)) fun r4 k4 => W.call (l01Next_W hl k4.1 _ (by omega)) fun r5 k5 => W.call (l01Pick_W hl k5.1 _ (by simp) (by simp)) fun r6 k6 => W.some ⟨k2.1, k2.2.1, k2.2.2, ?_⟩
  have d := k6.2
  have a := k3.2.1 (by omega); have b := k4.2.1 (by omega); have c := k5.2.1 (by omega)
  simp only [List.mem_cons, List.not_mem_nil, or_false] at d ⊢
  omega
theorem roll_W (k : Int) : W (m_laws_roll l k) (SrcOk l) := by
  have := hl.len
  unfold m_laws_roll
  refine W.upto (fun s => s.1) l.length (fun s => 0 ≤ s.1 ∧ s.1 ≤ l.length ∧ SrcOk l s.2) ⟨by simp, by simp, by simp, by simp, (wu64_lt _).1, (wu64_lt _).2⟩ ?_
  rintro ⟨x1, x2⟩ ⟨h1, h2, h3⟩
  simp only at h1 h2 h3
  unfold m_laws_roll_l0
  refine W.condP (fun h => ?_) (fun h => W.some (W.some h3))
  refine W.chk (by omega) (W.some ?_)
  simp only
  rw [w64 (by omega)]
  exact ⟨⟨by omega, by omega, h3.lo, h3.hi, (wu64_lt _).1, (wu64_lt _).2⟩, by omega, by omega⟩
theorem below_W {s : Rng} (hs : SrcOk l s) (n : Int) (hn : n ≤ 1099511627776) : W (m_laws_dice_below s l n) fun r => SrcOk l r.2 ∧ (1 ≤ n → 0 ≤ r.1 ∧ r.1 < n) ∧ (n < 1 → r.1 = 0) := l01Next_W hl hs n hn
theorem sum9_W {s : Rng} (hs : SrcOk l s) {n p : Int} (hn0 : 0 ≤ n) (hn : n ≤ 10) (hp : Pr p) : W (m_laws_sum9 s l n p) fun r => SumP n p r.1 := by
  have pl := hp.le
  unfold m_laws_sum9
  refine W.upto (fun t => t.2.1) n (fun t => 0 ≤ t.2.1 ∧ t.2.1 ≤ n ∧ (t.1.length : Int) = t.2.1 ∧ (∀ i : Nat, (i : Int) < t.2.1 → 0 ≤ t.1.getD i 0 ∧ t.1.getD i 0 ≤ p - 1) ∧ SrcOk l t.2.2) ⟨by simp, by simp only; omega, by simp, fun i hi => by simp only at hi; omega, hs⟩ ?_
  rintro ⟨x1, x2, x3⟩ ⟨h1, h2, h3, h4, h5⟩
  simp only at h1 h2 h3 h4 h5
  unfold m_laws_sum9_l0
  refine W.condP (fun h => ?_) (fun h => W.some (W.some ⟨by simp only; omega, fun i hi => h4 i (by omega)⟩))
  refine W.call (below_W hl h5 _ (by omega)) fun r1 k1 => W.chk (by omega) (W.some ?_)
  have := k1.2.1 (by omega)
  simp only
  rw [w64 (by omega)]
  refine ⟨⟨by omega, by omega, by simp; omega, fun i hi => ?_, k1.1⟩, by omega, by omega⟩
  rw [getD_snocI]
  split
  · exact h4 i (by omega)
  · rw [if_pos (by omega)]; omega
end

theorem SumP.short {n p : Int} {a : List Int} (h : SumP n p a) (hn : n ≤ 10) : a.length ≤ 1000000 := by have := h.len; omega
theorem codeOf0 {q : Sq} {p : Int} {ls : List (List Int)} {c : Int} (h : CodeOf q p ls c) (h0 : CodeOf q p ls 0) : c = 0 := h.eq h0

theorem FnSums_W {l : List Int} (hl : Code l) : W (m_laws_FnSums l) fun r => r = true := by
  have ne : ∀ {α : Type} {a : α} {P : Prop}, a ≠ a → P := fun h => absurd rfl h
  unfold m_laws_FnSums m_laws_big
  refine W.call (W.some rfl) fun b hb => W.cond (fun _ => W.some rfl) (fun _ => ?_)
  refine W.call (DrawMultiplySums_W hl) fun r2 h2 => ?_
  obtain ⟨bq, bp, ba, bb⟩ := h2
  have bp' : -1000 ≤ r2.2.1 ∧ r2.2.1 ≤ 1000 := by omega
  have ba' : r2.2.2.1.length ≤ 1000000 := by omega
  have bb' : r2.2.2.2.length ≤ 1000000 := by omega
  refine W.call (MultiplySums_W bq bp' ba' bb') fun r3 h3 => W.call (spec_MultiplySums_W bq bp' ba' bb') fun r4 h4 => ?_
  have e := h3.eq h4; subst e
  have len3 : r3.1.length ≤ 1000000 := by
    rcases h3 with ⟨c, _, _, e⟩ | ⟨x, e⟩
    · rw [e]; simp
    · obtain ⟨L, P, A, B⟩ := code2 x
      rw [e]; exact (timesL_sum L.toLatin P _ _).short L.n10
  refine W.condNe ne (fun _ => W.call (likeInts_W len3 len3) fun b5 h5 => W.condNot (fun e => absurd (h5.2 rfl) (ne_true_of_false e)) (fun _ => ?_))
  refine W.call (AddSums_W bq bp' ba' bb') fun r6 h6 => W.call (spec_AddSums_W bq bp' ba' bb') fun r7 h7 => ?_
  have e := h6.eq h7; subst e
  have len6 : r6.1.length ≤ 1000000 := by
    rcases h6 with ⟨c, _, _, e⟩ | ⟨x, e⟩
    · rw [e]; simp
    · obtain ⟨L, P, A, B⟩ := code2 x
      rw [e]; exact (addL_sum (by have := L.n1; omega) P _ _).short L.n10
  refine W.condNe ne (fun _ => W.call (likeInts_W len6 len6) fun b8 h8 => W.condNot (fun e => absurd (h8.2 rfl) (ne_true_of_false e)) (fun _ => ?_))
  refine W.call (DrawPowerOfSum_W hl) fun r9 h9 => ?_
  obtain ⟨cq, cp, ca, ck⟩ := h9
  have cp' : -1000 ≤ r9.2.1 ∧ r9.2.1 ≤ 1000 := by omega
  have ca' : r9.2.2.1.length ≤ 1000000 := by omega
  refine W.call (PowerOfSum_W cq cp' ca' _) fun r10 h10 => W.call (spec_PowerOfSum_W cq cp' ca' _) fun r11 h11 => ?_
  have e := h10.eq h11; subst e
  have len10 : r10.1.length ≤ 1000000 := by
    rcases h10 with ⟨c, _, _, e⟩ | ⟨_, _, e⟩ | ⟨x, _, _, e⟩
    · rw [e]; simp
    · rw [e]; simp
    · obtain ⟨L, P, A⟩ := code1 x
      rw [e]; exact (powL_sum L.toLatin P _ _).short L.n10
  refine W.condNe ne (fun _ => W.call (likeInts_W len10 len10) fun b12 h12 => W.condNot (fun e => absurd (h12.2 rfl) (ne_true_of_false e)) (fun _ => ?_))
  refine W.call (AugmentationOf_W bq bp' ba') fun r13 h13 => W.call (spec_AugmentationOf_W bq bp' ba') fun r14 h14 => ?_
  have e := h13.eq h14; subst e
  refine W.condNe ne (fun _ => W.condNe ne (fun _ => ?_))
  -- what comes last
  have tail : W (_root_.cond (r3.2 != 0) (some (((r3.1.length : Nat) : Int) == 0)) ((m_impl_AugmentationOf r2.1 r2.2.1 r2.2.2.2).bind fun r18 => ((m_impl_AugmentationOf r2.1 r2.2.1 r3.1).bind fun r19 => ((m_laws_roll l 9711).bind fun r20 => ((m_laws_sum9 r20 l r2.1.order r2.2.1).bind fun r21 => ((m_impl_MultiplySums r2.1 r2.2.1 r6.1 r21.1).bind fun r22 => ((m_impl_MultiplySums r2.1 r2.2.1 r2.2.2.1 r21.1).bind fun r23 => ((m_impl_MultiplySums r2.1 r2.2.1 r2.2.2.2 r21.1).bind fun r24 => ((m_impl_AddSums r2.1 r2.2.1 r23.1 r24.1).bind fun r25 => (_root_.cond (r18.2 == 0) (_root_.cond (r19.2 == 0) (if r2.2.1 ≠ 0 then (_root_.cond (r19.1 == ((IntKind.i64.wrap (r13.1 * r18.1)).tmod r2.2.1)) (_root_.cond (r22.2 == 0) (_root_.cond (r23.2 == 0) (_root_.cond (r24.2 == 0) (_root_.cond (r25.2 == 0) ((m_laws_likeInts r22.1 r25.1).bind fun r26 => some r26) (some false)) (some false)) (some false)) (some false)) (some false)) else none) (some false)) (some false))))))))))) fun r => r = true := by
    rcases h3 with ⟨c, _, hc, e⟩ | ⟨x, e3⟩
    · rw [e]; exact W.condNe (fun _ => W.some rfl) (fun h => absurd h hc)
    obtain ⟨L, P, A, B⟩ := code2 x
    have pl := P.le; have n1 := L.n1; have n10 := L.n10
    subst e3
    have T := timesL_sum L.toLatin P r2.2.2.1 r2.2.2.2
    refine W.condNe ne (fun _ => W.call (AugmentationOf_W bq bp' bb') fun r18 h18 => W.call (AugmentationOf_W bq bp' (T.short n10)) fun r19 h19 => ?_)
    have v13 : r13 = (augL r2.2.1 r2.2.2.1, 0) := by
      rcases h13 with ⟨c, y, hc, e⟩ | ⟨y, e⟩
      · exact absurd (codeOf0 y (code1_of L P A)) hc
      · exact e
    have v18 : r18 = (augL r2.2.1 r2.2.2.2, 0) := by
      rcases h18 with ⟨c, y, hc, e⟩ | ⟨y, e⟩
      · exact absurd (codeOf0 y (code1_of L P B)) hc
      · exact e
    have v19 : r19 = (augL r2.2.1 (timesL r2.1 r2.2.1 r2.2.2.1 r2.2.2.2), 0) := by
      rcases h19 with ⟨c, y, hc, e⟩ | ⟨y, e⟩
      · exact absurd (codeOf0 y (code1_of L P T)) hc
      · exact e
    have v6 : r6 = (addL r2.1.order r2.2.1 r2.2.2.1 r2.2.2.2, 0) := by
      rcases h6 with ⟨c, y, hc, e⟩ | ⟨y, e⟩
      · exact absurd (codeOf0 y (code2_of L P A B)) hc
      · exact e
    subst v13; subst v18; subst v19; subst v6
    refine W.call (roll_W hl _) fun r20 h20 => W.call (sum9_W hl h20 (by omega) n10 P) fun r21 D => ?_
    have S := addL_sum (n := r2.1.order) (by omega) P r2.2.2.1 r2.2.2.2
    refine W.call (MultiplySums_W bq bp' (S.short n10) (D.short n10)) fun r22 h22 => W.call (MultiplySums_W bq bp' ba' (D.short n10)) fun r23 h23 => W.call (MultiplySums_W bq bp' bb' (D.short n10)) fun r24 h24 => ?_
    have mul : ∀ {u v : List Int} {r : List Int × Int}, SumP r2.1.order r2.2.1 u → SumP r2.1.order r2.2.1 v → MulOf r2.1 r2.2.1 u v r → r = (timesL r2.1 r2.2.1 u v, 0) := fun hu hv h => by
      rcases h with ⟨c, y, hc, e⟩ | ⟨y, e⟩
      · exact absurd (codeOf0 y (code2_of L P hu hv)) hc
      · exact e
    have v22 := mul S D h22; have v23 := mul A D h23; have v24 := mul B D h24
    subst v22; subst v23; subst v24
    have T1 := timesL_sum L.toLatin P r2.2.2.1 r21.1; have T2 := timesL_sum L.toLatin P r2.2.2.2 r21.1; have T3 := timesL_sum L.toLatin P (addL r2.1.order r2.2.1 r2.2.2.1 r2.2.2.2) r21.1
    refine W.call (AddSums_W bq bp' (T1.short n10) (T2.short n10)) fun r25 h25 => ?_
    have v25 : r25 = (addL r2.1.order r2.2.1 (timesL r2.1 r2.2.1 r2.2.2.1 r21.1) (timesL r2.1 r2.2.1 r2.2.2.2 r21.1), 0) := by
      rcases h25 with ⟨c, y, hc, e⟩ | ⟨y, e⟩
      · exact absurd (codeOf0 y (code2_of L P T1 T2)) hc
      · exact e
    subst v25
    have S2 := addL_sum (n := r2.1.order) (by omega) P (timesL r2.1 r2.2.1 r2.2.2.1 r21.1) (timesL r2.1 r2.2.1 r2.2.2.2 r21.1)
    have a1 := Int.emod_nonneg (sumN (fn r2.2.2.1) r2.2.2.1.length) (show r2.2.1 ≠ 0 by omega)
    have a2 := Int.emod_lt_of_pos (sumN (fn r2.2.2.1) r2.2.2.1.length) (show 0 < r2.2.1 by omega)
    have b1 := Int.emod_nonneg (sumN (fn r2.2.2.2) r2.2.2.2.length) (show r2.2.1 ≠ 0 by omega)
    have b2 := Int.emod_lt_of_pos (sumN (fn r2.2.2.2) r2.2.2.2.length) (show 0 < r2.2.1 by omega)
    have m := mul36 (a := augL r2.2.1 r2.2.2.1) (b := augL r2.2.1 r2.2.2.2) a1 (by unfold augL; omega) b1 (by unfold augL; omega)
    refine W.condEq (fun _ => W.condEq (fun _ => W.chk (by omega) (W.condEq (fun _ => W.condEq (fun _ => W.condEq (fun _ => W.condEq (fun _ => W.condEq (fun _ => ?_) ne) ne) ne) ne) (fun h => absurd ?_ h))) ne) ne
    · exact W.call (likeInts_W (T3.short n10) (S2.short n10)) fun b26 h26 => W.some (h26.2 (times_add L.toLatin P _ _ _))
    · simp only
      rw [w64 (by omega), Int.tmod_eq_emod_of_nonneg m.1]
      exact aug_mul L.toLatin P A B
  refine W.condEq (fun h => W.condP (fun hk => ?_) (fun _ => tail)) (fun _ => tail)
  rcases h10 with ⟨c, _, hc, e⟩ | ⟨_, _, e⟩ | ⟨x, k0, k1, e⟩
  · rw [e] at h; exact absurd h hc
  · rw [e] at h; exact absurd h (by decide)
  subst e
  obtain ⟨L, P, A⟩ := code1 x
  have n10 := L.n10
  have T := powL_sum L.toLatin P r9.2.2.1 r9.2.2.2.toNat
  rw [w64 (n := r9.2.2.2 + 1) (by omega)]
  refine W.call (PowerOfSum_W cq cp' ca' _) fun r15 h15 => W.call (MultiplySums_W cq cp' (T.short n10) ca') fun r16 h16 => ?_
  have v15 : r15 = (powL r9.1 r9.2.1 r9.2.2.1 (r9.2.2.2.toNat + 1), 0) := by
    rcases h15 with ⟨c, y, hc, e⟩ | ⟨_, hk', e⟩ | ⟨y, _, _, e⟩
    · exact absurd (codeOf0 y x) hc
    · exact absurd ⟨by omega, by omega⟩ hk'
    · rw [e]; congr 2; omega
  have v16 : r16 = (timesL r9.1 r9.2.1 (powL r9.1 r9.2.1 r9.2.2.1 r9.2.2.2.toNat) r9.2.2.1, 0) := by
    rcases h16 with ⟨c, y, hc, e⟩ | ⟨y, e⟩
    · exact absurd (codeOf0 y (code2_of L P T A)) hc
    · exact e
  subst v15; subst v16
  have T' := timesL_sum L.toLatin P (powL r9.1 r9.2.1 r9.2.2.1 r9.2.2.2.toNat) r9.2.2.1
  exact W.condNe ne (fun _ => W.condNe ne (fun _ => W.call (likeInts_W (T'.short n10) (T'.short n10)) fun b17 h17 => W.condNot (fun e => absurd (h17.2 rfl) (ne_true_of_false e)) (fun _ => tail)))
end Go.Pu
