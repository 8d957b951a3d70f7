/- Plain laws, the first part: words on numbers, what an Option yields, loops, permutations of small numbers. -/
import Derived.Test.YthhgemlaiekjpaaA
import Derived.Test.YthhgemlaiekjpaaM
set_option linter.unusedVariables false
set_option linter.unusedSimpArgs false
namespace Go.Pu
open Go Go.Abs

/-! ## Numbers -/
theorem w64 {n : Int} (h : -9223372036854775808 ≤ n ∧ n ≤ 9223372036854775807) : IntKind.i64.wrap n = n := by
  have e : IntKind.i64.bits = 64 := rfl
  have s : IntKind.i64.signed = true := rfl
  simp only [IntKind.wrap, e, s, Bool.true_and, decide_eq_true_eq]
  split <;> omega
theorem w8 {n : Int} (h : 0 ≤ n ∧ n ≤ 255) : IntKind.u8.wrap n = n := by
  have e : IntKind.u8.bits = 8 := rfl
  have s : IntKind.u8.signed = false := rfl
  simp only [IntKind.wrap, e, s, Bool.false_and]
  rw [if_neg (by simp)]
  omega
theorem w8_lt (n : Int) : 0 ≤ IntKind.u8.wrap n ∧ IntKind.u8.wrap n ≤ 255 := by
  have e : IntKind.u8.bits = 8 := rfl
  have s : IntKind.u8.signed = false := rfl
  simp only [IntKind.wrap, e, s, Bool.false_and]
  rw [if_neg (by simp)]
  omega
theorem w8_eq (n : Int) : IntKind.u8.wrap n = n % 256 := by
  have e : IntKind.u8.bits = 8 := rfl
  have s : IntKind.u8.signed = false := rfl
  simp only [IntKind.wrap, e, s, Bool.false_and]
  rw [if_neg (by simp)]
  omega
theorem wu64_lt (n : Int) : 0 ≤ IntKind.u64.wrap n ∧ IntKind.u64.wrap n ≤ 18446744073709551615 := by
  have e : IntKind.u64.bits = 64 := rfl
  have s : IntKind.u64.signed = false := rfl
  simp only [IntKind.wrap, e, s, Bool.false_and]
  rw [if_neg (by simp)]
  omega
theorem wu64 {n : Int} (h : 0 ≤ n ∧ n ≤ 18446744073709551615) : IntKind.u64.wrap n = n := by
  have e : IntKind.u64.bits = 64 := rfl
  have s : IntKind.u64.signed = false := rfl
  simp only [IntKind.wrap, e, s, Bool.false_and]
  rw [if_neg (by simp)]
  omega
theorem ne_true_of_false {b : Bool} (h : b = false) : ¬ b = true := by simp [h]

/-! ## What an Option yields -/
def W {α : Type} (m : Option α) (Q : α → Prop) : Prop := ∃ r, m = some r ∧ Q r
section
variable {α β σ ρ : Type} {Q : α → Prop}
theorem W.some {r : α} (h : Q r) : W (some r) Q := ⟨r, rfl, h⟩
theorem W.bind {m : Option β} {f : β → Option α} (h : W m fun b => W (f b) Q) : W (m.bind f) Q := by
  obtain ⟨b, e, r, e2, q⟩ := h
  exact ⟨r, by rw [e]; exact e2, q⟩
theorem W.mono {m : Option α} {Q' : α → Prop} (h : W m Q') (k : ∀ r, Q' r → Q r) : W m Q := by
  obtain ⟨r, e, q⟩ := h
  exact ⟨r, e, k r q⟩
/-- a step that is known, then the rest -/
theorem W.call {m : Option β} {f : β → Option α} {R : β → Prop} (h : W m R) (k : ∀ b, R b → W (f b) Q) : W (m.bind f) Q := W.bind (h.mono k)
theorem W.chk {p : Prop} [Decidable p] {x : Option α} (h : p) (k : W x Q) : W (if p then x else none) Q := by rw [if_pos h]; exact k
theorem W.cond {b : Bool} {x y : Option α} (ht : b = true → W x Q) (hf : b = false → W y Q) : W (cond b x y) Q := by
  cases b with
  | true => exact ht rfl
  | false => exact hf rfl
theorem W.condP {p : Prop} [Decidable p] {x y : Option α} (ht : p → W x Q) (hf : ¬ p → W y Q) : W (_root_.cond (decide p) x y) Q := by
  by_cases h : p
  · simp only [h, decide_true, cond_true]; exact ht h
  · simp only [h, decide_false, cond_false]; exact hf h
theorem W.condEq {γ : Type} [BEq γ] [LawfulBEq γ] {a c : γ} {x y : Option α} (ht : a = c → W x Q) (hf : a ≠ c → W y Q) : W (_root_.cond (a == c) x y) Q := by
  by_cases h : a = c
  · subst h; simp only [beq_self_eq_true, cond_true]; exact ht rfl
  · rw [beq_eq_false_iff_ne.2 h]; exact hf h
theorem W.condNe {γ : Type} [BEq γ] [LawfulBEq γ] {a c : γ} {x y : Option α} (ht : a ≠ c → W x Q) (hf : a = c → W y Q) : W (_root_.cond (a != c) x y) Q := by
  by_cases h : a = c
  · subst h; simp only [bne_self_eq_false, cond_false]; exact hf rfl
  · rw [bne_iff_ne.2 h]; exact ht h
theorem W.condNot {b : Bool} {x y : Option α} (ht : b = false → W x Q) (hf : b = true → W y Q) : W (_root_.cond (!b) x y) Q := by
  cases b with
  | true => exact hf rfl
  | false => exact ht rfl
theorem W.get {m : Option α} {r : α} (h : W m Q) (e : m = Option.some r) : Q r := by
  obtain ⟨r', e', q⟩ := h
  rw [e] at e'; cases e'; exact q
theorem W.eq {m : Option α} {r : α} (e : m = Option.some r) (h : Q r) : W m Q := ⟨r, e, h⟩
theorem W.and {m : Option α} {Q' : α → Prop} (h : W m Q) (h' : W m Q') : W m fun r => Q r ∧ Q' r := by
  obtain ⟨r, e, q⟩ := h
  exact ⟨r, e, q, h'.get e⟩

/-- A loop and what comes behind it: 'I' holds at each head, 'm' goes down. -/
theorem W.loop {step : σ → Option (Out σ ρ)} {k : Out σ ρ → Option α} {s : σ} (I : σ → Prop) (m : σ → Nat) (hi : I s)
    (h : ∀ s, I s → W (step s) fun o => match o with | .next s' => I s' ∧ m s' < m s | .stop s' id => W (k (.stop s' id)) Q | .ret r => W (k (.ret r)) Q) :
    W ((loopV step s).bind k) Q := by
  have := loopV_inv (step := step) I m (fun o => W (k o) Q) (fun s hs => by
    obtain ⟨o, e, q⟩ := h s hs
    cases o with
    | next s' => exact .inl ⟨s', e, q⟩
    | stop s' id => exact .inr ⟨_, e, by simp, q⟩
    | ret r => exact .inr ⟨_, e, by simp, q⟩) hi
  obtain ⟨o, e, q⟩ := this
  exact W.bind ⟨o, e, q⟩

/-- A loop that counts a number up to 'n'. -/
theorem W.upto {step : σ → Option (Out σ ρ)} {k : Out σ ρ → Option α} {s : σ} (c : σ → Int) (n : Int) (I : σ → Prop) (hi : I s)
    (h : ∀ s, I s → W (step s) fun o => match o with | .next s' => I s' ∧ c s < c s' ∧ c s < n | .stop s' id => W (k (.stop s' id)) Q | .ret r => W (k (.ret r)) Q) :
    W ((loopV step s).bind k) Q := by
  refine W.loop I (fun s => (n - c s).toNat) hi fun s hs => ?_
  refine (h s hs).mono fun o q => ?_
  cases o with
  | next s' => exact ⟨q.1, by have := q.2; omega⟩
  | stop s' id => exact q
  | ret r => exact q
end

/-! ## Functions on small numbers -/
/-- 'f' leads the numbers below n to numbers below n. -/
def Into (n : Nat) (f : Nat → Nat) : Prop := ∀ i, i < n → f i < n
def Inj (n : Nat) (f : Nat → Nat) : Prop := ∀ i j, i < n → j < n → f i = f j → i = j
def Onto (n : Nat) (f : Nat → Nat) : Prop := ∀ v, v < n → ∃ i, i < n ∧ f i = v

theorem nodup_map {n : Nat} {f : Nat → Nat} (h : Inj n f) : ∀ {m : Nat}, m ≤ n → ((List.range m).map f).Nodup
  | 0, _ => by simp
  | m + 1, hm => by
    rw [List.range_succ, List.map_append, List.nodup_append]
    refine ⟨nodup_map h (by omega), by simp, ?_⟩
    intro a ha b hb
    simp only [List.map_cons, List.map_nil, List.mem_singleton] at hb
    obtain ⟨i, hi, rfl⟩ := List.mem_map.1 ha
    rw [List.mem_range] at hi
    subst hb
    intro e
    have := h i m (by omega) (by omega) e
    omega

theorem onto_of_inj {n : Nat} {f : Nat → Nat} (h1 : Into n f) (h2 : Inj n f) : Onto n f := by
  intro v hv
  by_cases hex : ∃ i, i < n ∧ f i = v
  · exact hex
  · exfalso
    have hnd : (v :: (List.range n).map f).Nodup := by
      rw [List.nodup_cons]
      refine ⟨?_, nodup_map h2 (Nat.le_refl _)⟩
      intro hm
      obtain ⟨i, hi, e⟩ := List.mem_map.1 hm
      exact hex ⟨i, List.mem_range.1 hi, e⟩
    have hsub : (v :: (List.range n).map f) ⊆ List.range n := by
      intro x hx
      rw [List.mem_cons] at hx
      rcases hx with rfl | hx
      · exact List.mem_range.2 hv
      · obtain ⟨i, hi, e⟩ := List.mem_map.1 hx
        subst e
        exact List.mem_range.2 (h1 i (List.mem_range.1 hi))
    have := hnd.length_le_of_subset hsub
    simp at this; omega

theorem inj_of_onto {n : Nat} {f : Nat → Nat} (h2 : Onto n f) : Inj n f := by
  intro i j hi hj e
  by_cases hij : i = j
  · exact hij
  · exfalso
    have hnd : (List.range n).Nodup := List.nodup_range
    have hsub : List.range n ⊆ ((List.range n).erase j).map f := by
      intro v hv
      obtain ⟨k, hk, ek⟩ := h2 v (List.mem_range.1 hv)
      by_cases hkj : k = j
      · subst hkj
        exact List.mem_map.2 ⟨i, (List.mem_erase_of_ne hij).2 (List.mem_range.2 hi), e.trans ek⟩
      · exact List.mem_map.2 ⟨k, (List.mem_erase_of_ne hkj).2 (List.mem_range.2 hk), ek⟩
    have := hnd.length_le_of_subset hsub
    rw [List.length_map, List.length_erase_of_mem (List.mem_range.2 hj)] at this
    simp at this
    omega

theorem perm_range {n : Nat} {f : Nat → Nat} (h1 : Into n f) (h2 : Inj n f) : ((List.range n).map f).Perm (List.range n) := by
  rw [List.perm_ext_iff_of_nodup (nodup_map h2 (Nat.le_refl _)) List.nodup_range]
  intro v
  constructor
  · intro hv
    obtain ⟨i, hi, e⟩ := List.mem_map.1 hv
    subst e
    exact List.mem_range.2 (h1 i (List.mem_range.1 hi))
  · intro hv
    obtain ⟨i, hi, e⟩ := onto_of_inj h1 h2 v (List.mem_range.1 hv)
    exact List.mem_map.2 ⟨i, List.mem_range.2 hi, e⟩
end Go.Pu

/- Plain laws: what draws a number, places. -/
namespace Go.Pu
open Go Go.Abs Go.Lab

/-- The code that came in. -/
structure Code (l : List Int) : Prop where
  len : l.length ≤ 4096
  byte : ∀ i, 0 ≤ l.getD i 0 ∧ l.getD i 0 ≤ 255

structure SrcOk (l : List Int) (s : Rng) : Prop where
  lo : 0 ≤ s.at_
  hi : s.at_ ≤ l.length
  h0 : 0 ≤ s.hash
  h1 : s.hash ≤ 18446744073709551615

theorem and_le (a b : Int) (hb : 0 ≤ b) (hb' : b < 9223372036854775808) : 0 ≤ bits .and .u64 a b ∧ bits .and .u64 a b ≤ b := by
  show 0 ≤ IntKind.u64.wrap ((BitVec.ofInt 64 a &&& BitVec.ofInt 64 b).toNat : Int) ∧ IntKind.u64.wrap ((BitVec.ofInt 64 a &&& BitVec.ofInt 64 b).toNat : Int) ≤ b
  have h1 : (BitVec.ofInt 64 a &&& BitVec.ofInt 64 b).toNat ≤ (BitVec.ofInt 64 b).toNat := by
    rw [BitVec.toNat_and]; exact Nat.and_le_right
  have h2 : ((BitVec.ofInt 64 b).toNat : Int) = b := by
    rw [BitVec.toNat_ofInt]; omega
  have h3 : 0 ≤ ((BitVec.ofInt 64 a &&& BitVec.ofInt 64 b).toNat : Int) ∧ ((BitVec.ofInt 64 a &&& BitVec.ofInt 64 b).toNat : Int) ≤ b := by omega
  rw [wu64 (by omega)]
  exact h3

section
variable {l : List Int} (hl : Code l)
include hl

theorem l01From_W : W (m_spec_l01From l) (SrcOk l) := by
  have := hl.len
  unfold m_spec_l01From
  refine W.upto (fun s => s.1) l.length (fun s => 0 ≤ s.1 ∧ s.1 ≤ l.length ∧ SrcOk l s.2) ⟨by simp, by simp, by simp, by simp, (wu64_lt _).1, (wu64_lt _).2⟩ ?_
  rintro ⟨x1, x2⟩ ⟨h1, h2, h3⟩
  simp only at h1 h2 h3
  unfold m_spec_l01From_l0
  refine W.condP (fun h => W.condP (fun h' => ?_) (fun h' => ?_)) (fun h => ?_)
  · refine W.chk (by omega) (W.some ?_)
    simp only
    rw [w64 (by omega)]
    exact ⟨⟨by omega, by omega, h3.lo, h3.hi, (wu64_lt _).1, (wu64_lt _).2⟩, by omega, by omega⟩
  · exact W.some (W.some h3)
  · exact W.some (W.some h3)

theorem l01Next_W {s : Rng} (hs : SrcOk l s) (n : Int) (hn : n ≤ 1099511627776) : W (m_spec_l01Next s l n) fun r => SrcOk l r.2 ∧ (1 ≤ n → 0 ≤ r.1 ∧ r.1 < n) ∧ (n < 1 → r.1 = 0) := by
  have := hl.len
  obtain ⟨a1, a2, a3, a4⟩ := hs
  unfold m_spec_l01Next
  refine W.condP (fun h => W.some ⟨⟨a1, a2, a3, a4⟩, by simp only; omega, by simp⟩) (fun h => ?_)
  have hb := hl.byte s.at_.toNat
  have hx := and_le (Int.fdiv (IntKind.u64.wrap (IntKind.u64.wrap (s.hash * 6364136223846793005) + 1442695040888963407)) (2 ^ min (33 : Int).toNat IntKind.u64.bits)) 16777215 (by omega) (by omega)
  refine W.condP (fun h' => ?_) (fun h' => ?_)
  · refine W.chk (by simp only at h' ⊢; omega) (W.chk (by omega) (W.some ?_))
    simp only at h' ⊢
    rw [w64 (n := bits _ _ _ _) (by omega), w64 (n := l.getD _ _) (by omega), w64 (n := bits _ _ _ _ + _) (by omega), w64 (n := s.at_ + 1) (by omega)]
    refine ⟨⟨by simp only; omega, by simp only; omega, (wu64_lt _).1, (wu64_lt _).2⟩, fun _ => ⟨Int.tmod_nonneg _ (by omega), Int.tmod_lt_of_pos _ (by omega)⟩, fun h => by omega⟩
  · refine W.chk (by omega) (W.some ?_)
    simp only at h' ⊢
    rw [w64 (n := bits _ _ _ _) (by omega)]
    refine ⟨⟨by simp only; omega, by simp only; omega, (wu64_lt _).1, (wu64_lt _).2⟩, fun _ => ⟨Int.tmod_nonneg _ (by omega), Int.tmod_lt_of_pos _ (by omega)⟩, fun h => by omega⟩

theorem l01Pick_W {s : Rng} (hs : SrcOk l s) (m : List Int) (h0 : 0 < m.length) (h1 : m.length ≤ 100) : W (m_spec_l01Pick s l m) fun r => SrcOk l r.2 ∧ r.1 ∈ m := by
  unfold m_spec_l01Pick
  refine W.call (l01Next_W hl hs _ (by omega)) fun r hr => ?_
  have := hr.2.1 (by omega)
  refine W.chk (by omega) (W.some ⟨hr.1, ?_⟩)
  simp only
  rw [List.getD_eq_getElem?_getD, List.getElem?_eq_getElem (by omega)]
  exact List.getElem_mem _

theorem l01Near_W {s : Rng} (hs : SrcOk l s) (m : Int) (h0 : 0 ≤ m) (h1 : m ≤ 1000) : W (m_spec_l01Near s l m) fun r => SrcOk l r.2 ∧ -4611686018427387904 ≤ r.1 ∧ r.1 ≤ 1099511627776 := by
  unfold m_spec_l01Near
  refine W.call (l01Next_W hl hs _ (by omega)) fun r hr => ?_
  rw [w64 (by omega)]
  refine W.cond (fun h => ?_) (fun h => ?_)
  · refine W.call (l01Pick_W hl hr.1 _ (by simp) (by simp)) fun r2 hr2 => W.some ⟨hr2.1, ?_⟩
    have := hr2.2
    simp only [List.mem_cons, List.not_mem_nil, or_false] at this ⊢
    omega
  · refine W.call (l01Next_W hl hr.1 _ (by omega)) fun r2 hr2 => W.some ⟨hr2.1, ?_⟩
    have := hr2.2.1 (by omega)
    simp only
    omega
end

/-! ## Places -/
/-- 'p' leads the numbers below n to numbers below n, no two to one. -/
structure PermP (n : Int) (p : Nat → Int) : Prop where
  lo : ∀ i : Nat, (i : Int) < n → 0 ≤ p i ∧ p i < n
  inj : ∀ i j : Nat, (i : Int) < n → (j : Int) < n → p i = p j → i = j

def Zt (n : Int) (p : Nat → Int) : Prop := ∀ i : Nat, n ≤ i → i < 10 → p i = 0
def ByP (p : Nat → Int) : Prop := ∀ i : Nat, i < 10 → 0 ≤ p i ∧ p i ≤ 255

theorem PermP.ext {n : Int} {p q : Nat → Int} (h : PermP n p) (e : ∀ i : Nat, (i : Int) < n → q i = p i) : PermP n q :=
  ⟨fun i hi => by rw [e i hi]; exact h.lo i hi, fun i j hi hj he => h.inj i j hi hj (by rw [← e i hi, ← e j hj, he])⟩
theorem PermP.byP {n : Int} {p : Nat → Int} (h : PermP n p) (hn : n ≤ 10) (z : Zt n p) : ByP p := fun i hi => by
  by_cases h' : (i : Int) < n
  · have := h.lo i h'; omega
  · rw [z i (by omega) hi]; omega

theorem fset_eq {α : Type} (f : Nat → α) (i : Nat) (v : α) (j : Nat) : fset f i v j = if j = i then v else f j := rfl

theorem l01Same_W {n : Int} (hn : n ≤ 10) : W (m_spec_l01Same n) fun p => (∀ i : Nat, (i : Int) < n → p i = i) ∧ ∀ i : Nat, n ≤ i → p i = 0 := by
  unfold m_spec_l01Same
  refine W.upto (fun s => s.1) n (fun s => 0 ≤ s.1 ∧ (s.1 ≤ n ∨ s.1 = 0) ∧ (∀ i : Nat, (i : Int) < s.1 → s.2 i = i) ∧ ∀ i : Nat, s.1 ≤ i → s.2 i = 0) ⟨by simp, by simp, by simp; omega, by simp [pl0]⟩ ?_
  rintro ⟨x1, x2⟩ ⟨h1, h2, h3, h4⟩
  simp only at h1 h2 h3 h4
  unfold m_spec_l01Same_l0
  refine W.condP (fun h => ?_) (fun h => ?_)
  · refine W.chk (by omega) (W.some ?_)
    simp only
    rw [w64 (by omega), w8 (by omega)]
    refine ⟨⟨by omega, by omega, fun i hi => ?_, fun i hi => ?_⟩, by omega, by omega⟩
    · rw [fset_eq]
      split
      · omega
      · exact h3 i (by omega)
    · rw [fset_eq, if_neg (by omega)]
      exact h4 i (by omega)
  · refine W.some (W.some ⟨fun i hi => h3 i (by omega), fun i hi => ?_⟩)
    exact h4 i (by omega)

theorem PermP.id {n : Int} {p : Nat → Int} (h : ∀ i : Nat, (i : Int) < n → p i = i) : PermP n p :=
  ⟨fun i hi => by rw [h i hi]; omega, fun i j hi hj e => by rw [h i hi, h j hj] at e; omega⟩

theorem PermP.swap {n : Int} {p : Nat → Int} (h : PermP n p) {a b : Nat} (ha : (a : Int) < n) (hb : (b : Int) < n) : PermP n (fset (fset p a (p b)) b (p a)) := by
  refine ⟨fun i hi => ?_, fun i j hi hj e => ?_⟩
  · simp only [fset_eq]
    split
    · exact h.lo a ha
    · split
      · exact h.lo b hb
      · exact h.lo i hi
  · simp only [fset_eq] at e
    have I := h.inj
    split at e <;> split at e <;> (try split at e) <;> (try split at e) <;> first
      | omega
      | (have := I _ _ ha hj e; omega)
      | (have := I _ _ hi ha e; omega)
      | (have := I _ _ hb hj e; omega)
      | (have := I _ _ hi hb e; omega)
      | (have := I _ _ ha hb e; omega)
      | (have := I _ _ hb ha e; omega)
      | (have := I _ _ hi hj e; omega)

section
variable {l : List Int} (hl : Code l)
include hl

theorem l01DrawPlaces_W {s : Rng} (hs : SrcOk l s) {n : Int} (hn : n ≤ 10) (hn0 : -1000 ≤ n) : W (m_spec_l01DrawPlaces s l n) fun r => PermP n r.1 ∧ Zt n r.1 ∧ SrcOk l r.2 := by
  unfold m_spec_l01DrawPlaces
  refine W.call (l01Same_W hn) fun p hp => ?_
  refine W.call (l01Next_W hl hs _ (by omega)) fun r hr => ?_
  refine W.cond (fun h => W.some ⟨PermP.id hp.1, fun i hi _ => hp.2 i hi, hr.1⟩) (fun h => ?_)
  rw [w64 (by omega)]
  refine W.loop (fun s => s.1 < n ∧ PermP n s.2.1 ∧ Zt n s.2.1 ∧ SrcOk l s.2.2) (fun s => s.1.toNat) ⟨by simp only; omega, PermP.id hp.1, fun i hi _ => hp.2 i hi, hr.1⟩ ?_
  rintro ⟨x1, x2, x3⟩ ⟨h1, h2, h3, h4⟩
  simp only at h1 h2 h3 h4
  unfold m_spec_l01DrawPlaces_l0
  refine W.condP (fun h => ?_) (fun h => W.some (W.some ⟨h2, h3, h4⟩))
  rw [w64 (by omega), w64 (by omega)]
  refine W.call (l01Next_W hl h4 _ (by omega)) fun r3 hr3 => ?_
  have := hr3.2.1 (by omega)
  refine W.chk (by omega) (W.chk (by omega) (W.chk (by omega) (W.chk (by omega) (W.some ⟨⟨by simp only; omega, ?_, ?_, hr3.1⟩, by simp only; omega⟩))))
  · exact h2.swap (by omega) (by omega)
  · intro i hi hi'
    simp only [fset_eq]
    rw [if_neg (by omega), if_neg (by omega)]
    exact h3 i hi hi'

theorem l01Any_W {s : Rng} (hs : SrcOk l s) : W (m_spec_l01Any s l) fun r => ByP r.1 ∧ -1 ≤ r.2.1 ∧ r.2.1 ≤ 11 ∧ SrcOk l r.2.2 := by
  unfold m_spec_l01Any
  refine W.call (l01Next_W hl hs _ (by omega)) fun r1 h1 => ?_
  have := h1.2.1 (by omega)
  rw [w64 (by omega), w64 (by omega)]
  refine W.call (l01DrawPlaces_W hl h1.1 (by omega) (by omega)) fun r2 h2 => ?_
  have hb := h2.1.byP (by omega) h2.2.1
  refine W.call (l01Next_W hl h2.2.2 _ (by omega)) fun r3 h3 => ?_
  refine W.cond (fun h => ?_) (fun h => W.cond (fun h => ?_) (fun h => W.some ⟨hb, by simp only; omega, by simp only; omega, h3.1⟩))
  · refine W.call (l01Next_W hl h3.1 _ (by omega)) fun r4 h4 => ?_
    have := h4.2.1 (by omega)
    refine W.call (l01Pick_W hl h4.1 _ (by simp) (by simp)) fun r5 h5 => ?_
    refine W.chk (by omega) (W.some ⟨fun i hi => ?_, by simp only; omega, by simp only; omega, h5.1⟩)
    simp only [fset_eq]
    split
    · exact w8_lt _
    · exact hb i hi
  · refine W.call (l01Pick_W hl h3.1 _ (by simp) (by simp)) fun r6 h6 => ?_
    have := h6.2
    simp only [List.mem_cons, List.not_mem_nil, or_false] at this
    exact W.some ⟨hb, by simp only; omega, by simp only; omega, h6.1⟩

theorem DrawThenPlaces_W : W (m_spec_DrawThenPlaces l) fun r => ByP r.1 ∧ ByP r.2.1 ∧ -1 ≤ r.2.2 ∧ r.2.2 ≤ 11 := by
  unfold m_spec_DrawThenPlaces
  refine W.call (l01From_W hl) fun s hs => ?_
  refine W.call (l01Any_W hl hs) fun r h => ?_
  refine W.call (l01Next_W hl h.2.2.2 _ (by omega)) fun r3 h3 => ?_
  refine W.cond (fun _ => ?_) (fun _ => ?_)
  · exact W.call (l01Any_W hl h3.1) fun r4 h4 => W.some ⟨h.1, h4.1, h.2.1, h.2.2.1⟩
  · have e : min2 r.2.1 10 ≤ 10 ∧ -1 ≤ min2 r.2.1 10 := by unfold min2; split <;> omega
    refine W.call (l01DrawPlaces_W hl h3.1 e.1 (by omega)) fun r5 h5 => W.some ⟨h.1, h5.1.byP e.1 h5.2.1, h.2.1, h.2.2.1⟩
end
end Go.Pu

/- Plain laws: permutations; what the program's and the reference's functions tell of them. -/
namespace Go.Pu
open Go Go.Abs Go.Lab

theorem or_i64 {a b : Nat} (ha : a < 2 ^ 62) (hb : b < 2 ^ 62) : bits .or .i64 (a : Int) (b : Int) = ((a ||| b : Nat) : Int) := by
  show IntKind.i64.wrap ((BitVec.ofInt 64 (a : Int) ||| BitVec.ofInt 64 (b : Int)).toNat : Int) = _
  have h : a ||| b < 2 ^ 62 := Nat.or_lt_two_pow ha hb
  have e1 : (BitVec.ofInt 64 (a : Int)).toNat = a := by rw [BitVec.toNat_ofInt]; omega
  have e2 : (BitVec.ofInt 64 (b : Int)).toNat = b := by rw [BitVec.toNat_ofInt]; omega
  rw [BitVec.toNat_or, e1, e2]
  exact w64 (by omega)
/-- one bit -/
theorem bit_i64 {v : Int} (h0 : 0 ≤ v) (h1 : v ≤ 60) : IntKind.i64.wrap (1 * 2 ^ (min v.toNat IntKind.i64.bits)) = ((2 ^ v.toNat : Nat) : Int) := by
  have e : min v.toNat IntKind.i64.bits = v.toNat := Nat.min_eq_left (by show _ ≤ 64; omega)
  rw [e, Int.one_mul]
  have : 2 ^ v.toNat ≤ 2 ^ 60 := Nat.pow_le_pow_right (by omega) (by omega)
  rw [show (2 : Int) ^ v.toNat = ((2 ^ v.toNat : Nat) : Int) from by simp]
  generalize 2 ^ v.toNat = k at this
  exact w64 (by omega)

theorem permP_iff {n : Int} {p : Nat → Int} (h : ByP p) (hn : n ≤ 10) :
    PermP n p ↔ (∀ i : Nat, (i : Int) < n → p i < n) ∧ ∀ v : Nat, (v : Int) < n → ∃ i : Nat, (i : Int) < n ∧ p i = v := by
  constructor
  · intro hp
    refine ⟨fun i hi => (hp.lo i hi).2, fun v hv => ?_⟩
    obtain ⟨i, hi, e⟩ := onto_of_inj (n := n.toNat) (f := fun i => (p i).toNat) (fun i hi => by have := hp.lo i (by omega); show (p i).toNat < _; omega)
      (fun i j hi hj e => hp.inj i j (by omega) (by omega) (by have := hp.lo i (by omega); have := hp.lo j (by omega); simp only at e; omega)) v (by omega)
    refine ⟨i, by omega, ?_⟩
    have := hp.lo i (by omega)
    simp only at e; omega
  · rintro ⟨h1, h2⟩
    refine ⟨fun i hi => ⟨(h i (by omega)).1, h1 i hi⟩, fun i j hi hj e => ?_⟩
    refine inj_of_onto (n := n.toNat) (f := fun i => (p i).toNat) (fun v hv => ?_) i j (by omega) (by omega) (by simp only [e])
    obtain ⟨k, hk, e⟩ := h2 v (by omega)
    exact ⟨k, by omega, by simp only [e]; omega⟩

/-- 'p' is a permutation of n numbers. -/
structure IsP (n : Int) (p : Nat → Int) : Prop where
  n1 : 1 ≤ n
  n10 : n ≤ 10
  perm : PermP n p
  zero : Zt n p

theorem within_W (a b c : Int) : W (m_impl_within a b c) fun r => r = true ↔ b ≤ a ∧ a ≤ c := by
  unfold m_impl_within
  refine W.condP (fun h => W.some ?_) (fun h => W.some ?_)
  · simp; omega
  · simp; omega
theorem l01In_W (a b c : Int) : W (m_spec_l01In a b c) fun r => r = true ↔ b ≤ a ∧ a ≤ c := by
  unfold m_spec_l01In
  refine W.condP (fun h => W.some ?_) (fun h => W.some ?_)
  · simp; omega
  · simp; omega

/-- the bits of what has been met -/
structure Met (m : Nat) (P : Nat → Prop) : Prop where
  lt : m < 1024
  bit : ∀ v, m.testBit v = true ↔ P v
theorem Met.zero {P : Nat → Prop} (h : ∀ v, ¬ P v) : Met 0 P := ⟨by omega, fun v => by simp [h v]⟩
theorem Met.add {m : Nat} {P P' : Nat → Prop} (h : Met m P) {v : Int} (h0 : 0 ≤ v) (hv : v < 10) (e : ∀ u, P' u ↔ P u ∨ (u : Int) = v) :
    ∃ m' : Nat, bits .or .i64 (m : Int) (IntKind.i64.wrap (1 * 2 ^ (min v.toNat IntKind.i64.bits))) = m' ∧ Met m' P' := by
  have hp : 2 ^ v.toNat < 1024 := by
    have : 2 ^ v.toNat ≤ 2 ^ 9 := Nat.pow_le_pow_right (by omega) (by omega)
    omega
  have := h.lt
  refine ⟨m ||| 2 ^ v.toNat, ?_, Nat.or_lt_two_pow (n := 10) h.lt hp, fun u => ?_⟩
  · rw [bit_i64 h0 (by omega), or_i64 (by omega) (by omega)]
  · rw [Nat.testBit_or, e u, Bool.or_eq_true, h.bit u, Nat.testBit_two_pow, decide_eq_true_eq]
    constructor
    · rintro (h | h)
      · exact .inl h
      · exact .inr (by omega)
    · rintro (h | h)
      · exact .inl h
      · exact .inr (by omega)
/-- all bits below n are met -/
theorem Met.full {m : Nat} {P : Nat → Prop} (h : Met m P) {n : Int} (h1 : 1 ≤ n) (h10 : n ≤ 10) (hP : ∀ v : Nat, P v → (v : Int) < n) :
    ((m : Int) = IntKind.i64.wrap (IntKind.i64.wrap (1 * 2 ^ (min n.toNat IntKind.i64.bits)) - 1)) ↔ ∀ v : Nat, (v : Int) < n → P v := by
  rw [bit_i64 (by omega) (by omega)]
  have hp : 2 ^ n.toNat ≤ 1024 := by
    have : 2 ^ n.toNat ≤ 2 ^ 10 := Nat.pow_le_pow_right (by omega) (by omega)
    omega
  have hpos : 0 < 2 ^ n.toNat := Nat.pow_pos (by omega)
  rw [w64 (by omega)]
  have e : ((2 ^ n.toNat : Nat) : Int) - 1 = ((2 ^ n.toNat - 1 : Nat) : Int) := by omega
  rw [e, Int.ofNat_inj]
  constructor
  · intro e v hv
    rw [← h.bit v, e, Nat.testBit_two_pow_sub_one]
    simp; omega
  · intro hall
    refine Nat.eq_of_testBit_eq fun v => ?_
    rw [Nat.testBit_two_pow_sub_one, Bool.eq_iff_iff, h.bit v, decide_eq_true_eq]
    exact ⟨fun hv => by have := hP v hv; omega, fun hv => hall v (by omega)⟩

theorem IsPermutation_W {p : Nat → Int} {n : Int} (hb : ByP p) : W (m_impl_IsPermutation p n) fun r => r = true ↔ IsP n p := by
  unfold m_impl_IsPermutation
  refine W.call (within_W _ _ _) fun b hbn => W.condNot (fun h => W.some ?_) (fun h => ?_)
  · simp only [h, Bool.false_eq_true, false_iff] at hbn ⊢
    exact fun hp => hbn ⟨hp.n1, hp.n10⟩
  obtain ⟨n1, n10⟩ := hbn.1 h
  refine W.upto (fun s => s.2) 10 (fun s => 0 ≤ s.2 ∧ s.2 ≤ 10 ∧ (∃ m : Nat, s.1 = m ∧ Met m fun v => ∃ i : Nat, (i : Int) < s.2 ∧ (i : Int) < n ∧ p i = v) ∧ (∀ i : Nat, (i : Int) < s.2 → (i : Int) < n → p i < n) ∧ (∀ i : Nat, (i : Int) < s.2 → n ≤ i → p i = 0))
    ⟨by simp, by simp, ⟨0, rfl, Met.zero (by simp; omega)⟩, by simp; omega, by simp; omega⟩ ?_
  rintro ⟨x1, x2⟩ ⟨h1, h2, ⟨m, hm, hM⟩, h4, h5⟩
  simp only at h1 h2 hm hM h4 h5
  subst hm
  unfold m_impl_IsPermutation_l0
  refine W.condP (fun h => ?_) (fun h => ?_)
  · have hx := hb x2.toNat (by omega)
    refine W.chk (by omega) ?_
    refine W.condP (fun h' => W.condNe (fun h0 => W.some (W.some ?_)) (fun h0 => W.some ?_)) (fun h' => ?_)
    · simp only [Bool.false_eq_true, false_iff]
      exact fun hp => h0 (hp.zero _ (by omega) (by omega))
    · simp only
      rw [w64 (by omega)]
      refine ⟨⟨by omega, by omega, ⟨m, rfl, hM.lt, fun v => (hM.bit v).trans ?_⟩, fun i hi hn => h4 i (by omega) hn, fun i hi hn => ?_⟩, by omega, by omega⟩
      · exact ⟨fun ⟨i, a, b, c⟩ => ⟨i, by omega, b, c⟩, fun ⟨i, a, b, c⟩ => ⟨i, by omega, b, c⟩⟩
      · by_cases e : (i : Int) = x2
        · subst e; exact h0
        · exact h5 i (by omega) hn
    · rw [w64 (n := p _) (by omega)]
      refine W.condP (fun h0 => W.some (W.some ?_)) (fun h0 => W.chk (by omega) (W.some ?_))
      · simp only [Bool.false_eq_true, false_iff]
        exact fun hp => by have := hp.perm.lo x2.toNat (by omega); omega
      · obtain ⟨m', e', hM'⟩ := hM.add (v := p x2.toNat) (P' := fun v => ∃ i : Nat, (i : Int) < x2 + 1 ∧ (i : Int) < n ∧ p i = v) (by omega) (by omega) (fun u => by
          constructor
          · rintro ⟨i, a, b, c⟩
            by_cases e : (i : Int) = x2
            · subst e; right; simp only [Int.toNat_natCast] at c ⊢; omega
            · exact .inl ⟨i, by omega, b, c⟩
          · rintro (⟨i, a, b, c⟩ | e)
            · exact ⟨i, by omega, b, c⟩
            · exact ⟨x2.toNat, by omega, by omega, by omega⟩)
        rw [e', w64 (by omega)]
        refine ⟨⟨by simp only; omega, by simp only; omega, ⟨m', rfl, hM'⟩, fun i hi hn => ?_, fun i hi hn => h5 i (by simp only at hi; omega) hn⟩, by simp only; omega, by simp only; omega⟩
        simp only at hi
        by_cases e : (i : Int) = x2
        · subst e; simp only [Int.toNat_natCast] at h0; omega
        · exact h4 i (by omega) hn
  · refine W.some ?_
    simp only [if_true]
    refine W.chk (by omega) (W.some ?_)
    rw [beq_iff_eq, hM.full n1 n10 (fun v ⟨i, a, b, c⟩ => by have := h4 i a b; omega)]
    constructor
    · intro hall
      refine ⟨n1, n10, (permP_iff hb n10).2 ⟨fun i hi => h4 i (by omega) hi, fun v hv => ?_⟩, fun i hi hi' => h5 i (by omega) hi⟩
      obtain ⟨i, a, b, c⟩ := hall v hv
      exact ⟨i, b, c⟩
    · intro hp v hv
      obtain ⟨i, a, c⟩ := ((permP_iff hb n10).1 hp.perm).2 v hv
      exact ⟨i, by omega, a, c⟩

theorem l01Perm_W {p : Nat → Int} {n : Int} (hb : ByP p) : W (m_spec_l01Perm p n) fun r => r = true ↔ IsP n p := by
  unfold m_spec_l01Perm
  refine W.call (l01In_W _ _ _) fun b hbn => W.condNot (fun h => W.some ?_) (fun h => ?_)
  · simp only [h, Bool.false_eq_true, false_iff] at hbn ⊢
    exact fun hp => hbn ⟨hp.n1, hp.n10⟩
  obtain ⟨n1, n10⟩ := hbn.1 h
  refine W.upto (fun s => s.1) 10 (fun s => 0 ≤ s.1 ∧ s.1 ≤ 10 ∧ (∀ v : Nat, s.2 v = true ↔ ∃ i : Nat, (i : Int) < s.1 ∧ (i : Int) < n ∧ p i = v) ∧ (∀ i : Nat, (i : Int) < s.1 → (i : Int) < n → p i < n) ∧ (∀ i : Nat, (i : Int) < s.1 → n ≤ i → p i = 0)
      ∧ (∀ i j : Nat, (i : Int) < s.1 → (i : Int) < n → (j : Int) < s.1 → (j : Int) < n → p i = p j → i = j))
    ⟨by simp, by simp, by intro v; simp [bl0]; omega, by simp; omega, by simp; omega, by simp; omega⟩ ?_
  rintro ⟨x1, x2⟩ ⟨h1, h2, hM, h4, h5, h6⟩
  simp only at h1 h2 hM h4 h5 h6
  unfold m_spec_l01Perm_l0
  refine W.condP (fun h => ?_) (fun h => ?_)
  · have hx := hb x1.toNat (by omega)
    refine W.condP (fun h' => W.chk (by omega) (W.condNe (fun h0 => W.some (W.some ?_)) (fun h0 => W.some ?_))) (fun h' => W.chk (by omega) ?_)
    · simp only [Bool.false_eq_true, false_iff]
      exact fun hp => h0 (hp.zero _ (by omega) (by omega))
    · simp only
      rw [w64 (by omega)]
      refine ⟨⟨by omega, by omega, fun v => (hM v).trans ?_, fun i hi hn => h4 i (by omega) hn, fun i hi hn => ?_, fun i j a b c d => h6 i j (by omega) b (by omega) d⟩, by omega, by omega⟩
      · exact ⟨fun ⟨i, a, b, c⟩ => ⟨i, by omega, b, c⟩, fun ⟨i, a, b, c⟩ => ⟨i, by omega, b, c⟩⟩
      · by_cases e : (i : Int) = x1
        · subst e; exact h0
        · exact h5 i (by omega) hn
    · rw [w64 (n := p _) (by omega)]
      refine W.condP (fun h0 => W.some (W.some ?_)) (fun h0 => W.chk (by omega) (W.chk (by omega) (W.cond (fun hm => W.some (W.some ?_)) (fun hm => W.chk (by omega) (W.chk (by omega) (W.some ?_))))))
      · simp only [Bool.false_eq_true, false_iff]
        exact fun hp => by have := hp.perm.lo x1.toNat (by omega); omega
      · simp only [Bool.false_eq_true, false_iff]
        obtain ⟨i, a, b, c⟩ := (hM _).1 hm
        exact fun hp => by have := hp.perm.inj i x1.toNat b (by omega) (by omega); omega
      · simp only
        have hno := mt (hM _).2 (ne_true_of_false hm)
        rw [w64 (by omega)]
        refine ⟨⟨by omega, by omega, fun v => ?_, fun i hi hn => ?_, fun i hi hn => h5 i (by omega) hn, fun i j a b c d e => ?_⟩, by omega, by omega⟩
        · rw [fset_eq]
          split
          · simp only [true_iff]
            exact ⟨x1.toNat, by omega, by omega, by omega⟩
          · rw [hM v]
            constructor
            · exact fun ⟨i, a, b, c⟩ => ⟨i, by omega, b, c⟩
            · rintro ⟨i, a, b, c⟩
              by_cases e : (i : Int) = x1
              · subst e; simp only [Int.toNat_natCast] at *; omega
              · exact ⟨i, by omega, b, c⟩
        · by_cases e : (i : Int) = x1
          · subst e; simp only [Int.toNat_natCast] at h0; omega
          · exact h4 i (by omega) hn
        · by_cases ei : (i : Int) = x1
          · by_cases ej : (j : Int) = x1
            · omega
            · exact absurd ⟨j, by omega, d, by subst ei; simp only [Int.toNat_natCast] at hx ⊢; omega⟩ hno
          · by_cases ej : (j : Int) = x1
            · exact absurd ⟨i, by omega, b, by subst ej; simp only [Int.toNat_natCast] at hx ⊢; omega⟩ hno
            · exact h6 i j (by omega) b (by omega) d e
  · refine W.some ?_
    simp only [if_true]
    refine W.some ?_
    simp only [true_iff]
    exact ⟨n1, n10, ⟨fun i hi => ⟨(hb i (by omega)).1, h4 i (by omega) hi⟩, fun i j hi hj e => h6 i j (by omega) hi (by omega) hj e⟩, fun i hi hi' => h5 i (by omega) hi⟩
end Go.Pu

/- Plain laws: permutations one after the other, back, and their signs. -/
namespace Go.Pu
open Go Go.Abs Go.Lab

/-! ## Products over pairs -/
def rowP (g : Nat → Nat → Int) (i : Nat) : Nat → Int
  | 0 => 1
  | j + 1 => rowP g i j * g j i
def PP (g : Nat → Nat → Int) : Nat → Int
  | 0 => 1
  | i + 1 => PP g i * rowP g i i

theorem rowP_congr {g h : Nat → Nat → Int} {i : Nat} : ∀ {m : Nat}, (∀ j, j < m → g j i = h j i) → rowP g i m = rowP h i m
  | 0, _ => rfl
  | m + 1, e => by simp only [rowP]; rw [rowP_congr (fun j hj => e j (by omega)), e m (by omega)]
theorem PP_congr {g h : Nat → Nat → Int} : ∀ {n : Nat}, (∀ j i, j < i → i < n → g j i = h j i) → PP g n = PP h n
  | 0, _ => rfl
  | n + 1, e => by simp only [PP]; rw [PP_congr (fun j i a b => e j i a (by omega)), rowP_congr (fun j hj => e j n hj (by omega))]
theorem rowP_mul (g h : Nat → Nat → Int) (i : Nat) : ∀ m, rowP (fun j i => g j i * h j i) i m = rowP g i m * rowP h i m
  | 0 => rfl
  | m + 1 => by simp only [rowP, rowP_mul g h i m]; simp only [Int.mul_assoc, Int.mul_left_comm]
theorem PP_mul (g h : Nat → Nat → Int) : ∀ n, PP (fun j i => g j i * h j i) n = PP g n * PP h n
  | 0 => rfl
  | n + 1 => by simp only [PP, PP_mul g h n, rowP_mul]; simp only [Int.mul_assoc, Int.mul_left_comm]
theorem rowP_one {g : Nat → Nat → Int} {i : Nat} (h : ∀ a b, g a b = 1 ∨ g a b = -1) : ∀ m, rowP g i m = 1 ∨ rowP g i m = -1
  | 0 => .inl rfl
  | m + 1 => by
    simp only [rowP]
    rcases rowP_one h m with e | e <;> rcases h m i with e' | e' <;> rw [e, e'] <;> simp
theorem PP_one {g : Nat → Nat → Int} (h : ∀ a b, g a b = 1 ∨ g a b = -1) : ∀ n, PP g n = 1 ∨ PP g n = -1
  | 0 => .inl rfl
  | n + 1 => by
    simp only [PP]
    rcases PP_one h n with e | e <;> rcases rowP_one (i := n) h n with e' | e' <;> rw [e, e'] <;> simp

def allF (f : Nat → Nat → Int) (a : Nat) : List Nat → Int
  | [] => 1
  | b :: l => f a b * allF f a l
def LP (f : Nat → Nat → Int) : List Nat → Int
  | [] => 1
  | a :: l => allF f a l * LP f l
theorem allF_perm {f : Nat → Nat → Int} {a : Nat} {l l' : List Nat} (h : l.Perm l') : allF f a l = allF f a l' := by
  induction h with
  | nil => rfl
  | cons x _ ih => simp only [allF, ih]
  | swap x y l => simp only [allF, Int.mul_left_comm]
  | trans _ _ ih1 ih2 => exact ih1.trans ih2
theorem LP_perm {f : Nat → Nat → Int} (hf : ∀ a b, f a b = f b a) {l l' : List Nat} (h : l.Perm l') : LP f l = LP f l' := by
  induction h with
  | nil => rfl
  | cons x h ih => simp only [LP, ih, allF_perm h]
  | swap x y l => simp only [LP, allF, hf y x]; simp only [Int.mul_assoc, Int.mul_left_comm]
  | trans _ _ ih1 ih2 => exact ih1.trans ih2
theorem allF_snoc (f : Nat → Nat → Int) (a b : Nat) : ∀ l, allF f a (l ++ [b]) = allF f a l * f a b
  | [] => by simp [allF]
  | c :: l => by simp only [List.cons_append, allF, allF_snoc f a b l, Int.mul_assoc]
def lastF (f : Nat → Nat → Int) (b : Nat) : List Nat → Int
  | [] => 1
  | a :: l => f a b * lastF f b l
theorem LP_snoc (f : Nat → Nat → Int) (b : Nat) : ∀ l, LP f (l ++ [b]) = LP f l * lastF f b l
  | [] => by simp [LP, allF, lastF]
  | a :: l => by
    simp only [List.cons_append, LP, LP_snoc f b l, allF_snoc, lastF]
    simp only [Int.mul_assoc, Int.mul_left_comm]
theorem lastF_snoc (f : Nat → Nat → Int) (b c : Nat) : ∀ l, lastF f b (l ++ [c]) = lastF f b l * f c b
  | [] => by simp [lastF]
  | a :: l => by simp only [List.cons_append, lastF, lastF_snoc f b c l, Int.mul_assoc]
theorem rowP_last (f : Nat → Nat → Int) (p : Nat → Nat) (i : Nat) : ∀ m, rowP (fun j i => f (p j) (p i)) i m = lastF f (p i) ((List.range m).map p)
  | 0 => rfl
  | m + 1 => by rw [List.range_succ, List.map_append, List.map_cons, List.map_nil, lastF_snoc, rowP, rowP_last f p i m]
theorem PP_LP (f : Nat → Nat → Int) (p : Nat → Nat) : ∀ n, PP (fun j i => f (p j) (p i)) n = LP f ((List.range n).map p)
  | 0 => rfl
  | n + 1 => by rw [List.range_succ, List.map_append, List.map_cons, List.map_nil, LP_snoc, PP, PP_LP f p n, rowP_last]

/-- 1 in order, -1 out of order -/
def eo (a b : Int) : Int := if a > b then -1 else 1
theorem eo_one (a b : Int) : eo a b = 1 ∨ eo a b = -1 := by unfold eo; split <;> simp
def signF (p : Nat → Int) (n : Nat) : Int := PP (fun j i => eo (p j) (p i)) n
theorem signF_one (p : Nat → Int) (n : Nat) : signF p n = 1 ∨ signF p n = -1 := PP_one (fun _ _ => eo_one _ _) n

/-- p then q -/
def thenF (n : Int) (p q : Nat → Int) : Nat → Int := fun i => if (i : Int) < n then q (p i).toNat else 0

theorem sign_mul {n : Nat} {p q : Nat → Int} (hp : PermP n p) (hq : PermP n q) : signF (thenF n p q) n = signF p n * signF q n := by
  let f : Nat → Nat → Int := fun a b => if a < n ∧ b < n then eo a b * eo (q a) (q b) else 1
  have hf : ∀ a b, f a b = f b a := by
    intro a b
    by_cases h : a < n ∧ b < n
    · have h' : b < n ∧ a < n := ⟨h.2, h.1⟩
      simp only [f, if_pos h, if_pos h']
      by_cases e : a = b
      · subst e; rfl
      · have := hq.inj a b (by omega) (by omega)
        unfold eo
        split <;> split <;> split <;> split <;> first | rfl | (exfalso; omega)
    · have h' : ¬ (b < n ∧ a < n) := fun x => h ⟨x.2, x.1⟩
      simp only [f, if_neg h, if_neg h']
  have hpn : ∀ i : Nat, i < n → (p i).toNat < n ∧ (((p i).toNat : Nat) : Int) = p i := fun i hi => by have := hp.lo i (by omega); omega
  have e1 : PP (fun j i => f (p j).toNat (p i).toNat) n = signF p n * signF (thenF n p q) n := by
    unfold signF
    rw [← PP_mul]
    refine PP_congr fun j i hj hi => ?_
    have a := hpn j (by omega); have b := hpn i hi
    simp only [f, if_pos (And.intro a.1 b.1), a.2, b.2, thenF]
    rw [if_pos (by omega), if_pos (by omega)]
  have e2 : PP (fun j i => f (p j).toNat (p i).toNat) n = LP f ((List.range n).map fun i => (p i).toNat) := PP_LP f (fun i => (p i).toNat) n
  have e3 : LP f ((List.range n).map fun i => (p i).toNat) = LP f ((List.range n).map fun i => i) := by
    refine LP_perm hf ?_
    have := perm_range (n := n) (f := fun i => (p i).toNat) (fun i hi => (hpn i hi).1) (fun i j hi hj e => hp.inj i j (by omega) (by omega) (by rw [← (hpn i hi).2, ← (hpn j hj).2]; simp only at e; omega))
    simpa using this
  have e4 : PP (fun j i => f j i) n = signF q n := by
    unfold signF
    refine PP_congr fun j i hj hi => ?_
    simp only [f]
    rw [if_pos ⟨by omega, hi⟩]
    have : eo (j : Int) (i : Int) = 1 := by unfold eo; rw [if_neg (by omega)]
    rw [this, Int.one_mul]
  have e5 := PP_LP f (fun i => i) n
  have e : signF p n * signF (thenF n p q) n = signF q n := by rw [← e1, e2, e3, ← e5, e4]
  rcases signF_one p n with h | h <;> rw [h] at e ⊢ <;> omega

/-! ## The functions -/
theorem eqPl_refl (p : Nat → Int) : eqPl p p = true := by simp [eqPl]
theorem eqPl_iff {p q : Nat → Int} : eqPl p q = true ↔ ∀ i : Nat, i < 10 → p i = q i := by
  simp [eqPl]

theorem thenF_perm {n : Int} {p q : Nat → Int} (hp : PermP n p) (hq : PermP n q) : PermP n (thenF n p q) := by
  have h : ∀ i : Nat, (i : Int) < n → thenF n p q i = q (p i).toNat := fun i hi => by unfold thenF; rw [if_pos hi]
  refine ⟨fun i hi => ?_, fun i j hi hj e => ?_⟩
  · have := hp.lo i hi
    rw [h i hi]; exact hq.lo _ (by omega)
  · rw [h i hi, h j hj] at e
    have a := hp.lo i hi; have b := hp.lo j hj
    have := hq.inj _ _ (by omega) (by omega) e
    exact hp.inj i j hi hj (by omega)
theorem thenF_zero {n : Int} {p q : Nat → Int} : Zt n (thenF n p q) := fun i hi _ => by unfold thenF; rw [if_neg (by omega)]

theorem then_W {n : Int} {p q : Nat → Int} (h0 : 1 ≤ n) (h10 : n ≤ 10) (hp : PermP n p) : W (m_impl_then p q n) fun r => r = thenF n p q := by
  unfold m_impl_then
  refine W.upto (fun s => s.1) n (fun s => 0 ≤ s.1 ∧ s.1 ≤ n ∧ ∀ i : Nat, s.2 i = if (i : Int) < s.1 then q (p i).toNat else 0) ⟨by simp, by simp; omega, by intro i; simp only; rw [if_neg (by omega)]; rfl⟩ ?_
  rintro ⟨x1, x2⟩ ⟨h1, h2, h3⟩
  simp only at h1 h2 h3
  unfold m_impl_then_l0
  refine W.condP (fun h => ?_) (fun h => ?_)
  · have := hp.lo x1.toNat (by omega)
    refine W.chk (by omega) (W.chk (by omega) (W.chk (by omega) (W.some ?_)))
    simp only
    rw [w64 (by omega)]
    refine ⟨⟨by omega, by omega, fun i => ?_⟩, by omega, by omega⟩
    rw [fset_eq]
    split
    · rename_i e; subst e; rw [if_pos (by omega)]
    · rw [h3 i]
      by_cases e : (i : Int) < x1
      · rw [if_pos e, if_pos (by omega)]
      · rw [if_neg e, if_neg (by omega)]
  · refine W.some (W.some ?_)
    funext i
    rw [h3 i]; unfold thenF
    by_cases e : (i : Int) < x1
    · rw [if_pos e, if_pos (by omega)]
    · rw [if_neg e, if_neg (by omega)]

theorem then_same : m_impl_then = m_spec_l01Then := rfl
theorem back_same : m_impl_back = m_spec_l01Back := rfl

theorem arePermutations_W {n : Int} {l : List (Nat → Int)} (hl : l.length ≤ 1000) (hb : ∀ i : Nat, i < l.length → ByP (l.getD i pl0)) :
    W (m_impl_arePermutations n l) fun r => r = true ↔ (1 ≤ n ∧ n ≤ 10) ∧ ∀ i : Nat, i < l.length → IsP n (l.getD i pl0) := by
  unfold m_impl_arePermutations
  refine W.upto (fun s => s) l.length (fun s => 0 ≤ s ∧ s ≤ l.length ∧ ∀ i : Nat, (i : Int) < s → IsP n (l.getD i pl0)) ⟨by omega, by omega, by intro i hi; omega⟩ ?_
  rintro x1 ⟨h1, h2, h3⟩
  unfold m_impl_arePermutations_l0
  refine W.condP (fun h => ?_) (fun h => ?_)
  · refine W.chk (by omega) (W.call (IsPermutation_W (hb _ (by omega))) fun b hbn => W.condNot (fun hf => W.some (W.some ?_)) (fun ht => W.some ?_))
    · simp only [hf, Bool.false_eq_true, false_iff] at hbn ⊢
      exact fun x => hbn (x.2 _ (by omega))
    · simp only
      rw [w64 (by omega)]
      refine ⟨⟨by omega, by omega, fun i hi => ?_⟩, by omega, by omega⟩
      by_cases e : (i : Int) = x1
      · have := hbn.1 ht; subst e; simpa using this
      · exact h3 i (by omega)
  · refine W.some ?_
    simp only [if_true]
    refine W.call (within_W _ _ _) fun b hbn => W.some ?_
    rw [hbn]
    exact ⟨fun x => ⟨x, fun i hi => h3 i (by omega)⟩, fun x => x.1⟩

theorem ThenPlaces_W {n : Int} {p q : Nat → Int} (hp : ByP p) (hq : ByP q) : W (m_impl_ThenPlaces p q n) fun r => (IsP n p ∧ IsP n q ∧ r = (thenF n p q, 0)) ∨ (¬ (IsP n p ∧ IsP n q) ∧ r = (pl0, 1)) := by
  unfold m_impl_ThenPlaces
  refine W.call (arePermutations_W (by simp) (fun i hi => ?_)) fun b hb => W.condNot (fun hf => W.some (.inr ⟨?_, rfl⟩)) (fun ht => ?_)
  · match i, hi with
    | 0, _ => exact hp
    | 1, _ => exact hq
    | i + 2, hi => simp at hi; omega
  · simp only [hf, Bool.false_eq_true, false_iff] at hb
    rintro ⟨a, b⟩
    refine hb ⟨⟨a.n1, a.n10⟩, fun i hi => ?_⟩
    match i, hi with
    | 0, _ => exact a
    | 1, _ => exact b
    | i + 2, hi => simp at hi; omega
  · have h := (hb.1 ht).2
    have a : IsP n p := h 0 (by simp)
    refine W.call (then_W a.n1 a.n10 a.perm) fun r hr => W.some (.inl ⟨a, h 1 (by simp), by rw [hr]⟩)

theorem spec_ThenPlaces_W {n : Int} {p q : Nat → Int} (hp : ByP p) (hq : ByP q) : W (m_spec_ThenPlaces p q n) fun r => (IsP n p ∧ IsP n q ∧ r = (thenF n p q, 0)) ∨ (¬ (IsP n p ∧ IsP n q) ∧ r = (pl0, 1)) := by
  unfold m_spec_ThenPlaces
  refine W.call (l01Perm_W hp) fun b hb => W.condNot (fun hf => W.some (.inr ⟨?_, rfl⟩)) (fun ht => ?_)
  · simp only [hf, Bool.false_eq_true, false_iff] at hb
    exact fun x => hb x.1
  have a := hb.1 ht
  refine W.call (l01Perm_W hq) fun b' hb' => W.condNot (fun hf => W.some (.inr ⟨?_, rfl⟩)) (fun ht' => ?_)
  · simp only [hf, Bool.false_eq_true, false_iff] at hb'
    exact fun x => hb' x.2
  · rw [← then_same]
    exact W.call (then_W a.n1 a.n10 a.perm) fun r hr => W.some (.inl ⟨a, hb'.1 ht', by rw [hr]⟩)

/-- 'r' leads back what 'p' has led. -/
structure BackOf (n : Int) (p r : Nat → Int) : Prop where
  at_ : ∀ i : Nat, (i : Int) < n → r (p i).toNat = i
  zero : ∀ i : Nat, n ≤ i → r i = 0

theorem back_W {n : Int} {p : Nat → Int} (h0 : 1 ≤ n) (h10 : n ≤ 10) (hp : PermP n p) : W (m_impl_back p n) fun r => BackOf n p r := by
  unfold m_impl_back
  refine W.upto (fun s => s.1) n (fun s => 0 ≤ s.1 ∧ s.1 ≤ n ∧ (∀ i : Nat, (i : Int) < s.1 → s.2 (p i).toNat = i) ∧ ∀ i : Nat, n ≤ i → s.2 i = 0) ⟨by simp, by simp; omega, by simp; omega, by intro i hi; rfl⟩ ?_
  rintro ⟨x1, x2⟩ ⟨h1, h2, h3, h4⟩
  simp only at h1 h2 h3 h4
  unfold m_impl_back_l0
  refine W.condP (fun h => ?_) (fun h => ?_)
  · have hx := hp.lo x1.toNat (by omega)
    refine W.chk (by omega) (W.chk (by omega) (W.some ?_))
    simp only
    rw [w64 (by omega), w8 (by omega)]
    refine ⟨⟨by omega, by omega, fun i hi => ?_, fun i hi => ?_⟩, by omega, by omega⟩
    · rw [fset_eq]
      have hi' := hp.lo i (by omega)
      split
      · rename_i e
        have := hp.inj i x1.toNat (by omega) (by omega) (by omega)
        omega
      · rename_i e
        by_cases e' : (i : Int) = x1
        · subst e'; simp at e
        · exact h3 i (by omega)
    · rw [fset_eq, if_neg (by omega)]
      exact h4 i hi
  · exact W.some (W.some ⟨fun i hi => h3 i (by omega), h4⟩)

theorem BackOf.perm {n : Int} {p r : Nat → Int} (hb : ByP p) (h10 : n ≤ 10) (hp : PermP n p) (h : BackOf n p r) : PermP n r := by
  have on := ((permP_iff hb h10).1 hp).2
  refine ⟨fun v hv => ?_, fun v u hv hu e => ?_⟩
  · obtain ⟨i, hi, e⟩ := on v hv
    have := h.at_ i hi
    rw [e] at this; simp only [Int.toNat_natCast] at this; omega
  · obtain ⟨i, hi, e1⟩ := on v hv
    obtain ⟨j, hj, e2⟩ := on u hu
    have a := h.at_ i hi; have b := h.at_ j hj
    rw [e1] at a; rw [e2] at b
    simp only [Int.toNat_natCast] at a b
    have : i = j := by omega
    subst this; omega

theorem BackPlaces_W {n : Int} {p : Nat → Int} (hp : ByP p) : W (m_impl_BackPlaces p n) fun r => (IsP n p ∧ m_spec_BackPlaces p n = some r ∧ r.2 = 0 ∧ BackOf n p r.1 ∧ IsP n r.1) ∨ (¬ IsP n p ∧ r = (pl0, 1) ∧ m_spec_BackPlaces p n = some r) := by
  obtain ⟨bs, es, hs⟩ := l01Perm_W (p := p) (n := n) hp
  unfold m_impl_BackPlaces m_spec_BackPlaces
  refine W.call (arePermutations_W (by simp) (fun i hi => ?_)) fun b hb => W.condNot (fun hf => W.some (.inr ?_)) (fun ht => ?_)
  · match i, hi with
    | 0, _ => exact hp
    | i + 1, hi => simp at hi
  · simp only [hf, Bool.false_eq_true, false_iff] at hb
    have hno : ¬ IsP n p := fun a => hb ⟨⟨a.n1, a.n10⟩, fun i hi => by
      match i, hi with
      | 0, _ => exact a
      | i + 1, hi => simp at hi⟩
    have hbs : bs = false := by cases bs with
      | true => exact absurd (hs.1 rfl) hno
      | false => rfl
    exact ⟨hno, rfl, by rw [es, hbs]; rfl⟩
  · have a : IsP n p := (hb.1 ht).2 0 (by simp)
    obtain ⟨r, er, hr⟩ := back_W a.n1 a.n10 a.perm
    rw [er]
    refine W.some (.inl ⟨a, ?_, rfl, hr, a.n1, a.n10, hr.perm hp a.n10 a.perm, fun i hi _ => hr.zero i hi⟩)
    rw [es, hs.2 a, ← back_same, er]; rfl

/-! ## Signs -/
theorem sign_l1_W {α ρ : Type} {p : Nat → Int} {n : Nat} {x2 : Nat} (hx2 : x2 < n) (h10 : n ≤ 10) (step : Int × Int → Option (Out (Int × Int) ρ)) (hst : ∀ x3 x4, step (x3, x4) =
      (cond (decide (x4 < (x2 : Int))) (if 0 ≤ x4 ∧ x4 < 10 then (if 0 ≤ (x2 : Int) ∧ (x2 : Int) < 10 then (cond (decide (p (x4).toNat > p ((x2 : Int)).toNat)) (some (.next (IntKind.i64.wrap (0 - x3), IntKind.i64.wrap (x4 + 1)))) (some (.next (x3, IntKind.i64.wrap (x4 + 1))))) else none) else none) (some (.stop (x3, x4) 2))))
    {k : Out (Int × Int) ρ → Option α} {Q : α → Prop} {s : Int} (hs : s = 1 ∨ s = -1) (hk : ∀ x4, W (k (.stop (s * rowP (fun j i => eo (p j) (p i)) x2 x2, x4) 2)) Q) : W ((loopV step (s, 0)).bind k) Q := by
  refine W.upto (fun s => s.2) x2 (fun t => 0 ≤ t.2 ∧ t.2 ≤ x2 ∧ t.1 = s * rowP (fun j i => eo (p j) (p i)) x2 t.2.toNat) ⟨by simp, by simp, by simp [rowP]⟩ ?_
  rintro ⟨x3, x4⟩ ⟨h1, h2, h3⟩
  simp only at h1 h2 h3
  rw [hst]
  have hone : x3 = 1 ∨ x3 = -1 := by
    rcases rowP_one (g := fun j i => eo (p j) (p i)) (i := x2) (fun _ _ => eo_one _ _) x4.toNat with e | e <;> rcases hs with e' | e' <;> rw [e, e'] at h3 <;> omega
  refine W.condP (fun h => ?_) (fun h => ?_)
  · refine W.chk (by omega) (W.chk (by omega) ?_)
    have e : (x4 + 1).toNat = x4.toNat + 1 := by omega
    refine W.condP (fun h' => W.some ?_) (fun h' => W.some ?_) <;> simp only
    · rw [w64 (by omega), w64 (by omega)]
      refine ⟨⟨by omega, by omega, ?_⟩, by omega, by omega⟩
      rw [e]; simp only [rowP]
      have : eo (p x4.toNat) (p x2) = -1 := by unfold eo; rw [if_pos (by simpa using h')]
      rw [this, ← Int.mul_assoc, ← h3]; omega
    · rw [w64 (by omega)]
      refine ⟨⟨by omega, by omega, ?_⟩, by omega, by omega⟩
      rw [e]; simp only [rowP]
      have : eo (p x4.toNat) (p x2) = 1 := by unfold eo; rw [if_neg (by simpa using h')]
      rw [this, ← Int.mul_assoc, ← h3]; omega
  · refine W.some ?_
    simp only
    have e : x4.toNat = x2 := by omega
    rw [h3, e]
    exact hk x4

theorem impl_sign_W {p : Nat → Int} {n : Int} (h0 : 1 ≤ n) (h10 : n ≤ 10) : W (m_impl_sign p n) fun r => r = signF p n.toNat := by
  unfold m_impl_sign
  refine W.upto (fun s => s.2) n (fun t => 0 ≤ t.2 ∧ t.2 ≤ n ∧ t.1 = signF p t.2.toNat) ⟨by simp, by simp; omega, by simp [signF, PP]⟩ ?_
  rintro ⟨x1, x2⟩ ⟨h1, h2, h3⟩
  simp only at h1 h2 h3
  unfold m_impl_sign_l0
  refine W.condP (fun h => ?_) (fun h => ?_)
  · refine sign_l1_W (p := p) (n := n.toNat) (x2 := x2.toNat) (by omega) (by omega) _ (fun x3 x4 => ?_) (by rw [h3]; exact signF_one _ _) (fun x4 => ?_)
    · have e : ((x2.toNat : Nat) : Int) = x2 := by omega
      rw [e]; rfl
    · simp only [if_true]
      refine W.some ?_
      simp only
      rw [w64 (by omega)]
      refine ⟨⟨by omega, by omega, ?_⟩, by omega, by omega⟩
      have e : (x2 + 1).toNat = x2.toNat + 1 := by omega
      rw [e, h3]; rfl
  · refine W.some (W.some ?_)
    have e : x2 = n := by omega
    subst e; exact h3

theorem SignOfPlaces_W {n : Int} {p : Nat → Int} (hp : ByP p) : W (m_impl_SignOfPlaces p n) fun r => (IsP n p ∧ r = (signF p n.toNat, 0)) ∨ (¬ IsP n p ∧ r = (0, 1)) := by
  unfold m_impl_SignOfPlaces
  refine W.call (arePermutations_W (by simp) (fun i hi => ?_)) fun b hb => W.condNot (fun hf => W.some (.inr ⟨?_, rfl⟩)) (fun ht => ?_)
  · match i, hi with
    | 0, _ => exact hp
    | i + 1, hi => simp at hi
  · simp only [hf, Bool.false_eq_true, false_iff] at hb
    exact fun a => hb ⟨⟨a.n1, a.n10⟩, fun i hi => by
      match i, hi with
      | 0, _ => exact a
      | i + 1, hi => simp at hi⟩
  · have a : IsP n p := (hb.1 ht).2 0 (by simp)
    exact W.call (impl_sign_W a.n1 a.n10) fun r hr => W.some (.inl ⟨a, by rw [hr]⟩)

theorem spec_SignOfPlaces_W {n : Int} {p : Nat → Int} (hp : ByP p) : W (m_spec_SignOfPlaces p n) fun r => (IsP n p ∧ r = (signF p n.toNat, 0)) ∨ (¬ IsP n p ∧ r = (0, 1)) := by
  unfold m_spec_SignOfPlaces
  refine W.call (l01Perm_W hp) fun b hb => W.condNot (fun hf => W.some (.inr ⟨?_, rfl⟩)) (fun ht => ?_)
  · simp only [hf, Bool.false_eq_true, false_iff] at hb
    exact hb
  have a := hb.1 ht
  have := a.n1; have := a.n10
  refine W.upto (fun s => s.2) n (fun t => 0 ≤ t.2 ∧ t.2 ≤ n ∧ t.1 = signF p t.2.toNat) ⟨by simp, by simp; omega, by simp [signF, PP]⟩ ?_
  rintro ⟨x1, x2⟩ ⟨h1, h2, h3⟩
  simp only at h1 h2 h3
  unfold m_spec_SignOfPlaces_l0
  refine W.condP (fun h => ?_) (fun h => ?_)
  · refine sign_l1_W (p := p) (n := n.toNat) (x2 := x2.toNat) (by omega) (by omega) _ (fun x3 x4 => ?_) (by rw [h3]; exact signF_one _ _) (fun x4 => ?_)
    · have e : ((x2.toNat : Nat) : Int) = x2 := by omega
      rw [e]; rfl
    · simp only [if_true]
      refine W.some ?_
      simp only
      rw [w64 (by omega)]
      refine ⟨⟨by omega, by omega, ?_⟩, by omega, by omega⟩
      have e : (x2 + 1).toNat = x2.toNat + 1 := by omega
      rw [e, h3]; rfl
  · refine W.some (W.some (.inl ⟨a, ?_⟩))
    have e : x2 = n := by omega
    subst e; rw [h3]
end Go.Pu

/- Plain laws: squares as tables; the reference's functions on them. -/
namespace Go.Pu
open Go Go.Abs Go.Lab

/-- The table of a function below n, else 0. -/
def tabF (n : Int) (g : Nat → Nat → Int) : Nat → Nat → Int := fun i j => if (i : Int) < n ∧ (j : Int) < n then g i j else 0
def Fil (n : Int) (g : Nat → Nat → Int) (x y : Int) (t : Nat → Nat → Int) : Prop :=
  ∀ i j : Nat, t i j = if (j : Int) < n ∧ ((i : Int) < x ∨ (i : Int) = x ∧ (j : Int) < y) then g i j else 0
theorem Fil.zero {n : Int} {g : Nat → Nat → Int} : Fil n g 0 0 tb0 := fun i j => by rw [if_neg (by omega)]; rfl
theorem Fil.step {n : Int} {g : Nat → Nat → Int} {x y : Int} {t : Nat → Nat → Int} (h : Fil n g x y t) (hx : 0 ≤ x) (hy : 0 ≤ y) (hn : y < n) : Fil n g x (y + 1) (tset t x.toNat y.toNat (g x.toNat y.toNat)) := fun i j => by
  unfold tset
  by_cases e : i = x.toNat ∧ j = y.toNat
  · rw [if_pos e, if_pos (by omega), e.1, e.2]
  · rw [if_neg e, h i j]
    by_cases e2 : (j : Int) < n ∧ ((i : Int) < x ∨ (i : Int) = x ∧ (j : Int) < y)
    · rw [if_pos e2, if_pos (by omega)]
    · rw [if_neg e2, if_neg (by omega)]
theorem Fil.row {n : Int} {g : Nat → Nat → Int} {x y : Int} {t : Nat → Nat → Int} (h : Fil n g x y t) (hy : n ≤ y) : Fil n g (x + 1) 0 t := fun i j => by
  rw [h i j]
  by_cases e2 : (j : Int) < n ∧ ((i : Int) < x ∨ (i : Int) = x ∧ (j : Int) < y)
  · rw [if_pos e2, if_pos (by omega)]
  · rw [if_neg e2, if_neg (by omega)]
theorem Fil.full {n : Int} {g : Nat → Nat → Int} {x : Int} {t : Nat → Nat → Int} (h : Fil n g x 0 t) (hx : x = n) : t = tabF n g := by
  funext i j
  rw [h i j]; unfold tabF
  by_cases e2 : (i : Int) < n ∧ (j : Int) < n
  · rw [if_pos e2, if_pos (by omega)]
  · rw [if_neg e2, if_neg (by omega)]

/-- Two loops that fill a square. -/
theorem W.fill {α ρ : Type} {Q : α → Prop} {n ord : Int} (h0n : 0 ≤ n) (hn : n ≤ 10) {g : Nat → Nat → Int} {step1 : Int → Int × Sq → Option (Out (Int × Sq) ρ)} {step0 : Int × Sq → Option (Out (Int × Sq) ρ)}
    (h1 : ∀ x y t, 0 ≤ x → x < n → 0 ≤ y → y < n → W (step1 x (y, ⟨ord, t⟩)) fun o => o = Out.next (y + 1, ⟨ord, tset t x.toNat y.toNat (g x.toNat y.toNat)⟩))
    (h1e : ∀ x y t, 0 ≤ x → x < n → n ≤ y → W (step1 x (y, ⟨ord, t⟩)) fun o => o = Out.stop (y, ⟨ord, t⟩) 2)
    (h0 : ∀ x t, 0 ≤ x → x < n → ∀ Q' : Out (Int × Sq) ρ → Prop, (∀ k : Out (Int × Sq) ρ → Option (Out (Int × Sq) ρ), (∀ y s, k (.stop (y, s) 2) = Option.some (.next (IntKind.i64.wrap (x + 1), s))) → W ((loopV (step1 x) (0, ⟨ord, t⟩)).bind k) Q') → W (step0 (x, ⟨ord, t⟩)) Q')
    (h0e : ∀ x t, 0 ≤ x → n ≤ x → W (step0 (x, ⟨ord, t⟩)) fun o => o = Out.stop (x, ⟨ord, t⟩) 0)
    {k : Out (Int × Sq) ρ → Option α} (hk : ∀ x, W (k (.stop (x, ⟨ord, tabF n g⟩) 0)) Q) : W ((loopV step0 (0, ⟨ord, tb0⟩)).bind k) Q := by
  refine W.upto (fun s => s.1) n (fun s => 0 ≤ s.1 ∧ s.1 ≤ n ∧ s.2.order = ord ∧ Fil n g s.1 0 s.2.t) ⟨by simp, by simp; omega, rfl, Fil.zero⟩ ?_
  rintro ⟨x, ⟨o, t⟩⟩ ⟨a1, a2, a3, a4⟩
  simp only at a1 a2 a3 a4
  subst a3
  by_cases hx : x < n
  · refine h0 x t a1 hx _ fun kk hkk => ?_
    refine W.upto (fun s => s.1) n (fun s => 0 ≤ s.1 ∧ s.2.order = o ∧ Fil n g x s.1 s.2.t) ⟨by simp, rfl, a4⟩ ?_
    rintro ⟨y, ⟨o', t'⟩⟩ ⟨b1, b2, b3⟩
    simp only at b1 b2 b3
    subst b2
    by_cases hy : y < n
    · refine (h1 x y t' a1 hx b1 hy).mono fun o ho => ?_
      subst ho
      exact ⟨⟨by simp only; omega, rfl, b3.step a1 b1 hy⟩, by simp only; omega, by simp only; omega⟩
    · refine (h1e x y t' a1 hx (by omega)).mono fun o ho => ?_
      subst ho
      simp only
      rw [hkk]
      refine W.some ?_
      simp only
      rw [w64 (by omega)]
      exact ⟨⟨by omega, by omega, trivial, b3.row (by omega)⟩, by omega, by omega⟩
  · refine (h0e x t a1 (by omega)).mono fun o ho => ?_
    subst ho
    simp only
    rw [a4.full (by omega)]
    exact hk x

/-! ## Squares -/
def Byt (t : Nat → Nat → Int) : Prop := ∀ x y : Nat, x < 10 → y < 10 → 0 ≤ t x y ∧ t x y ≤ 255

structure Latin (q : Sq) : Prop where
  n1 : 1 ≤ q.order
  n10 : q.order ≤ 10
  row : ∀ x : Nat, (x : Int) < q.order → PermP q.order (q.t x)
  col : ∀ y : Nat, (y : Int) < q.order → PermP q.order fun x => q.t x y
  zero : ∀ x y : Nat, x < 10 → y < 10 → q.order ≤ x ∨ q.order ≤ y → q.t x y = 0

theorem Latin.byt {q : Sq} (h : Latin q) : Byt q.t := fun x y hx hy => by
  by_cases e : q.order ≤ x ∨ q.order ≤ y
  · rw [h.zero x y hx hy e]; omega
  · have := h.n10
    have := (h.row x (by omega)).lo y (by omega)
    omega
theorem Latin.lt {q : Sq} (h : Latin q) {x y : Nat} (hx : (x : Int) < q.order) (hy : (y : Int) < q.order) : 0 ≤ q.t x y ∧ q.t x y < q.order := (h.row x hx).lo y hy

theorem l01Rows_W {t : Nat → Nat → Int} {n : Int} (hb : Byt t) (h0 : 1 ≤ n) (h10 : n ≤ 10) :
    W (m_spec_l01Rows t n) fun r => r = true ↔ (∀ x : Nat, x < 10 → (x : Int) < n → IsP n (t x)) ∧ ∀ x : Nat, x < 10 → n ≤ x → ∀ y : Nat, y < 10 → t x y = 0 := by
  unfold m_spec_l01Rows
  refine W.upto (fun s => s) 10 (fun s => 0 ≤ s ∧ s ≤ 10 ∧ (∀ x : Nat, (x : Int) < s → (x : Int) < n → IsP n (t x)) ∧ ∀ x : Nat, (x : Int) < s → n ≤ x → ∀ y : Nat, y < 10 → t x y = 0) ⟨by omega, by omega, by omega, by omega⟩ ?_
  rintro x1 ⟨h1, h2, h3, h4⟩
  unfold m_spec_l01Rows_l0
  refine W.condP (fun h => ?_) (fun h => ?_)
  · refine W.condP (fun h' => W.chk (by omega) (W.call (l01Perm_W (fun i hi => hb _ i (by omega) hi)) fun b hbn => W.condNot (fun hf => W.some (W.some ?_)) (fun ht => W.condP (fun h'' => by omega) (fun _ => W.some ?_))))
      (fun h' => W.condP (fun _ => W.chk (by omega) (W.condNot (fun hf => W.some (W.some ?_)) (fun ht => W.some ?_))) (fun h'' => by omega))
    · simp only [hf, Bool.false_eq_true, false_iff] at hbn ⊢
      exact fun x => hbn (x.1 _ (by omega) (by omega))
    · simp only
      rw [w64 (by omega)]
      refine ⟨⟨by omega, by omega, fun i hi hn => ?_, fun i hi hn => h4 i (by omega) hn⟩, by omega, by omega⟩
      by_cases e : (i : Int) = x1
      · have := hbn.1 ht; subst e; simpa using this
      · exact h3 i (by omega) hn
    · simp only [Bool.false_eq_true, false_iff]
      rintro ⟨_, hz⟩
      refine ne_true_of_false hf (eqPl_iff.2 fun i hi => ?_)
      exact hz _ (by omega) (by omega) i hi
    · simp only
      rw [w64 (by omega)]
      refine ⟨⟨by omega, by omega, fun i hi hn => h3 i (by omega) hn, fun i hi hn => ?_⟩, by omega, by omega⟩
      by_cases e : (i : Int) = x1
      · subst e
        intro y hy
        have := eqPl_iff.1 ht y hy
        simpa [pl0] using this
      · exact h4 i (by omega) hn
  · refine W.some ?_
    simp only [if_true]
    refine W.some ?_
    simp only [true_iff]
    exact ⟨fun x hx hn => h3 x (by omega) hn, fun x hx hn => h4 x (by omega) hn⟩

theorem l01Turned_W (t : Nat → Nat → Int) : W (m_spec_l01Turned t) fun r => ∀ x y : Nat, r x y = if x < 10 ∧ y < 10 then t y x else 0 := by
  unfold m_spec_l01Turned
  refine W.upto (fun s => s.1) 10 (fun s => 0 ≤ s.1 ∧ s.1 ≤ 10 ∧ ∀ x y : Nat, s.2 x y = if (y : Int) < s.1 ∧ x < 10 then t y x else 0) ⟨by simp, by simp, fun x y => by rw [if_neg (by simp only; omega)]; rfl⟩ ?_
  rintro ⟨x1, x2⟩ ⟨h1, h2, h3⟩
  simp only at h1 h2 h3
  unfold m_spec_l01Turned_l0
  refine W.condP (fun h => ?_) (fun h => ?_)
  · refine W.upto (fun s => s.1) 10 (fun s => 0 ≤ s.1 ∧ s.1 ≤ 10 ∧ ∀ x y : Nat, s.2 x y = if x < 10 ∧ ((y : Int) < x1 ∨ (y : Int) = x1 ∧ (x : Int) < s.1) then t y x else 0) ⟨by simp, by simp, fun x y => ?_⟩ ?_
    · simp only
      rw [h3 x y]
      by_cases e : (y : Int) < x1 ∧ x < 10
      · rw [if_pos e, if_pos (by omega)]
      · rw [if_neg e, if_neg (by omega)]
    rintro ⟨x3, x4⟩ ⟨g1, g2, g3⟩
    simp only at g1 g2 g3
    unfold m_spec_l01Turned_l1
    refine W.condP (fun h' => W.chk (by omega) (W.chk (by omega) (W.chk (by omega) (W.chk (by omega) (W.some ?_))))) (fun h' => W.some ?_)
    · simp only
      rw [w64 (by omega)]
      refine ⟨⟨by omega, by omega, fun x y => ?_⟩, by omega, by omega⟩
      unfold tset
      by_cases e : x = x3.toNat ∧ y = x1.toNat
      · rw [if_pos e, if_pos (by omega), e.1, e.2]
      · rw [if_neg e, g3 x y]
        by_cases e2 : x < 10 ∧ ((y : Int) < x1 ∨ (y : Int) = x1 ∧ (x : Int) < x3)
        · rw [if_pos e2, if_pos (by omega)]
        · rw [if_neg e2, if_neg (by omega)]
    · simp only [if_true]
      refine W.some ?_
      simp only
      rw [w64 (by omega)]
      refine ⟨⟨by omega, by omega, fun x y => ?_⟩, by omega, by omega⟩
      rw [g3 x y]
      by_cases e2 : x < 10 ∧ ((y : Int) < x1 ∨ (y : Int) = x1 ∧ (x : Int) < x3)
      · rw [if_pos e2, if_pos (by omega)]
      · rw [if_neg e2, if_neg (by omega)]
  · refine W.some (W.some fun x y => ?_)
    rw [h3 x y]
    by_cases e2 : x < 10 ∧ y < 10
    · rw [if_pos e2, if_pos (by omega)]
    · rw [if_neg e2, if_neg (by omega)]

theorem latin_iff {q : Sq} (h1 : 1 ≤ q.order) (h10 : q.order ≤ 10) {r : Nat → Nat → Int} (hr : ∀ x y : Nat, r x y = if x < 10 ∧ y < 10 then q.t y x else 0) :
    Latin q ↔ ((∀ x : Nat, x < 10 → (x : Int) < q.order → IsP q.order (q.t x)) ∧ ∀ x : Nat, x < 10 → q.order ≤ x → ∀ y : Nat, y < 10 → q.t x y = 0)
      ∧ ((∀ x : Nat, x < 10 → (x : Int) < q.order → IsP q.order (r x)) ∧ ∀ x : Nat, x < 10 → q.order ≤ x → ∀ y : Nat, y < 10 → r x y = 0) := by
  have hr' : ∀ x y : Nat, x < 10 → y < 10 → r x y = q.t y x := fun x y hx hy => by rw [hr x y, if_pos ⟨hx, hy⟩]
  constructor
  · intro h
    refine ⟨⟨fun x hx hn => ⟨h1, h10, h.row x hn, fun i hi hi' => h.zero x i hx hi' (.inr hi)⟩, fun x hx hn y hy => h.zero x y hx hy (.inl hn)⟩, fun x hx hn => ⟨h1, h10, (h.col x hn).ext fun i hi => hr' x i hx (by omega), fun i hi hi' => ?_⟩, fun x hx hn y hy => ?_⟩
    · rw [hr' x i hx hi']; exact h.zero i x hi' hx (.inl hi)
    · rw [hr' x y hx hy]; exact h.zero y x hy hx (.inr hn)
  · rintro ⟨⟨a, b⟩, c, d⟩
    refine ⟨h1, h10, fun x hx => (a x (by omega) hx).perm, fun y hy => (c y (by omega) hy).perm.ext fun i hi => (hr' y i (by omega) (by omega)).symm, fun x y hx hy hn => ?_⟩
    rcases hn with hn | hn
    · exact b x hx hn y hy
    · have := d y hy hn x hx
      rw [hr' y x hy hx] at this; exact this

theorem l01Is_W {q : Sq} (hb : Byt q.t) : W (m_spec_l01Is q) fun r => r = true ↔ Latin q := by
  unfold m_spec_l01Is
  refine W.call (l01In_W _ _ _) fun b hbn => W.cond (fun h => ?_) (fun h => W.some ?_)
  · obtain ⟨n1, n10⟩ := hbn.1 h
    obtain ⟨rt, et, hrt⟩ := l01Turned_W q.t
    have iff := latin_iff n1 n10 hrt
    refine W.call (l01Rows_W hb n1 n10) fun b2 h2 => W.cond (fun h => ?_) (fun h => W.some ?_)
    · rw [et]
      refine W.call (W.some rfl) fun r3 e3 => ?_
      subst e3
      refine W.call (l01Rows_W (fun x y hx hy => by rw [hrt, if_pos ⟨hx, hy⟩]; exact hb y x hy hx) n1 n10) fun b4 h4 => W.some ?_
      rw [h4, iff]
      exact ⟨fun x => ⟨h2.1 h, x⟩, fun x => x.2⟩
    · simp only [h, Bool.false_eq_true, false_iff] at h2 ⊢
      exact fun x => h2 (iff.1 x).1
  · simp only [h, Bool.false_eq_true, false_iff] at hbn ⊢
    exact fun x => hbn ⟨x.n1, x.n10⟩
end Go.Pu

/- Plain laws: squares that are read, moved, ordered, made. -/
namespace Go.Pu
open Go Go.Abs Go.Lab

theorem l01Split_W {s : ByteArray} (hs : s.size ≤ 1000000) (c : Int) : W (m_spec_l01Split s c) fun r => 1 ≤ r.length ∧ r.length ≤ s.size + 1 := by
  unfold m_spec_l01Split
  refine W.upto (fun t => t.2.2) s.size (fun t => 0 ≤ t.2.1 ∧ t.2.1 ≤ t.2.2 ∧ t.2.2 ≤ s.size ∧ (t.1.length : Int) ≤ t.2.2) ⟨by simp, by simp, by simp, by simp⟩ ?_
  rintro ⟨x1, x2, x3⟩ ⟨h1, h2, h3, h4⟩
  simp only at h1 h2 h3 h4
  unfold m_spec_l01Split_l0
  refine W.condP (fun h => W.chk (by omega) (W.cond (fun h' => W.chk (by omega) (W.chk (by omega) (W.some ?_))) (fun h' => W.some ?_))) (fun h => ?_)
  · simp only
    rw [w64 (by omega)]
    refine ⟨⟨by omega, by omega, by omega, by simp; omega⟩, by omega, by omega⟩
  · simp only
    rw [w64 (by omega)]
    refine ⟨⟨by omega, by omega, by omega, by omega⟩, by omega, by omega⟩
  · refine W.some ?_
    simp only [if_true]
    refine W.chk (by omega) (W.chk (by omega) (W.some ?_))
    simp only [List.length_append, List.length_cons, List.length_nil]
    omega

theorem Byt.tset {t : Nat → Nat → Int} (h : Byt t) (a b : Nat) {v : Int} (hv : 0 ≤ v ∧ v ≤ 255) : Byt (Abs.tset t a b v) := fun x y hx hy => by
  unfold Abs.tset
  split
  · exact hv
  · exact h x y hx hy
theorem Byt.zero : Byt tb0 := fun _ _ _ _ => by simp [tb0]

theorem l01Read_W {s : ByteArray} (hs : s.size ≤ 1000000) : W (m_spec_l01Read s) fun r => Byt r.1.t ∧ (r.2 = true → Latin r.1) := by
  unfold m_spec_l01Read
  refine W.call (l01Split_W hs _) fun l hl => ?_
  refine W.condP (fun h => W.some ⟨Byt.zero, by simp⟩) (fun h => ?_)
  refine W.upto (fun t => t.1) l.length (fun t => 0 ≤ t.1 ∧ t.1 ≤ l.length ∧ Byt t.2.2.t) ⟨by simp, by simp, Byt.zero⟩ ?_
  rintro ⟨x1, x2, x3⟩ ⟨h1, h2, h3⟩
  simp only at h1 h2 h3
  unfold m_spec_l01Read_l0
  refine W.condP (fun h' => W.chk (by omega) (W.condNe (fun h4 => W.some (W.some ⟨Byt.zero, by simp⟩)) (fun h4 => ?_))) (fun h' => ?_)
  · refine W.upto (fun t => t.1) l.length (fun t => 0 ≤ t.1 ∧ t.1 ≤ l.length ∧ Byt t.2.2.t) ⟨by simp, by simp, h3⟩ ?_
    rintro ⟨x4, x5, x6⟩ ⟨g1, g2, g3⟩
    simp only at g1 g2 g3
    unfold m_spec_l01Read_l1
    refine W.condP (fun g => W.chk (by omega) (W.chk (by omega) (W.condP (fun _ => W.some (W.some (W.some ⟨Byt.zero, by simp⟩))) (fun _ => W.chk (by omega) (W.chk (by omega) (W.condP (fun _ => W.some (W.some (W.some ⟨Byt.zero, by simp⟩))) (fun _ => W.chk (by omega) (W.chk (by omega) (W.chk (by omega) (W.chk (by omega) (W.some ?_)))))))))))
      (fun g => W.some ?_)
    · simp only
      rw [w64 (by omega)]
      exact ⟨⟨by omega, by omega, g3.tset _ _ (w8_lt _)⟩, by omega, by omega⟩
    · simp only [if_true]
      refine W.some ?_
      simp only
      rw [w64 (by omega)]
      exact ⟨⟨by omega, by omega, g3⟩, by omega, by omega⟩
  · refine W.some ?_
    simp only [if_true]
    exact W.call (l01Is_W h3) fun b hb => W.some ⟨h3, fun e => hb.1 e⟩

theorem l01Row_W {q : Sq} {x : Int} (h0 : 0 ≤ x) (h1 : x < 10) : W (m_spec_l01Row q x) fun r => r = q.t x.toNat := by
  unfold m_spec_l01Row
  exact W.chk (by omega) (W.some rfl)

theorem l01Column_W {q : Sq} {y : Int} (hn : q.order ≤ 10) (hn0 : 0 ≤ q.order) (h0 : 0 ≤ y) (h1 : y < 10) : W (m_spec_l01Column q y) fun r => r = fun i : Nat => if (i : Int) < q.order then q.t i y.toNat else 0 := by
  unfold m_spec_l01Column
  refine W.upto (fun t => t.1) q.order (fun t => 0 ≤ t.1 ∧ t.1 ≤ q.order ∧ ∀ i : Nat, t.2 i = if (i : Int) < t.1 then q.t i y.toNat else 0) ⟨by simp, by simp; omega, fun i => by rw [if_neg (by simp only; omega)]; rfl⟩ ?_
  rintro ⟨x1, x2⟩ ⟨h2, h3, h4⟩
  simp only at h2 h3 h4
  unfold m_spec_l01Column_l0
  refine W.condP (fun h => W.chk (by omega) (W.chk (by omega) (W.chk (by omega) (W.some ?_)))) (fun h => W.some (W.some ?_))
  · simp only
    rw [w64 (by omega)]
    refine ⟨⟨by omega, by omega, fun i => ?_⟩, by omega, by omega⟩
    rw [fset_eq]
    split
    · rename_i e; rw [if_pos (by omega), e]
    · rw [h4 i]
      by_cases e : (i : Int) < x1
      · rw [if_pos e, if_pos (by omega)]
      · rw [if_neg e, if_neg (by omega)]
  · funext i
    rw [h4 i]
    by_cases e : (i : Int) < x1
    · rw [if_pos e, if_pos (by omega)]
    · rw [if_neg e, if_neg (by omega)]

/-- 'r' has q's products, rows led by a, columns by b, entries by c. -/
structure MovedOf (q : Sq) (a b c : Nat → Int) (r : Sq) : Prop where
  ord : r.order = q.order
  at_ : ∀ x y : Nat, (x : Int) < q.order → (y : Int) < q.order → r.t (a x).toNat (b y).toNat = c (q.t x y).toNat
  zero : ∀ x y : Nat, q.order ≤ x ∨ q.order ≤ y → r.t x y = 0

theorem l01Moved_W {q : Sq} {a b c : Nat → Int} (h1 : 1 ≤ q.order) (h10 : q.order ≤ 10) (hq : ∀ x y : Nat, (x : Int) < q.order → (y : Int) < q.order → 0 ≤ q.t x y ∧ q.t x y < 10) (ha : PermP q.order a) (hb : PermP q.order b) :
    W (m_spec_l01Moved q a b c) (MovedOf q a b c) := by
  unfold m_spec_l01Moved
  refine W.upto (fun t => t.1) q.order (fun t => 0 ≤ t.1 ∧ t.1 ≤ q.order ∧ t.2.order = q.order ∧ (∀ x y : Nat, (x : Int) < t.1 → (y : Int) < q.order → t.2.t (a x).toNat (b y).toNat = c (q.t x y).toNat) ∧ ∀ x y : Nat, q.order ≤ x ∨ q.order ≤ y → t.2.t x y = 0)
    ⟨by simp, by simp; omega, rfl, fun x y hx => by simp only at hx; omega, fun x y _ => rfl⟩ ?_
  rintro ⟨x1, ⟨o, x2⟩⟩ ⟨h2, h3, h4, h5, h6⟩
  simp only at h2 h3 h4 h5 h6
  subst h4
  unfold m_spec_l01Moved_l0
  refine W.condP (fun h => ?_) (fun h => ?_)
  · refine W.upto (fun t => t.1) q.order (fun t => 0 ≤ t.1 ∧ t.2.order = q.order ∧ (∀ x y : Nat, (y : Int) < q.order → (x : Int) < x1 ∨ (x : Int) = x1 ∧ (y : Int) < t.1 → t.2.t (a x).toNat (b y).toNat = c (q.t x y).toNat) ∧ ∀ x y : Nat, q.order ≤ x ∨ q.order ≤ y → t.2.t x y = 0)
      ⟨by simp, rfl, fun x y hy hx => h5 x y (by simp only at hx; omega) hy, h6⟩ ?_
    rintro ⟨x3, ⟨o, x4⟩⟩ ⟨g1, g2, g3, g4⟩
    simp only at g1 g2 g3 g4
    subst g2
    unfold m_spec_l01Moved_l1
    refine W.condP (fun h' => ?_) (fun h' => ?_)
    · have e1 := hq x1.toNat x3.toNat (by omega) (by omega)
      have e2 := ha.lo x1.toNat (by omega)
      have e3 := hb.lo x3.toNat (by omega)
      refine W.chk (by omega) (W.chk (by omega) (W.chk (by omega) (W.chk (by omega) (W.chk (by omega) (W.chk (by omega) (W.chk (by omega) (W.some ?_)))))))
      simp only
      rw [w64 (by omega)]
      refine ⟨⟨by omega, trivial, fun x y hy hx => ?_, fun x y hx => ?_⟩, by omega, by omega⟩
      · unfold Abs.tset
        have ex := ha.lo x (by omega)
        have ey := hb.lo y hy
        split
        · rename_i e
          have := ha.inj x x1.toNat (by omega) (by omega) (by omega)
          have := hb.inj y x3.toNat (by omega) (by omega) (by omega)
          subst x; subst y; rfl
        · rename_i e
          refine g3 x y hy ?_
          by_cases e' : (x : Int) = x1 ∧ (y : Int) = x3
          · obtain ⟨f1, f2⟩ := e'
            subst f1; subst f2; simp at e
          · omega
      · unfold Abs.tset
        rw [if_neg (by omega)]
        exact g4 x y hx
    · refine W.some ?_
      simp only [if_true]
      refine W.some ?_
      simp only
      rw [w64 (by omega)]
      exact ⟨⟨by omega, by omega, trivial, fun x y hx hy => g3 x y hy (by omega), g4⟩, by omega, by omega⟩
  · exact W.some (W.some ⟨rfl, fun x y hx hy => h5 x y (by omega) hy, h6⟩)

theorem PermP.onto {n : Int} {p : Nat → Int} (h : PermP n p) {v : Nat} (hv : (v : Int) < n) : ∃ i : Nat, (i : Int) < n ∧ p i = v := by
  obtain ⟨i, hi, e⟩ := onto_of_inj (n := n.toNat) (f := fun i => (p i).toNat) (fun i hi => by have := h.lo i (by omega); show (p i).toNat < _; omega)
    (fun i j hi hj e => h.inj i j (by omega) (by omega) (by have := h.lo i (by omega); have := h.lo j (by omega); simp only at e; omega)) v (by omega)
  refine ⟨i, by omega, ?_⟩
  have := h.lo i (by omega)
  simp only at e; omega

theorem MovedOf.latin {q r : Sq} {a b c : Nat → Int} (hq : Latin q) (ha : PermP q.order a) (hb : PermP q.order b) (hc : PermP q.order c) (h : MovedOf q a b c r) : Latin r := by
  have key : ∀ i j : Nat, (i : Int) < q.order → (j : Int) < q.order → ∃ x y : Nat, (x : Int) < q.order ∧ (y : Int) < q.order ∧ a x = i ∧ b y = j ∧ r.t i j = c (q.t x y).toNat := fun i j hi hj => by
    obtain ⟨x, hx, ex⟩ := ha.onto hi
    obtain ⟨y, hy, ey⟩ := hb.onto hj
    refine ⟨x, y, hx, hy, ex, ey, ?_⟩
    have := h.at_ x y hx hy
    rw [ex, ey] at this; simpa using this
  have hcq : ∀ x y : Nat, (x : Int) < q.order → (y : Int) < q.order → 0 ≤ c (q.t x y).toNat ∧ c (q.t x y).toNat < q.order := fun x y hx hy => by
    have := hq.lt hx hy
    exact hc.lo _ (by omega)
  have hci : ∀ x y x' y' : Nat, (x : Int) < q.order → (y : Int) < q.order → (x' : Int) < q.order → (y' : Int) < q.order → c (q.t x y).toNat = c (q.t x' y').toNat → q.t x y = q.t x' y' := fun x y x' y' hx hy hx' hy' e => by
    have a := hq.lt hx hy; have b := hq.lt hx' hy'
    have := hc.inj _ _ (by omega) (by omega) e
    omega
  refine ⟨by rw [h.ord]; exact hq.n1, by rw [h.ord]; exact hq.n10, fun i hi => ?_, fun j hj => ?_, fun x y _ _ hz => h.zero x y (by rw [← h.ord]; exact hz)⟩
  · rw [h.ord] at hi ⊢
    refine ⟨fun j hj => ?_, fun j k hj hk e => ?_⟩
    · obtain ⟨x, y, hx, hy, ex, ey, e⟩ := key i j hi hj
      rw [e]; exact hcq x y hx hy
    · obtain ⟨x, y, hx, hy, ex, ey, e1⟩ := key i j hi hj
      obtain ⟨x', y', hx', hy', ex', ey', e2⟩ := key i k hi hk
      rw [e1, e2] at e
      have e' := hci _ _ _ _ hx hy hx' hy' e
      have exx : x = x' := ha.inj _ _ hx hx' (by omega)
      subst exx
      have := (hq.row x hx).inj _ _ hy hy' e'
      subst this; omega
  · rw [h.ord] at hj ⊢
    refine ⟨fun i hi => ?_, fun i k hi hk e => ?_⟩
    · obtain ⟨x, y, hx, hy, ex, ey, e⟩ := key i j hi hj
      simp only [e]; exact hcq x y hx hy
    · obtain ⟨x, y, hx, hy, ex, ey, e1⟩ := key i j hi hj
      obtain ⟨x', y', hx', hy', ex', ey', e2⟩ := key k j hk hj
      simp only [e1, e2] at e
      have e' := hci _ _ _ _ hx hy hx' hy' e
      have eyy : y = y' := hb.inj _ _ hy hy' (by omega)
      subst eyy
      have := (hq.col y hy).inj _ _ hx hx' e'
      subst this; omega

/-- A loop: 0 is neutral. -/
structure Loop (q : Sq) : Prop extends Latin q where
  left : ∀ x : Nat, (x : Int) < q.order → q.t 0 x = x
  right : ∀ x : Nat, (x : Int) < q.order → q.t x 0 = x

theorem l01Ordered_W {q : Sq} (h : Latin q) : W (m_spec_l01Ordered q) fun r => Loop r ∧ r.order = q.order := by
  have n1 := h.n1; have n10 := h.n10
  have h00 : ((0 : Nat) : Int) < q.order := by omega
  unfold m_spec_l01Ordered
  obtain ⟨id, eid, hid⟩ := l01Same_W (n := q.order) n10
  have pid : PermP q.order id := PermP.id hid.1
  refine W.call (W.eq eid rfl) fun r1 e1 => ?_
  refine W.call (l01Row_W (by omega) (by omega)) fun r2 e2 => ?_
  refine W.call (W.eq eid rfl) fun r3 e3 => ?_
  subst e1; subst e2; subst e3
  have hlt : ∀ {q : Sq}, Latin q → ∀ x y : Nat, (x : Int) < q.order → (y : Int) < q.order → 0 ≤ q.t x y ∧ q.t x y < 10 := fun h x y hx hy => by have := h.lt hx hy; have := h.n10; omega
  refine W.call (l01Moved_W n1 n10 (hlt h) pid (h.row 0 h00)) fun r4 h4 => ?_
  have l4 := h4.latin h pid (h.row 0 h00) pid
  have o4 := h4.ord
  -- the row 0 is in order
  have z4 : ∀ v : Nat, (v : Int) < q.order → r4.t 0 v = v := fun v hv => by
    obtain ⟨y, hy, ey⟩ := (h.row 0 h00).onto hv
    have e := h4.at_ 0 y h00 hy
    rw [hid.1 0 h00, show (Int.toNat 0) = 0 from rfl, ey] at e
    simp only [Int.toNat_natCast] at e
    rw [hid.1 v hv] at e
    simpa using e
  refine W.call (l01Column_W (by omega) (by omega) (by omega) (by omega)) fun r5 e5 => ?_
  refine W.call (W.eq eid rfl) fun r6 e6 => ?_
  refine W.call (W.eq eid rfl) fun r7 e7 => ?_
  subst e6; subst e7
  have c5 : ∀ i : Nat, (i : Int) < q.order → r5 i = r4.t i 0 := fun i hi => by rw [e5]; simp only; rw [if_pos (by omega)]; rfl
  have p5 : PermP q.order r5 := by
    have := l4.col 0 (by omega)
    rw [o4] at this
    exact this.ext c5
  refine W.call (l01Moved_W (by omega) (by omega) (hlt l4) (by rw [o4]; exact p5) (by rw [o4]; exact pid)) fun r8 h8 => W.some ?_
  have l8 := h8.latin l4 (by rw [o4]; exact p5) (by rw [o4]; exact pid) (by rw [o4]; exact pid)
  have o8 : r8.order = q.order := by rw [h8.ord, o4]
  refine ⟨⟨l8, fun y hy => ?_, fun v hv => ?_⟩, o8⟩
  · have e := h8.at_ 0 y (by omega) (by omega)
    have z := z4 y (by omega)
    rw [c5 0 h00, z4 0 h00, hid.1 y (by omega), z] at e
    simp only [Int.toNat_natCast] at e
    rw [hid.1 y (by omega)] at e
    simpa using e
  · rw [o8] at hv
    obtain ⟨x, hx, ex⟩ := p5.onto hv
    have e := h8.at_ x 0 (by omega) (by omega)
    have c := c5 x hx
    rw [ex] at c
    rw [ex, hid.1 0 h00, ← c] at e
    simp only [Int.toNat_natCast] at e
    rw [hid.1 v hv] at e
    simpa using e
end Go.Pu

/- Plain laws: cyclic and elementary squares, direct products, exchanges along a cycle. -/
namespace Go.Pu
open Go Go.Abs Go.Lab

theorem xor_i64 {a b : Nat} (ha : a < 2 ^ 62) (hb : b < 2 ^ 62) : bits .xor .i64 (a : Int) (b : Int) = ((a ^^^ b : Nat) : Int) := by
  show IntKind.i64.wrap ((BitVec.ofInt 64 (a : Int) ^^^ BitVec.ofInt 64 (b : Int)).toNat : Int) = _
  have h : a ^^^ b < 2 ^ 62 := Nat.xor_lt_two_pow ha hb
  have e1 : (BitVec.ofInt 64 (a : Int)).toNat = a := by rw [BitVec.toNat_ofInt]; omega
  have e2 : (BitVec.ofInt 64 (b : Int)).toNat = b := by rw [BitVec.toNat_ofInt]; omega
  rw [BitVec.toNat_xor, e1, e2]
  exact w64 (by omega)

theorem tabF_lt {n : Int} {g : Nat → Nat → Int} {x y : Nat} (hx : (x : Int) < n) (hy : (y : Int) < n) : tabF n g x y = g x y := by unfold tabF; rw [if_pos ⟨hx, hy⟩]
theorem tabF_zero {n : Int} {g : Nat → Nat → Int} {x y : Nat} (h : n ≤ x ∨ n ≤ y) : tabF n g x y = 0 := by unfold tabF; rw [if_neg (by omega)]

theorem latin_tabF {n : Int} {g : Nat → Nat → Int} (h1 : 1 ≤ n) (h10 : n ≤ 10) (hlo : ∀ x y : Nat, (x : Int) < n → (y : Int) < n → 0 ≤ g x y ∧ g x y < n)
    (hr : ∀ x y z : Nat, (x : Int) < n → (y : Int) < n → (z : Int) < n → g x y = g x z → y = z) (hc : ∀ x y z : Nat, (x : Int) < n → (y : Int) < n → (z : Int) < n → g y x = g z x → y = z) : Latin ⟨n, tabF n g⟩ := by
  refine ⟨h1, h10, fun x hx => ⟨fun y hy => ?_, fun y z hy hz e => ?_⟩, fun x hx => ⟨fun y hy => ?_, fun y z hy hz e => ?_⟩, fun x y _ _ h => tabF_zero h⟩ <;> simp only at *
  · rw [tabF_lt hx hy]; exact hlo x y hx hy
  · rw [tabF_lt hx hy, tabF_lt hx hz] at e; exact hr x y z hx hy hz e
  · rw [tabF_lt hy hx]; exact hlo y x hy hx
  · rw [tabF_lt hy hx, tabF_lt hz hx] at e; exact hc x y z hx hy hz e

/-! ## Cyclic squares -/
def cycG (n : Int) (x y : Nat) : Int := ((x : Int) + y) % n
theorem cycG_eq {n : Int} {x y : Nat} (hx : (x : Int) < n) (hy : (y : Int) < n) : cycG n x y = if (x : Int) + y < n then (x : Int) + y else x + y - n := by
  unfold cycG
  split
  · exact Int.emod_eq_of_lt (by omega) (by omega)
  · rw [← Int.sub_emod_right ((x : Int) + y) n]
    exact Int.emod_eq_of_lt (by omega) (by omega)
def cycS (n : Int) : Sq := ⟨n, tabF n (cycG n)⟩
theorem cycS_latin {n : Int} (h1 : 1 ≤ n) (h10 : n ≤ 10) : Latin (cycS n) := by
  refine latin_tabF h1 h10 (fun x y hx hy => ?_) (fun x y z hx hy hz e => ?_) (fun x y z hx hy hz e => ?_)
  · rw [cycG_eq hx hy]; split <;> omega
  · rw [cycG_eq hx hy, cycG_eq hx hz] at e; split at e <;> split at e <;> omega
  · rw [cycG_eq hy hx, cycG_eq hz hx] at e; split at e <;> split at e <;> omega

theorem l01Cyclic_W {n : Int} (h1 : 1 ≤ n) (h10 : n ≤ 10) : W (m_spec_l01Cyclic n) fun r => r = cycS n := by
  unfold m_spec_l01Cyclic
  refine W.fill (n := n) (g := cycG n) (by omega) h10 (step1 := fun x => m_spec_l01Cyclic_l1 n x) (fun x y t hx hx' hy hy' => ?_) (fun x y t hx hx' hy => ?_) (fun x t hx hx' Q' h => ?_) (fun x t hx hx' => ?_) (fun x => ?_)
  · unfold m_spec_l01Cyclic_l1
    refine W.condP (fun h => W.chk (by omega) (W.chk (by omega) (W.chk (by omega) (W.some ?_)))) (fun h => by omega)
    rw [w64 (by omega), w64 (by omega)]
    have e : (x + y).tmod n = cycG n x.toNat y.toNat := by
      unfold cycG
      rw [Int.tmod_eq_emod_of_nonneg (by omega)]
      congr 1; omega
    have := Int.emod_nonneg ((x.toNat : Int) + y.toNat) (show n ≠ 0 by omega)
    have := Int.emod_lt_of_pos ((x.toNat : Int) + y.toNat) (show 0 < n by omega)
    rw [e, w8 (by unfold cycG; omega)]
  · unfold m_spec_l01Cyclic_l1
    exact W.condP (fun h => by omega) (fun h => W.some rfl)
  · unfold m_spec_l01Cyclic_l0
    exact W.condP (fun _ => h _ fun _ _ => rfl) (fun h => by omega)
  · unfold m_spec_l01Cyclic_l0
    exact W.condP (fun h => by omega) (fun h => W.some rfl)
  · exact W.some rfl

/-! ## Elementary squares -/
def eleG (x y : Nat) : Int := ((x ^^^ y : Nat) : Int)
def eleS (k : Nat) : Sq := ⟨((2 ^ k : Nat) : Int), tabF ((2 ^ k : Nat) : Int) eleG⟩
theorem eleG_lt {k : Nat} {x y : Nat} (hx : (x : Int) < ((2 ^ k : Nat) : Int)) (hy : (y : Int) < ((2 ^ k : Nat) : Int)) : 0 ≤ eleG x y ∧ eleG x y < ((2 ^ k : Nat) : Int) := by
  have := Nat.xor_lt_two_pow (n := k) (x := x) (y := y) (by omega) (by omega)
  unfold eleG; omega
theorem xor_cancel {a b c : Nat} (h : a ^^^ b = a ^^^ c) : b = c := by
  have : a ^^^ (a ^^^ b) = a ^^^ (a ^^^ c) := by rw [h]
  simpa [← Nat.xor_assoc, Nat.xor_self] using this
theorem pow3 {k : Nat} (h : k ≤ 3) : 1 ≤ 2 ^ k ∧ 2 ^ k ≤ 8 := by
  have : 2 ^ k ≤ 2 ^ 3 := Nat.pow_le_pow_right (by omega) h
  have : 0 < 2 ^ k := Nat.pow_pos (by omega)
  omega
theorem eleS_latin {k : Nat} (h : k ≤ 3) : Latin (eleS k) := by
  have := pow3 h
  refine latin_tabF (by omega) (by omega) (fun x y hx hy => eleG_lt hx hy) (fun x y z hx hy hz e => ?_) (fun x y z hx hy hz e => ?_)
  · unfold eleG at e; exact xor_cancel (a := x) (by omega)
  · unfold eleG at e
    rw [Nat.xor_comm y x, Nat.xor_comm z x] at e
    exact xor_cancel (a := x) (by omega)

theorem l01Elementary_W {k : Int} (h0 : 0 ≤ k) (h3 : k ≤ 3) : W (m_spec_l01Elementary k) fun r => r = eleS k.toNat := by
  have e : IntKind.i64.wrap (1 * 2 ^ (min ((IntKind.u64.wrap k)).toNat IntKind.i64.bits)) = ((2 ^ k.toNat : Nat) : Int) := by
    rw [wu64 (by omega)]; exact bit_i64 h0 (by omega)
  have hp := pow3 (k := k.toNat) (by omega)
  unfold m_spec_l01Elementary
  rw [e]
  refine W.chk (wu64_lt _).1 ?_
  refine W.fill (n := ((2 ^ k.toNat : Nat) : Int)) (g := eleG) (by omega) (by omega) (step1 := fun x => m_spec_l01Elementary_l1 k x) (fun x y t hx hx' hy hy' => ?_) (fun x y t hx hx' hy => ?_) (fun x t hx hx' Q' h => ?_) (fun x t hx hx' => ?_) (fun x => ?_)
  · unfold m_spec_l01Elementary_l1
    rw [e]
    refine W.condP (fun h => W.chk (by omega) (W.chk (by omega) (W.some ?_))) (fun h => by omega)
    rw [w64 (by omega)]
    have e' : bits .xor .i64 x y = eleG x.toNat y.toNat := by
      have := xor_i64 (a := x.toNat) (b := y.toNat) (by omega) (by omega)
      unfold eleG
      rw [← this]; congr 1 <;> omega
    have := eleG_lt (k := k.toNat) (x := x.toNat) (y := y.toNat) (by omega) (by omega)
    rw [e', w8 (by omega)]
  · unfold m_spec_l01Elementary_l1
    rw [e]
    exact W.condP (fun h => by omega) (fun h => W.some rfl)
  · unfold m_spec_l01Elementary_l0
    rw [e]
    exact W.condP (fun _ => h _ fun _ _ => rfl) (fun h => by omega)
  · unfold m_spec_l01Elementary_l0
    rw [e]
    exact W.condP (fun h => by omega) (fun h => W.some rfl)
  · exact W.some rfl

/-! ## Direct products -/
def dirG (q r : Sq) (x y : Nat) : Int := r.order * q.t (x / r.order.toNat) (y / r.order.toNat) + r.t (x % r.order.toNat) (y % r.order.toNat)
def dirS (q r : Sq) : Sq := ⟨q.order * r.order, tabF (q.order * r.order) (dirG q r)⟩
theorem div_lt {n m : Int} {x : Nat} (hn : 0 ≤ n) (hm : 1 ≤ m) (h : (x : Int) < n * m) : ((x / m.toNat : Nat) : Int) < n := by
  have e : ((n.toNat * m.toNat : Nat) : Int) = n * m := by rw [Int.natCast_mul]; congr 1 <;> omega
  have : x < n.toNat * m.toNat := by omega
  have := Nat.div_lt_of_lt_mul (m := x) (n := m.toNat) (k := n.toNat) (by rw [Nat.mul_comm]; exact this)
  omega
theorem mod_lt {m : Int} (x : Nat) (hm : 1 ≤ m) : ((x % m.toNat : Nat) : Int) < m := by
  have := Nat.mod_lt x (show 0 < m.toNat by omega)
  omega
theorem dm_inj {m a b a' b' : Int} (h0 : 0 ≤ b) (h : b < m) (h0' : 0 ≤ b') (h' : b' < m) (e : m * a + b = m * a' + b') : a = a' ∧ b = b' := by
  have e1 : (m * a + b) / m = a := by rw [Int.add_comm, Int.add_mul_ediv_left _ _ (by omega), Int.ediv_eq_zero_of_lt h0 h]; omega
  have e2 : (m * a' + b') / m = a' := by rw [Int.add_comm, Int.add_mul_ediv_left _ _ (by omega), Int.ediv_eq_zero_of_lt h0' h']; omega
  have ea : a = a' := by rw [← e1, ← e2, e]
  subst ea
  exact ⟨rfl, by omega⟩
theorem dm_nat {m x y : Nat} (h1 : x / m = y / m) (h2 : x % m = y % m) : x = y := by
  rw [← Nat.div_add_mod x m, ← Nat.div_add_mod y m, h1, h2]
theorem mul_le10 {n m : Int} (h1 : 1 ≤ n) (h1' : 1 ≤ m) (h : n * m ≤ 10) : n ≤ 10 ∧ m ≤ 10 ∧ 1 ≤ n * m := by
  have a : n * 1 ≤ n * m := Int.mul_le_mul_of_nonneg_left h1' (by omega)
  have b : 1 * m ≤ n * m := Int.mul_le_mul_of_nonneg_right h1 (by omega)
  omega
theorem dirG_lt {q r : Sq} (hq : Latin q) (hr : Latin r) {x y : Nat} (hx : (x : Int) < q.order * r.order) (hy : (y : Int) < q.order * r.order) : 0 ≤ dirG q r x y ∧ dirG q r x y < q.order * r.order := by
  have := hq.n1; have := hr.n1
  have a := hq.lt (div_lt (by omega) hr.n1 hx) (div_lt (by omega) hr.n1 hy)
  have b := hr.lt (mod_lt x hr.n1) (mod_lt y hr.n1)
  unfold dirG
  have c : r.order * q.t (x / r.order.toNat) (y / r.order.toNat) ≤ r.order * (q.order - 1) := Int.mul_le_mul_of_nonneg_left (by omega) (by omega)
  have d : 0 ≤ r.order * q.t (x / r.order.toNat) (y / r.order.toNat) := Int.mul_nonneg (by omega) (by omega)
  have e : r.order * (q.order - 1) = q.order * r.order - r.order := by rw [Int.mul_sub, Int.mul_one, Int.mul_comm]
  omega
theorem dirS_latin {q r : Sq} (hq : Latin q) (hr : Latin r) (h10 : q.order * r.order ≤ 10) : Latin (dirS q r) := by
  have q1 := hq.n1; have r1 := hr.n1
  refine latin_tabF (mul_le10 q1 r1 h10).2.2 h10 (fun x y hx hy => dirG_lt hq hr hx hy) (fun x y z hx hy hz e => ?_) (fun x y z hx hy hz e => ?_)
  · unfold dirG at e
    have dx := div_lt (by omega) r1 hx; have dy := div_lt (by omega) r1 hy; have dz := div_lt (by omega) r1 hz
    have b := hr.lt (mod_lt x r1) (mod_lt y r1); have c := hr.lt (mod_lt x r1) (mod_lt z r1)
    obtain ⟨f, g⟩ := dm_inj b.1 b.2 c.1 c.2 e
    exact dm_nat ((hq.row _ dx).inj _ _ dy dz f) ((hr.row _ (mod_lt x r1)).inj _ _ (mod_lt y r1) (mod_lt z r1) g)
  · unfold dirG at e
    have dx := div_lt (by omega) r1 hx; have dy := div_lt (by omega) r1 hy; have dz := div_lt (by omega) r1 hz
    have b := hr.lt (mod_lt y r1) (mod_lt x r1); have c := hr.lt (mod_lt z r1) (mod_lt x r1)
    obtain ⟨f, g⟩ := dm_inj b.1 b.2 c.1 c.2 e
    exact dm_nat ((hq.col _ dx).inj _ _ dy dz f) ((hr.col _ (mod_lt x r1)).inj _ _ (mod_lt y r1) (mod_lt z r1) g)
theorem tdiv_nat {x m : Int} (hx : 0 ≤ x) (hm : 1 ≤ m) : x.tdiv m = ((x.toNat / m.toNat : Nat) : Int) := by
  rw [Int.tdiv_eq_ediv_of_nonneg hx, Int.natCast_ediv]; congr 1 <;> omega
theorem tmod_nat {x m : Int} (hx : 0 ≤ x) (hm : 1 ≤ m) : x.tmod m = ((x.toNat % m.toNat : Nat) : Int) := by
  rw [Int.tmod_eq_emod_of_nonneg hx, Int.natCast_emod]; congr 1 <;> omega

/-- the entry that is stored -/
theorem dir_entry {q r : Sq} (hq : Latin q) (hr : Latin r) (h10 : q.order * r.order ≤ 10) {x y : Nat} (hx : (x : Int) < q.order * r.order) (hy : (y : Int) < q.order * r.order) :
    IntKind.u8.wrap (IntKind.u8.wrap (r.order * q.t (x / r.order.toNat) (y / r.order.toNat)) + r.t (x % r.order.toNat) (y % r.order.toNat)) = dirG q r x y := by
  have := dirG_lt hq hr hx hy
  have b := hr.lt (mod_lt x hr.n1) (mod_lt y hr.n1)
  have a := hq.lt (div_lt (by have := hq.n1; omega) hr.n1 hx) (div_lt (by have := hq.n1; omega) hr.n1 hy)
  have d : 0 ≤ r.order * q.t (x / r.order.toNat) (y / r.order.toNat) := Int.mul_nonneg (by have := hr.n1; omega) (by omega)
  unfold dirG at *
  rw [w8 (n := r.order * _) (by omega), w8 (by omega)]

theorem l01Direct_W {q r : Sq} (hq : Latin q) (hr : Latin r) (h10 : q.order * r.order ≤ 10) : W (m_spec_l01Direct q r) fun s => s = dirS q r := by
  have q1 := hq.n1; have r1 := hr.n1
  obtain ⟨q10, r10, m1⟩ := mul_le10 q1 r1 h10
  unfold m_spec_l01Direct
  rw [w64 (by omega)]
  refine W.fill (n := q.order * r.order) (g := dirG q r) (by omega) h10 (step1 := fun x => m_spec_l01Direct_l1 q r x) (fun x y t hx hx' hy hy' => ?_) (fun x y t hx hx' hy => ?_) (fun x t hx hx' Q' h => ?_) (fun x t hx hx' => ?_) (fun x => ?_)
  · unfold m_spec_l01Direct_l1
    dsimp only
    have dx := div_lt (x := x.toNat) (n := q.order) (m := r.order) (by omega) r1 (by omega)
    have dy := div_lt (x := y.toNat) (n := q.order) (m := r.order) (by omega) r1 (by omega)
    have mx := mod_lt (m := r.order) x.toNat r1
    have my := mod_lt (m := r.order) y.toNat r1
    have nn : ∀ a : Nat, 0 ≤ (a : Int) := fun a => Int.natCast_nonneg a
    have n1 := nn (x.toNat / r.order.toNat); have n2 := nn (y.toNat / r.order.toNat); have n3 := nn (x.toNat % r.order.toNat); have n4 := nn (y.toNat % r.order.toNat)
    rw [tdiv_nat hx r1, tdiv_nat hy r1, tmod_nat hx r1, tmod_nat hy r1]
    rw [w64 (n := ((x.toNat / r.order.toNat : Nat) : Int)) (by omega), w64 (n := ((y.toNat / r.order.toNat : Nat) : Int)) (by omega)]
    refine W.condP (fun h => W.chk (by omega) (W.chk (by omega) (W.chk (by omega) (W.chk (by omega) (W.chk (by omega) (W.chk (by omega) (W.chk (by omega) (W.chk (by omega) (W.chk (by omega) (W.chk (by omega) (W.some ?_))))))))))) (fun h => by omega)
    simp only [Int.toNat_natCast]
    rw [w64 (by omega), w8 (n := r.order) (by omega), dir_entry hq hr h10 (by omega) (by omega)]
  · unfold m_spec_l01Direct_l1
    exact W.condP (fun h => by simp only at h; omega) (fun h => W.some rfl)
  · unfold m_spec_l01Direct_l0
    exact W.condP (fun _ => h _ fun _ _ => rfl) (fun h => by simp only at h; omega)
  · unfold m_spec_l01Direct_l0
    exact W.condP (fun h => by simp only at h; omega) (fun h => W.some rfl)
  · exact W.some rfl

/-! ## The opposite -/
theorem l01Opposite_W {q : Sq} (h : Latin q) : W (m_spec_l01Opposite q) fun r => Latin r ∧ r.order = q.order ∧ ∀ x y : Nat, r.t x y = if x < 10 ∧ y < 10 then q.t y x else 0 := by
  have n10 := h.n10
  unfold m_spec_l01Opposite
  refine W.call (l01Turned_W _) fun r hr => W.some ⟨⟨h.n1, h.n10, fun x hx => ?_, fun y hy => ?_, fun x y hx hy hz => ?_⟩, rfl, hr⟩ <;> simp only at *
  · exact (h.col x hx).ext fun i hi => by rw [hr, if_pos (by omega)]
  · exact (h.row y hy).ext fun i hi => by rw [hr, if_pos (by omega)]
  · rw [hr, if_pos (by omega)]; exact h.zero y x hy hx (by omega)
end Go.Pu

/- Plain laws: exchanges along a cycle, and the draws of squares. -/
namespace Go.Pu
open Go Go.Abs Go.Lab

/-- Two rows of a square, of which the columns V are exchanged. -/
structure Sw (q0 : Sq) (a b : Nat) (V : Nat → Prop) (t : Nat → Nat → Int) : Prop where
  ina : ∀ c : Nat, V c → t a c = q0.t b c
  inb : ∀ c : Nat, V c → t b c = q0.t a c
  out : ∀ r c : Nat, ¬ V c ∨ (r ≠ a ∧ r ≠ b) → t r c = q0.t r c

theorem Sw.latin {q0 : Sq} (h : Latin q0) {a b : Nat} (ha : (a : Int) < q0.order) (hb : (b : Int) < q0.order) (hab : a ≠ b) {V : Nat → Prop} [∀ c, Decidable (V c)] {t : Nat → Nat → Int} (s : Sw q0 a b V t)
    (hV : ∀ c, V c → (c : Int) < q0.order) (c1 : ∀ v, V v → ∃ u, V u ∧ q0.t a u = q0.t b v) (c2 : ∀ u, V u → ∃ v, V v ∧ q0.t b v = q0.t a u) : Latin ⟨q0.order, t⟩ := by
  have ra := h.row a ha; have rb := h.row b hb
  have ea : ∀ c, t a c = if V c then q0.t b c else q0.t a c := fun c => by
    split
    · exact s.ina c ‹_›
    · exact s.out a c (.inl ‹_›)
  have eb : ∀ c, t b c = if V c then q0.t a c else q0.t b c := fun c => by
    split
    · exact s.inb c ‹_›
    · exact s.out b c (.inl ‹_›)
  refine ⟨h.n1, h.n10, fun x hx => ?_, fun y hy => ?_, fun x y hx hy hz => ?_⟩ <;> simp only at *
  · by_cases hxa : x = a
    · subst hxa
      refine ⟨fun i hi => ?_, fun i j hi hj e => ?_⟩
      · rw [ea]; split
        · exact rb.lo i hi
        · exact ra.lo i hi
      · rw [ea, ea] at e
        split at e <;> split at e
        · exact rb.inj i j hi hj e
        · rename_i vi vj
          obtain ⟨u, hu, eu⟩ := c1 i vi
          exact absurd (ra.inj u j (hV u hu) hj (eu.trans e) ▸ hu) vj
        · rename_i vi vj
          obtain ⟨u, hu, eu⟩ := c1 j vj
          exact absurd (ra.inj u i (hV u hu) hi (eu.trans e.symm) ▸ hu) vi
        · exact ra.inj i j hi hj e
    · by_cases hxb : x = b
      · subst hxb
        refine ⟨fun i hi => ?_, fun i j hi hj e => ?_⟩
        · rw [eb]; split
          · exact ra.lo i hi
          · exact rb.lo i hi
        · rw [eb, eb] at e
          split at e <;> split at e
          · exact ra.inj i j hi hj e
          · rename_i vi vj
            obtain ⟨u, hu, eu⟩ := c2 i vi
            exact absurd (rb.inj u j (hV u hu) hj (eu.trans e) ▸ hu) vj
          · rename_i vi vj
            obtain ⟨u, hu, eu⟩ := c2 j vj
            exact absurd (rb.inj u i (hV u hu) hi (eu.trans e.symm) ▸ hu) vi
          · exact rb.inj i j hi hj e
      · exact (h.row x hx).ext fun i _ => s.out x i (.inr ⟨hxa, hxb⟩)
  · by_cases hv : V y
    · have := (h.col y hy).swap ha hb
      refine this.ext fun i hi => ?_
      simp only [fset_eq]
      by_cases e1 : i = b
      · rw [if_pos e1, e1, eb, if_pos hv]
      · rw [if_neg e1]
        by_cases e2 : i = a
        · rw [if_pos e2, e2, ea, if_pos hv]
        · rw [if_neg e2]; exact s.out i y (.inr ⟨e2, e1⟩)
    · exact (h.col y hy).ext fun i _ => s.out i y (.inl hv)
  · have hva : V y → (y : Int) < q0.order := hV y
    by_cases hv : V y
    · rw [s.out x y (.inr ⟨by have := hva hv; omega, by have := hva hv; omega⟩)]
      exact h.zero x y hx hy hz
    · rw [s.out x y (.inl hv)]
      exact h.zero x y hx hy hz

theorem Sw.step {q0 : Sq} {a b : Nat} (hab : a ≠ b) {V : List Nat} {t : Nat → Nat → Int} (s : Sw q0 a b (· ∈ V) t) {y : Nat} (hy : y ∉ V) : Sw q0 a b (· ∈ y :: V) (tset (tset t a y (t b y)) b y (t a y)) := by
  refine ⟨fun c hc => ?_, fun c hc => ?_, fun r c hrc => ?_⟩
  · unfold tset
    rw [if_neg (fun e => hab e.1)]
    split
    · rename_i e; rw [e.2]; exact s.out b y (.inl hy)
    · rename_i e
      rcases List.mem_cons.1 hc with e' | hc
      · exact absurd ⟨rfl, e'⟩ e
      · exact s.ina c hc
  · unfold tset
    split
    · rename_i e; rw [e.2]; exact s.out a y (.inl hy)
    · rename_i e
      rw [if_neg (fun e => hab e.1.symm)]
      rcases List.mem_cons.1 hc with e' | hc
      · exact absurd ⟨rfl, e'⟩ e
      · exact s.inb c hc
  · unfold tset
    have hy' : ∀ r', (r' = a ∨ r' = b) → ¬ (r = r' ∧ c = y) := fun r' hr' ⟨e1, e2⟩ => by
      rcases hrc with h | h
      · exact h (by rw [e2]; exact List.mem_cons_self)
      · rcases hr' with hr' | hr'
        · exact h.1 (e1.trans hr')
        · exact h.2 (e1.trans hr')
    rw [if_neg (hy' b (.inr rfl)), if_neg (hy' a (.inl rfl))]
    refine s.out r c ?_
    rcases hrc with h | h
    · exact .inl fun hc => h (List.mem_cons_of_mem _ hc)
    · exact .inr h

theorem l01Switch_W {q : Sq} (h : Latin q) {a b y0 : Int} (ha0 : 0 ≤ a) (ha : a < q.order) (hb0 : 0 ≤ b) (hb : b < q.order) (hy0 : 0 ≤ y0) (hy : y0 < q.order) :
    W (m_spec_l01Switch q a b y0) fun r => Latin r ∧ r.order = q.order := by
  have n1 := h.n1; have n10 := h.n10
  unfold m_spec_l01Switch
  refine W.condEq (fun e => W.some ⟨h, rfl⟩) (fun hab => ?_)
  have hab' : a.toNat ≠ b.toNat := by omega
  have ra := h.row a.toNat (by omega)
  have rb := h.row b.toNat (by omega)
  refine W.bind (W.mono (Q' := fun o => match o with | .ret r => Latin r ∧ r.order = q.order | _ => False) ?_ ?_)
  rotate_left
  · intro o ho
    match o, ho with
    | .ret r, ho => exact W.some ho
  let I : List Nat → Int × Sq × Sq → Prop := fun V s => 0 ≤ s.1 ∧ s.1 < q.order ∧ s.2.1.order = q.order ∧ Sw q a.toNat b.toNat (· ∈ V) s.2.1.t ∧ s.1.toNat ∉ V ∧ V.Nodup ∧ (∀ v, v ∈ V → (v : Int) < q.order)
      ∧ (∀ v, v ∈ V → ∃ u, (u ∈ V ∨ u = s.1.toNat) ∧ q.t a.toNat u = q.t b.toNat v) ∧ (∀ u, u ∈ V ∨ u = s.1.toNat → u = y0.toNat ∨ ∃ v, v ∈ V ∧ q.t b.toNat v = q.t a.toNat u)
  have main : ∀ (m : Nat) (V : List Nat) (s : Int × Sq × Sq), q.order.toNat - V.length = m → I V s → W (loopV (m_spec_l01Switch_l0 a b) s) fun o => match o with | .ret r => Latin r ∧ r.order = q.order | _ => False := by
    intro m
    induction m using Nat.strongRecOn with
    | _ m ih =>
      rintro V ⟨y, ⟨o, t⟩, z⟩ hm ⟨h1, h2, h3, h4, h5, h6, h7, h8, h9⟩
      simp only at h1 h2 h3 h4 h5 h8 h9
      subst h3
      have hlen : V.length + 1 ≤ q.order.toNat := by
        have hnd : (y.toNat :: V).Nodup := List.nodup_cons.2 ⟨h5, h6⟩
        have hsub : (y.toNat :: V) ⊆ List.range q.order.toNat := by
          intro x hx
          rw [List.mem_range]
          rcases List.mem_cons.1 hx with e | hx
          · omega
          · have := h7 x hx; omega
        have := hnd.length_le_of_subset hsub
        simpa using this
      have s' := Sw.step hab' h4 h5
      have tin : ∀ c : Nat, c ∈ y.toNat :: V → (tset (tset t a.toNat y.toNat (t b.toNat y.toNat)) b.toNat y.toNat (t a.toNat y.toNat)) a.toNat c = q.t b.toNat c := s'.ina
      have tout : ∀ c : Nat, c ∉ y.toNat :: V → (tset (tset t a.toNat y.toNat (t b.toNat y.toNat)) b.toNat y.toNat (t a.toNat y.toNat)) a.toNat c = q.t a.toNat c := fun c hc => s'.out _ c (.inl hc)
      rw [loopV_eq]
      unfold m_spec_l01Switch_l0
      dsimp only
      generalize et : tset (tset t a.toNat y.toNat (t b.toNat y.toNat)) b.toNat y.toNat (t a.toNat y.toNat) = t' at s' tin tout ⊢
      refine W.bind ?_
      refine W.chk (by omega) (W.chk (by omega) (W.chk (by omega) (W.chk (by omega) (W.chk (by omega) (W.chk (by omega) (W.chk (by omega) (W.chk (by omega) ?_)))))))
      refine W.upto (fun s => s.1) q.order (fun s => 0 ≤ s.1 ∧ s.1 < q.order ∧ ∀ c : Nat, (c : Int) < s.1 → c = y.toNat ∨ t' a.toNat c ≠ t' a.toNat y.toNat) ⟨by simp, by simp only; omega, fun c hc => by simp only at hc; omega⟩ ?_
      rintro ⟨x4, x5⟩ ⟨g1, g2, g3⟩
      simp only at g1 g2 g3
      unfold m_spec_l01Switch_l1
      dsimp only
      rw [et]
      -- none is left: the cycle is closed
      have closed : (∀ c : Nat, (c : Int) < x4 + 1 → c = y.toNat ∨ t' a.toNat c ≠ t' a.toNat y.toNat) → x4 + 1 = q.order → Latin ⟨q.order, t'⟩ := by
        intro hall hx4
        have hy' : t' a.toNat y.toNat = q.t b.toNat y.toNat := tin _ List.mem_cons_self
        have e1 : ∃ u, u ∈ y.toNat :: V ∧ q.t a.toNat u = q.t b.toNat y.toNat := by
          have := rb.lo y.toNat (by omega)
          obtain ⟨u, hu, eu⟩ := ra.onto (v := (q.t b.toNat y.toNat).toNat) (by omega)
          refine ⟨u, ?_, by omega⟩
          by_cases hm : u ∈ y.toNat :: V
          · exact hm
          · exfalso
            have e := tout u hm
            rcases hall u (by omega) with e' | e'
            · exact hm (by rw [e']; exact List.mem_cons_self)
            · exact e' (by rw [e, hy']; omega)
        refine Sw.latin h (by omega) (by omega) hab' s' (fun c hc => ?_) (fun v hv => ?_) (fun u hu => ?_)
        · rcases List.mem_cons.1 hc with e | hc
          · omega
          · exact h7 c hc
        · rcases List.mem_cons.1 hv with e | hv
          · subst e; exact e1
          · obtain ⟨u, hu, eu⟩ := h8 v hv
            refine ⟨u, ?_, eu⟩
            rcases hu with hu | hu
            · exact List.mem_cons_of_mem _ hu
            · rw [hu]; exact List.mem_cons_self
        · have hu' : u ∈ V ∨ u = y.toNat := by
            rcases List.mem_cons.1 hu with e | hu
            · exact .inr e
            · exact .inl hu
          rcases h9 u hu' with e | ⟨v, hv, ev⟩
          · obtain ⟨u0, hu0, eu0⟩ := e1
            have hu0' : u0 ∈ V ∨ u0 = y.toNat := by
              rcases List.mem_cons.1 hu0 with e | hu
              · exact .inr e
              · exact .inl hu
            rcases h9 u0 hu0' with e' | ⟨v, hv, ev⟩
            · exact ⟨y.toNat, List.mem_cons_self, by rw [e, ← e', eu0]⟩
            · have := rb.inj v y.toNat (h7 v hv) (by omega) (by rw [ev, eu0])
              exact absurd (this ▸ hv) h5
          · exact ⟨v, List.mem_cons_of_mem _ hv, ev⟩
      have stepup : (x4.toNat = y.toNat ∨ t' a.toNat x4.toNat ≠ t' a.toNat y.toNat) → ∀ c : Nat, (c : Int) < x4 + 1 → c = y.toNat ∨ t' a.toNat c ≠ t' a.toNat y.toNat := fun hx c hc => by
        by_cases e : (c : Int) = x4
        · have : c = x4.toNat := by omega
          subst this; exact hx
        · exact g3 c (by omega)
      refine W.condEq (fun e => ?_) (fun e => ?_)
      · rw [w8 (by omega), w64 (by omega)]
        have up := stepup (.inl (by omega))
        refine W.condEq (fun e' => W.some (W.some (W.some ⟨closed up e', rfl⟩))) (fun e' => W.some ?_)
        exact ⟨⟨by omega, by omega, up⟩, by omega, by omega⟩
      · refine W.chk (by omega) (W.chk (by omega) (W.chk (by omega) (W.chk (by omega) ?_)))
        refine W.condNe (fun ht => ?_) (fun ht => ?_)
        · rw [w8 (by omega), w64 (by omega)]
          have up := stepup (.inr ht)
          refine W.condEq (fun e' => W.some (W.some (W.some ⟨closed up e', rfl⟩))) (fun e' => W.some ?_)
          exact ⟨⟨by omega, by omega, up⟩, by omega, by omega⟩
        · refine W.some ?_
          simp only [if_true]
          refine W.some ?_
          simp only
          have hy' : t' a.toNat y.toNat = q.t b.toNat y.toNat := tin _ List.mem_cons_self
          have hnot : x4.toNat ∉ y.toNat :: V := fun hm => by
            have e2 := tin _ hm
            have := rb.inj x4.toNat y.toNat (by omega) (by omega) (by rw [← e2, ht, hy'])
            omega
          have ex : q.t a.toNat x4.toNat = q.t b.toNat y.toNat := by rw [← tout _ hnot, ht, hy']
          refine ih (q.order.toNat - (y.toNat :: V).length) (by simp only [List.length_cons]; omega) (y.toNat :: V) _ rfl ⟨g1, g2, rfl, s', hnot, List.nodup_cons.2 ⟨h5, h6⟩, fun v hv => ?_, fun v hv => ?_, fun u hu => ?_⟩
          · rcases List.mem_cons.1 hv with e | hv
            · omega
            · exact h7 v hv
          · rcases List.mem_cons.1 hv with e | hv
            · exact ⟨x4.toNat, .inr rfl, by rw [e]; exact ex⟩
            · obtain ⟨u, hu, eu⟩ := h8 v hv
              refine ⟨u, .inl ?_, eu⟩
              rcases hu with hu | hu
              · exact List.mem_cons_of_mem _ hu
              · rw [hu]; exact List.mem_cons_self
          · rcases hu with hu | hu
            · have hu' : u ∈ V ∨ u = y.toNat := by
                rcases List.mem_cons.1 hu with e | hu
                · exact .inr e
                · exact .inl hu
              rcases h9 u hu' with e | ⟨v, hv, ev⟩
              · exact .inl e
              · exact .inr ⟨v, List.mem_cons_of_mem _ hv, ev⟩
            · exact .inr ⟨y.toNat, List.mem_cons_self, by rw [hu]; exact ex.symm⟩
  refine main _ [] _ rfl ⟨hy0, hy, rfl, ⟨fun c hc => by simp at hc, fun c hc => by simp at hc, fun _ _ _ => rfl⟩, by simp, by simp, by simp, by simp, fun u hu => ?_⟩
  rcases hu with hu | hu
  · simp at hu
  · exact .inl hu
end Go.Pu

/- Plain laws: the draws of squares. -/
namespace Go.Pu
open Go Go.Abs Go.Lab

section
variable {l : List Int} (hl : Code l)
include hl

theorem l01Known_W {s : Rng} (hs : SrcOk l s) : W (m_spec_l01Known s l) fun r => Latin r.1 ∧ SrcOk l r.2 := by
  unfold m_spec_l01Known
  have cyc : ∀ {s : Rng}, SrcOk l s → W ((m_spec_l01Next s l 5).bind fun r5 => ((m_spec_l01Next r5.2 l 8).bind fun r6 => ((m_spec_l01Next r6.2 l 10).bind fun r7 => ((m_spec_l01Pick r7.2 l ([r5.1, r6.1, r7.1])).bind fun r8 => ((m_spec_l01Cyclic (IntKind.i64.wrap (1 + r8.1))).bind fun r9 => some (r9, r8.2)))))) fun r => Latin r.1 ∧ SrcOk l r.2 := by
    intro s hs
    refine W.call (l01Next_W hl hs _ (by omega)) fun r5 h5 => ?_
    refine W.call (l01Next_W hl h5.1 _ (by omega)) fun r6 h6 => ?_
    refine W.call (l01Next_W hl h6.1 _ (by omega)) fun r7 h7 => ?_
    refine W.call (l01Pick_W hl h7.1 _ (by simp) (by simp)) fun r8 h8 => ?_
    have a := h5.2.1 (by omega); have b := h6.2.1 (by omega); have c := h7.2.1 (by omega)
    have d := h8.2
    simp only [List.mem_cons, List.not_mem_nil, or_false] at d
    rw [w64 (by omega)]
    refine W.call (l01Cyclic_W (by omega) (by omega)) fun r9 h9 => W.some ⟨?_, h8.1⟩
    rw [h9]; exact cycS_latin (by omega) (by omega)
  refine W.call (l01Next_W hl hs _ (by omega)) fun r1 h1 => ?_
  have a1 := h1.2.1 (by omega)
  refine W.cond (fun _ => ?_) (fun _ => W.cond (fun _ => ?_) (fun _ => W.cond (fun _ => ?_) (fun _ => cyc h1.1)))
  · refine W.call (l01Next_W hl h1.1 _ (by omega)) fun r2 h2 => ?_
    have a2 := h2.2.1 (by omega)
    refine W.chk (by omega) ?_
    refine W.call (l01Read_W ?_) fun r3 h3 => ?_
    · have : r2.1.toNat = 0 ∨ r2.1.toNat = 1 ∨ r2.1.toNat = 2 ∨ r2.1.toNat = 3 := by omega
      rcases this with e | e | e | e <;> rw [e] <;> decide
    refine W.cond (fun e => ?_) (fun e => cyc h2.1)
    exact W.call (l01Ordered_W (h3.2 e)) fun r4 h4 => W.some ⟨h4.1.toLatin, h2.1⟩
  · refine W.call (l01Next_W hl h1.1 _ (by omega)) fun r2 h2 => ?_
    have a2 := h2.2.1 (by omega)
    refine W.call (l01Elementary_W (by omega) (by omega)) fun r3 h3 => W.some ⟨?_, h2.1⟩
    rw [h3]; exact eleS_latin (by omega)
  · refine W.call (l01Next_W hl h1.1 _ (by omega)) fun r2 h2 => ?_
    have a2 := h2.2.1 (by omega)
    rw [w64 (by omega)]
    refine W.call (l01Cyclic_W (by omega) (by omega)) fun r3 h3 => ?_
    refine W.call (l01Next_W hl h2.1 _ (by omega)) fun r4 h4 => ?_
    have a4 := h4.2.1 (by omega)
    rw [w64 (by omega)]
    refine W.call (l01Cyclic_W (by omega) (by omega)) fun r5 h5 => ?_
    subst h3; subst h5
    have c1 := cycS_latin (n := 1 + r2.1) (by omega) (by omega)
    have c2 := cycS_latin (n := 1 + r4.1) (by omega) (by omega)
    have hm : (1 + r2.1) * (1 + r4.1) ≤ 10 := by
      have : (1 + r2.1) * (1 + r4.1) ≤ 3 * 3 := Int.mul_le_mul (by omega) (by omega) (by omega) (by omega)
      omega
    refine W.call (l01Direct_W c1 c2 hm) fun r6 h6 => W.some ⟨?_, h4.1⟩
    rw [h6]; exact dirS_latin c1 c2 hm

theorem l01Draw_W {s : Rng} (hs : SrcOk l s) : W (m_spec_l01Draw s l) fun r => Loop r.1 ∧ SrcOk l r.2 := by
  unfold m_spec_l01Draw
  refine W.call (l01Known_W hl hs) fun r1 h1 => ?_
  refine W.call (l01Pick_W hl h1.2 _ (by simp) (by simp)) fun r2 h2 => ?_
  have n1 := h1.1.n1; have n10 := h1.1.n10
  have d := h2.2
  simp only [List.mem_cons, List.not_mem_nil, or_false] at d
  refine W.loop (fun s => s.1 ≤ 4 ∧ Latin s.2.1 ∧ s.2.1.order = r1.1.order ∧ SrcOk l s.2.2) (fun s => s.1.toNat) ⟨by simp only; omega, h1.1, rfl, h2.1⟩ ?_
  rintro ⟨x1, x2, x3⟩ ⟨g1, g2, g3, g4⟩
  simp only at g1 g2 g3 g4
  unfold m_spec_l01Draw_l0
  refine W.condP (fun h => ?_) (fun h => ?_)
  · refine W.call (l01Next_W hl g4 _ (by omega)) fun r3 h3 => ?_
    rw [← g3] at n1 n10 ⊢
    have sw : ∀ {q : Sq} {s : Rng}, Latin q → q.order = x2.order → SrcOk l s → W ((m_spec_l01Next s l x2.order).bind fun r5 => ((m_spec_l01Next r5.2 l x2.order).bind fun r6 => ((m_spec_l01Next r6.2 l x2.order).bind fun r7 => ((m_spec_l01Switch q (IntKind.u8.wrap r5.1) (IntKind.u8.wrap r6.1) (IntKind.u8.wrap r7.1)).bind fun r8 => some (Out.next (ρ := Sq × Rng) (IntKind.i64.wrap (x1 - 1), r8, r7.2))))))
        fun o => match o with | .next s' => (s'.1 ≤ 4 ∧ Latin s'.2.1 ∧ s'.2.1.order = x2.order ∧ SrcOk l s'.2.2) ∧ s'.1.toNat < x1.toNat | _ => False := by
      intro q s hq ho hs
      refine W.call (l01Next_W hl hs _ (by omega)) fun r5 h5 => ?_
      refine W.call (l01Next_W hl h5.1 _ (by omega)) fun r6 h6 => ?_
      refine W.call (l01Next_W hl h6.1 _ (by omega)) fun r7 h7 => ?_
      have a := h5.2.1 (by omega); have b := h6.2.1 (by omega); have c := h7.2.1 (by omega)
      rw [w8 (by omega), w8 (by omega), w8 (by omega)]
      refine W.call (l01Switch_W hq a.1 (by omega) b.1 (by omega) c.1 (by omega)) fun r8 h8 => W.some ?_
      simp only
      rw [w64 (by omega)]
      exact ⟨⟨by omega, h8.1, by rw [h8.2, ho], h7.1⟩, by omega⟩
    refine W.mono (Q' := fun o => match o with | .next s' => (s'.1 ≤ 4 ∧ Latin s'.2.1 ∧ s'.2.1.order = x2.order ∧ SrcOk l s'.2.2) ∧ s'.1.toNat < x1.toNat | _ => False) ?_ ?_
    · refine W.cond (fun _ => ?_) (fun _ => sw g2 rfl h3.1)
      exact W.call (l01Opposite_W g2) fun r4 h4 => sw h4.1 h4.2.1 h3.1
    · intro o ho
      match o, ho with
      | .next s', ho => exact ho
  · refine W.some ?_
    simp only [if_true]
    refine W.call (l01Next_W hl g4 _ (by omega)) fun r13 h13 => ?_
    rw [← g3] at n1 n10 ⊢
    have hlt : ∀ x y : Nat, (x : Int) < x2.order → (y : Int) < x2.order → 0 ≤ x2.t x y ∧ x2.t x y < 10 := fun x y hx hy => by have := g2.lt hx hy; omega
    refine W.cond (fun _ => ?_) (fun _ => W.call (l01Ordered_W g2) fun r h => W.some ⟨h.1, h13.1⟩)
    refine W.call (l01DrawPlaces_W hl h13.1 n10 (by omega)) fun r14 h14 => ?_
    refine W.call (l01DrawPlaces_W hl h14.2.2 n10 (by omega)) fun r15 h15 => ?_
    refine W.call (l01DrawPlaces_W hl h15.2.2 n10 (by omega)) fun r16 h16 => ?_
    refine W.call (l01Moved_W n1 n10 hlt h14.1 h15.1) fun r17 h17 => ?_
    exact W.call (l01Ordered_W (h17.latin g2 h14.1 h15.1 h16.1)) fun r h => W.some ⟨h.1, h16.2.2⟩

theorem l01DrawSquare_W {s : Rng} (hs : SrcOk l s) : W (m_spec_l01DrawSquare s l) fun r => Latin r.1 ∧ SrcOk l r.2 := by
  unfold m_spec_l01DrawSquare
  refine W.call (l01Draw_W hl hs) fun r1 h1 => ?_
  have g2 := h1.1.toLatin
  have n1 := g2.n1; have n10 := g2.n10
  have hlt : ∀ x y : Nat, (x : Int) < r1.1.order → (y : Int) < r1.1.order → 0 ≤ r1.1.t x y ∧ r1.1.t x y < 10 := fun x y hx hy => by have := g2.lt hx hy; omega
  refine W.call (l01Next_W hl h1.2 _ (by omega)) fun r2 h2 => ?_
  refine W.cond (fun _ => W.some ⟨g2, h2.1⟩) (fun _ => ?_)
  refine W.call (l01DrawPlaces_W hl h2.1 n10 (by omega)) fun r14 h14 => ?_
  refine W.call (l01DrawPlaces_W hl h14.2.2 n10 (by omega)) fun r15 h15 => ?_
  refine W.call (l01DrawPlaces_W hl h15.2.2 n10 (by omega)) fun r16 h16 => ?_
  exact W.call (l01Moved_W n1 n10 hlt h14.1 h15.1) fun r17 h17 => W.some ⟨h17.latin g2 h14.1 h15.1 h16.1, h16.2.2⟩

/-- A struct that the program can bear: entries are bytes. -/
structure SqOk (q : Sq) : Prop where
  o0 : -1 ≤ q.order
  o1 : q.order ≤ 11
  byt : Byt q.t

theorem l01Broken_W {s : Rng} (hs : SrcOk l s) {q : Sq} (hq : Latin q) : W (m_spec_l01Broken s l q) fun r => SqOk r.1 ∧ SrcOk l r.2 := by
  have n1 := hq.n1; have n10 := hq.n10
  unfold m_spec_l01Broken
  refine W.call (l01Next_W hl hs _ (by omega)) fun r1 h1 => ?_
  refine W.cond (fun _ => W.some ⟨⟨by simp only; omega, by simp only; omega, hq.byt.tset _ _ (w8_lt _)⟩, h1.1⟩) (fun _ => W.cond (fun _ => ?_) (fun _ => W.cond (fun _ => ?_) (fun _ => W.some ⟨⟨by simp only; omega, by simp only; omega, hq.byt⟩, h1.1⟩)))
  · rw [w64 (by omega), w64 (by omega)]
    refine W.call (l01Pick_W hl h1.1 _ (by simp) (by simp)) fun r2 h2 => W.some ⟨⟨?_, ?_, hq.byt⟩, h2.1⟩ <;>
    · have d := h2.2
      simp only [List.mem_cons, List.not_mem_nil, or_false] at d ⊢
      omega
  · exact W.call (l01Pick_W hl h1.1 _ (by simp) (by simp)) fun r3 h3 => W.some ⟨⟨by simp only; omega, by simp only; omega, hq.byt.tset _ _ (w8_lt _)⟩, h3.1⟩

theorem l01Spoil_W {s : Rng} (hs : SrcOk l s) : W (m_spec_l01Spoil s l) fun r => SqOk r.1 ∧ SrcOk l r.2 := by
  unfold m_spec_l01Spoil
  refine W.call (l01Next_W hl hs _ (by omega)) fun r1 h1 => W.cond (fun _ => ?_) (fun _ => ?_)
  · exact W.call (l01Draw_W hl h1.1) fun r2 h2 => W.call (l01Broken_W hl h2.2 h2.1.toLatin) fun r3 h3 => W.some h3
  · exact W.call (l01DrawSquare_W hl h1.1) fun r2 h2 => W.call (l01Broken_W hl h2.2 h2.1) fun r3 h3 => W.some h3

theorem DrawDirectProduct_W : W (m_spec_DrawDirectProduct l) fun r => SqOk r.1 ∧ SqOk r.2 := by
  unfold m_spec_DrawDirectProduct
  refine W.call (l01From_W hl) fun r1 h1 => W.call (l01Next_W hl h1 _ (by omega)) fun r2 h2 => W.cond (fun _ => ?_) (fun _ => ?_)
  · exact W.call (l01Spoil_W hl h2.1) fun r3 h3 => W.call (l01Spoil_W hl h3.2) fun r4 h4 => W.some ⟨h3.1, h4.1⟩
  · refine W.call (l01Spoil_W hl h2.1) fun r5 h5 => ?_
    refine W.call (l01Pick_W hl h5.2 _ (by simp) (by simp)) fun r6 h6 => ?_
    have d := h6.2
    simp only [List.mem_cons, List.not_mem_nil, or_false] at d
    refine W.call (l01Next_W hl h6.1 _ (by omega)) fun r7 h7 => ?_
    have := h7.2.1 (by omega)
    rw [w64 (by omega)]
    refine W.call (l01Cyclic_W (by omega) (by omega)) fun r8 h8 => ?_
    subst h8
    exact W.call (l01Broken_W hl h7.1 (cycS_latin (by omega) (by omega))) fun r9 h9 => W.some ⟨h5.1, h9.1⟩
end
end Go.Pu

/- Plain laws: the program's functions on squares. -/
namespace Go.Pu
open Go Go.Abs Go.Lab

theorem elements_W {q : Sq} (h0 : 0 ≤ q.order) (h1 : q.order ≤ 200) : W (m_impl_Square_elements q) fun r => (r.length : Int) = q.order ∧ ∀ i : Nat, (i : Int) < q.order → r.getD i 0 = i := by
  unfold m_impl_Square_elements
  refine W.upto (fun s => s.2) q.order (fun s => 0 ≤ s.2 ∧ s.2 ≤ q.order ∧ (s.1.length : Int) = s.2 ∧ ∀ i : Nat, (i : Int) < s.2 → s.1.getD i 0 = i) ⟨by simp, by simp; omega, by simp, fun i hi => by simp only at hi; omega⟩ ?_
  rintro ⟨x1, x2⟩ ⟨h2, h3, h4, h5⟩
  simp only at h2 h3 h4 h5
  unfold m_impl_Square_elements_l0
  dsimp only
  rw [w8 (n := q.order) (by omega)]
  refine W.condP (fun h => W.chk (by omega) (W.some ?_)) (fun h => W.some (W.some ⟨by show (x1.length : Int) = _; omega, fun i hi => h5 i (by omega)⟩))
  simp only
  rw [w8 (by omega)]
  refine ⟨⟨by omega, by omega, by simp; omega, fun i hi => ?_⟩, by omega, by omega⟩
  rw [List.getD_eq_getElem?_getD, List.getElem?_append]
  split
  · rw [← List.getD_eq_getElem?_getD]; exact h5 i (by omega)
  · have e : i - x1.length = 0 := by omega
    rw [e]; simp; omega

theorem made_W {n : Int} (h0 : 0 ≤ n) (h10 : n ≤ 10) {f : Int → Int → Option Int} {g : Nat → Nat → Int} (hf : ∀ x y : Nat, (x : Int) < n → (y : Int) < n → W (f x y) fun r => r = g x y) : W (m_impl_made n f) fun r => r = ⟨n, tabF n g⟩ := by
  unfold m_impl_made
  refine W.call (elements_W h0 (by simp only; omega)) fun r1 h1 => ?_
  obtain ⟨l1, e1⟩ := h1
  simp only at l1 e1
  obtain ⟨r2, er2, l2, e2⟩ := elements_W (q := ⟨n, tb0⟩) h0 (by simp only; omega)
  have hel : ∀ t, m_impl_Square_elements ⟨n, t⟩ = some r2 := by
    intro t
    rw [← er2]
    rfl
  refine W.fill (n := n) (g := g) h0 h10 (step1 := fun x => m_impl_made_l1 f r1 x r2) (fun x y t hx hx' hy hy' => ?_) (fun x y t hx hx' hy => ?_) (fun x t hx hx' Q' h => ?_) (fun x t hx hx' => ?_) (fun x => ?_)
  · unfold m_impl_made_l1
    dsimp only
    have ex := e1 x.toNat (by omega)
    have ey := e2 y.toNat (by simp only; omega)
    rw [ex, ey]
    simp only at l2
    refine W.condP (fun h => W.chk (by omega) (W.call (hf _ _ (by omega) (by omega)) fun r hr => W.chk (by omega) (W.chk (by omega) (W.some ?_)))) (fun h => by omega)
    rw [w64 (by omega), hr]
    simp only [Int.toNat_natCast]
  · unfold m_impl_made_l1
    simp only at l2
    exact W.condP (fun h => by omega) (fun h => W.some rfl)
  · unfold m_impl_made_l0
    dsimp only
    refine W.condP (fun _ => W.chk (by omega) ?_) (fun h => by omega)
    rw [hel]
    exact h _ fun _ _ => rfl
  · unfold m_impl_made_l0
    exact W.condP (fun h => by omega) (fun h => W.some rfl)
  · exact W.some rfl

theorem impl_cyclic_W {n : Int} (h1 : 1 ≤ n) (h10 : n ≤ 10) : W (m_impl_cyclic n) fun r => r = cycS n := by
  unfold m_impl_cyclic
  refine W.call (made_W (g := cycG n) (by omega) h10 fun x y hx hy => ?_) fun r hr => W.some hr
  unfold m_impl_cyclic_1
  rw [w8 (n := n) (by omega), w8 (by omega)]
  refine W.chk (by omega) (W.some ?_)
  rw [Int.tmod_eq_emod_of_nonneg (by omega)]; rfl

theorem xor_u8 {a b : Nat} (ha : a < 256) (hb : b < 256) : bits .xor .u8 (a : Int) (b : Int) = ((a ^^^ b : Nat) : Int) := by
  show IntKind.u8.wrap ((BitVec.ofInt 8 (a : Int) ^^^ BitVec.ofInt 8 (b : Int)).toNat : Int) = _
  have h : a ^^^ b < 2 ^ 8 := Nat.xor_lt_two_pow ha hb
  have e1 : (BitVec.ofInt 8 (a : Int)).toNat = a := by rw [BitVec.toNat_ofInt]; omega
  have e2 : (BitVec.ofInt 8 (b : Int)).toNat = b := by rw [BitVec.toNat_ofInt]; omega
  rw [BitVec.toNat_xor, e1, e2]
  exact w8 (by omega)

theorem ElementarySquare_W (k : Int) : W (m_impl_ElementarySquare k) fun r => (0 ≤ k ∧ k ≤ 3 ∧ r = (eleS k.toNat, 0)) ∨ (¬ (0 ≤ k ∧ k ≤ 3) ∧ r = (sq0, 2)) := by
  unfold m_impl_ElementarySquare
  refine W.call (within_W _ _ _) fun b hb => W.condNot (fun h => W.some (.inr ⟨?_, rfl⟩)) (fun h => ?_)
  · simp only [h, Bool.false_eq_true, false_iff] at hb; exact hb
  obtain ⟨h0, h3⟩ := hb.1 h
  have hp := pow3 (k := k.toNat) (by omega)
  rw [bit_i64 h0 (by omega)]
  refine W.chk h0 (W.call (made_W (g := eleG) (by omega) (by omega) fun x y hx hy => ?_) fun r hr => W.some (.inl ⟨h0, h3, by rw [hr]; rfl⟩))
  unfold m_impl_ElementarySquare_1
  exact W.some (xor_u8 (by omega) (by omega))
theorem spec_ElementarySquare_W (k : Int) : W (m_spec_ElementarySquare k) fun r => (0 ≤ k ∧ k ≤ 3 ∧ r = (eleS k.toNat, 0)) ∨ (¬ (0 ≤ k ∧ k ≤ 3) ∧ r = (sq0, 2)) := by
  unfold m_spec_ElementarySquare
  refine W.call (l01In_W _ _ _) fun b hb => W.condNot (fun h => W.some (.inr ⟨?_, rfl⟩)) (fun h => ?_)
  · simp only [h, Bool.false_eq_true, false_iff] at hb; exact hb
  obtain ⟨h0, h3⟩ := hb.1 h
  exact W.call (l01Elementary_W h0 h3) fun r hr => W.some (.inl ⟨h0, h3, by rw [hr]⟩)
theorem CyclicSquare_W (n : Int) : W (m_impl_CyclicSquare n) fun r => (1 ≤ n ∧ n ≤ 10 ∧ r = (cycS n, 0)) ∨ (¬ (1 ≤ n ∧ n ≤ 10) ∧ r = (sq0, 2)) := by
  unfold m_impl_CyclicSquare
  refine W.call (within_W _ _ _) fun b hb => W.condNot (fun h => W.some (.inr ⟨?_, rfl⟩)) (fun h => ?_)
  · simp only [h, Bool.false_eq_true, false_iff] at hb; exact hb
  obtain ⟨h0, h3⟩ := hb.1 h
  exact W.call (impl_cyclic_W h0 h3) fun r hr => W.some (.inl ⟨h0, h3, by rw [hr]⟩)
theorem spec_CyclicSquare_W (n : Int) : W (m_spec_CyclicSquare n) fun r => (1 ≤ n ∧ n ≤ 10 ∧ r = (cycS n, 0)) ∨ (¬ (1 ≤ n ∧ n ≤ 10) ∧ r = (sq0, 2)) := by
  unfold m_spec_CyclicSquare
  refine W.call (l01In_W _ _ _) fun b hb => W.condNot (fun h => W.some (.inr ⟨?_, rfl⟩)) (fun h => ?_)
  · simp only [h, Bool.false_eq_true, false_iff] at hb; exact hb
  obtain ⟨h0, h3⟩ := hb.1 h
  exact W.call (l01Cyclic_W h0 h3) fun r hr => W.some (.inl ⟨h0, h3, by rw [hr]⟩)

/-! ## IsSquare -/
theorem IsSquare_W {q : Sq} (hb : Byt q.t) : W (m_impl_IsSquare q) fun r => r = true ↔ Latin q := by
  unfold m_impl_IsSquare
  refine W.call (within_W _ _ _) fun b hbn => W.condNot (fun h => W.some ?_) (fun h => ?_)
  · simp only [h, Bool.false_eq_true, false_iff] at hbn ⊢
    exact fun x => hbn ⟨x.n1, x.n10⟩
  obtain ⟨n1, n10⟩ := hbn.1 h
  have hrow : ∀ x : Nat, (x : Int) < q.order → ByP (q.t x) := fun x hx i hi => hb x i (by omega) hi
  have hcol : ∀ x : Nat, (x : Int) < q.order → ByP fun i => q.t i x := fun x hx i hi => hb i x hi (by omega)
  refine W.upto (fun s => s) 10 (fun s => 0 ≤ s ∧ s ≤ 10 ∧ (∀ x : Nat, (x : Int) < s → (x : Int) < q.order → PermP q.order (q.t x) ∧ PermP q.order fun i => q.t i x) ∧ ∀ x y : Nat, (x : Int) < s → y < 10 → q.order ≤ x ∨ q.order ≤ y → q.t x y = 0) ⟨by omega, by omega, fun x hx => by omega, fun x y hx => by omega⟩ ?_
  rintro x1 ⟨h1, h2, h3, h4⟩
  unfold m_impl_IsSquare_l0
  refine W.condP (fun hx1 => ?_) (fun hx1 => ?_)
  · refine W.upto (fun s => s.2.2) 10 (fun s => 0 ≤ s.2.2 ∧ s.2.2 ≤ 10 ∧ (∀ y : Nat, (y : Int) < s.2.2 → q.order ≤ x1 ∨ q.order ≤ y → q.t x1.toNat y = 0) ∧ (x1 < q.order → (∃ m : Nat, s.1 = m ∧ Met m fun v => ∃ i : Nat, (i : Int) < s.2.2 ∧ (i : Int) < q.order ∧ q.t x1.toNat i = v)
        ∧ (∃ m : Nat, s.2.1 = m ∧ Met m fun v => ∃ i : Nat, (i : Int) < s.2.2 ∧ (i : Int) < q.order ∧ q.t i x1.toNat = v) ∧ ∀ i : Nat, (i : Int) < s.2.2 → (i : Int) < q.order → q.t x1.toNat i < q.order ∧ q.t i x1.toNat < q.order))
      ⟨by simp, by simp, fun y hy => by simp only at hy; omega, fun _ => ⟨⟨0, rfl, Met.zero (by simp; omega)⟩, ⟨0, rfl, Met.zero (by simp; omega)⟩, fun i hi => by simp only at hi; omega⟩⟩ ?_
    rintro ⟨x2, x3, x4⟩ ⟨g1, g2, g3, g4⟩
    simp only at g1 g2 g3 g4
    unfold m_impl_IsSquare_l1
    dsimp only
    have bad : ∀ {P : Prop}, ¬ P → ((false = true) ↔ P) := fun hp => by simp only [Bool.false_eq_true, false_iff]; exact hp
    -- a round inside the square
    have inside : x4 < 10 → x1 < q.order → x4 < q.order → ∀ {k : Option (Out (Int × Int × Int) Bool)}, k = some (.next ((bits .or .i64 x2 (IntKind.i64.wrap (1 * 2 ^ (min (((q.t (x1).toNat (x4).toNat) : Int).toNat) IntKind.i64.bits)))), (bits .or .i64 x3 (IntKind.i64.wrap (1 * 2 ^ (min (((q.t (x4).toNat (x1).toNat) : Int).toNat) IntKind.i64.bits)))), (IntKind.i64.wrap (x4 + 1)))) →
        q.t x1.toNat x4.toNat < q.order → q.t x4.toNat x1.toNat < q.order →
        W k fun o => match o with | .next s' => (0 ≤ s'.2.2 ∧ s'.2.2 ≤ 10 ∧ (∀ y : Nat, (y : Int) < s'.2.2 → q.order ≤ x1 ∨ q.order ≤ y → q.t x1.toNat y = 0) ∧ (x1 < q.order → (∃ m : Nat, s'.1 = m ∧ Met m fun v => ∃ i : Nat, (i : Int) < s'.2.2 ∧ (i : Int) < q.order ∧ q.t x1.toNat i = v)
        ∧ (∃ m : Nat, s'.2.1 = m ∧ Met m fun v => ∃ i : Nat, (i : Int) < s'.2.2 ∧ (i : Int) < q.order ∧ q.t i x1.toNat = v) ∧ ∀ i : Nat, (i : Int) < s'.2.2 → (i : Int) < q.order → q.t x1.toNat i < q.order ∧ q.t i x1.toNat < q.order)) ∧ x4 < s'.2.2 ∧ x4 < 10 | _ => False := by
      intro ha hb1 hc k hk hlt1 hlt2
      subst hk
      refine W.some ?_
      obtain ⟨⟨m, em, hM⟩, ⟨m2, em2, hM2⟩, hi⟩ := g4 hb1
      have v1 := hb x1.toNat x4.toNat (by omega) (by omega)
      have v2 := hb x4.toNat x1.toNat (by omega) (by omega)
      obtain ⟨m', e', hM'⟩ := hM.add (v := q.t x1.toNat x4.toNat) (P' := fun v => ∃ i : Nat, (i : Int) < x4 + 1 ∧ (i : Int) < q.order ∧ q.t x1.toNat i = v) (by omega) (by omega) (fun u => by
        constructor
        · rintro ⟨i, a, b, c⟩
          by_cases e : (i : Int) = x4
          · subst e; right; simp only [Int.toNat_natCast] at c ⊢; omega
          · exact .inl ⟨i, by omega, b, c⟩
        · rintro (⟨i, a, b, c⟩ | e)
          · exact ⟨i, by omega, b, c⟩
          · exact ⟨x4.toNat, by omega, by omega, by omega⟩)
      obtain ⟨m2', e2', hM2'⟩ := hM2.add (v := q.t x4.toNat x1.toNat) (P' := fun v => ∃ i : Nat, (i : Int) < x4 + 1 ∧ (i : Int) < q.order ∧ q.t i x1.toNat = v) (by omega) (by omega) (fun u => by
        constructor
        · rintro ⟨i, a, b, c⟩
          by_cases e : (i : Int) = x4
          · subst e; right; simp only [Int.toNat_natCast] at c ⊢; omega
          · exact .inl ⟨i, by omega, b, c⟩
        · rintro (⟨i, a, b, c⟩ | e)
          · exact ⟨i, by omega, b, c⟩
          · exact ⟨x4.toNat, by omega, by omega, by omega⟩)
      subst em; subst em2
      simp only
      rw [e', e2', w64 (by omega)]
      refine ⟨⟨by omega, by omega, fun y hy ho => g3 y (by omega) (by omega), fun _ => ⟨⟨m', rfl, hM'⟩, ⟨m2', rfl, hM2'⟩, fun i hi' hn => ?_⟩⟩, by omega, ha⟩
      by_cases e : (i : Int) = x4
      · subst e; simp only [Int.toNat_natCast] at hlt1 hlt2; exact ⟨hlt1, hlt2⟩
      · exact hi i (by omega) hn
    have outside : x4 < 10 → (q.order ≤ x1 ∨ q.order ≤ x4) → q.t x1.toNat x4.toNat = 0 → ∀ {k : Option (Out (Int × Int × Int) Bool)}, k = some (.next (x2, x3, (IntKind.i64.wrap (x4 + 1)))) →
        W k fun o => match o with | .next s' => (0 ≤ s'.2.2 ∧ s'.2.2 ≤ 10 ∧ (∀ y : Nat, (y : Int) < s'.2.2 → q.order ≤ x1 ∨ q.order ≤ y → q.t x1.toNat y = 0) ∧ (x1 < q.order → (∃ m : Nat, s'.1 = m ∧ Met m fun v => ∃ i : Nat, (i : Int) < s'.2.2 ∧ (i : Int) < q.order ∧ q.t x1.toNat i = v)
        ∧ (∃ m : Nat, s'.2.1 = m ∧ Met m fun v => ∃ i : Nat, (i : Int) < s'.2.2 ∧ (i : Int) < q.order ∧ q.t i x1.toNat = v) ∧ ∀ i : Nat, (i : Int) < s'.2.2 → (i : Int) < q.order → q.t x1.toNat i < q.order ∧ q.t i x1.toNat < q.order)) ∧ x4 < s'.2.2 ∧ x4 < 10 | _ => False := by
      intro ha ho hz k hk
      subst hk
      refine W.some ?_
      simp only
      rw [w64 (by omega)]
      refine ⟨⟨by omega, by omega, fun y hy ho' => ?_, fun hb1 => ?_⟩, by omega, ha⟩
      · by_cases e : (y : Int) = x4
        · subst e; exact hz
        · exact g3 y (by omega) ho'
      · obtain ⟨⟨m, em, hM⟩, ⟨m2, em2, hM2⟩, hi⟩ := g4 hb1
        refine ⟨⟨m, em, hM.lt, fun v => (hM.bit v).trans ?_⟩, ⟨m2, em2, hM2.lt, fun v => (hM2.bit v).trans ?_⟩, fun i hi' hn => hi i (by omega) hn⟩
        · exact ⟨fun ⟨i, a, b, c⟩ => ⟨i, by omega, b, c⟩, fun ⟨i, a, b, c⟩ => ⟨i, by omega, b, c⟩⟩
        · exact ⟨fun ⟨i, a, b, c⟩ => ⟨i, by omega, b, c⟩, fun ⟨i, a, b, c⟩ => ⟨i, by omega, b, c⟩⟩
    have fit : ∀ {k : Option (Out (Int × Int × Int) Bool)} {Q : Out (Int × Int × Int) Bool → Prop} {P : (Int × Int × Int) → Prop}, W k (fun o => match o with | .next s' => P s' | _ => False) → (∀ s', P s' → Q (.next s')) → W k Q := fun hk hq => hk.mono fun o ho => by
      match o, ho with
      | .next s', ho => exact hq s' ho
    have v1 : x4 < 10 → 0 ≤ q.t x1.toNat x4.toNat ∧ q.t x1.toNat x4.toNat ≤ 255 := fun h => hb x1.toNat x4.toNat (by omega) (by omega)
    have v2 : x4 < 10 → 0 ≤ q.t x4.toNat x1.toNat ∧ q.t x4.toNat x1.toNat ≤ 255 := fun h => hb x4.toNat x1.toNat (by omega) (by omega)
    refine W.condP (fun hx4 => ?_) (fun hx4 => ?_)
    · have v1 := v1 hx4; have v2 := v2 hx4
      have e1 : IntKind.i64.wrap (q.t x1.toNat x4.toNat) = q.t x1.toNat x4.toNat := w64 (by omega)
      have e2 : IntKind.i64.wrap (q.t x4.toNat x1.toNat) = q.t x4.toNat x1.toNat := w64 (by omega)
      refine W.condP (fun ho => W.chk (by omega) (W.chk (by omega) (W.condNe (fun hz => W.some (W.some (W.some (bad fun hq => hz (hq.zero _ _ (by omega) (by omega) (by omega)))))) (fun hz => W.condP (fun hn => by omega) (fun _ => fit (outside hx4 (.inl ho) hz rfl) fun _ h => h)))))
        (fun hx => W.condP (fun ho => W.chk (by omega) (W.chk (by omega) (W.condNe (fun hz => W.some (W.some (W.some (bad fun hq => hz (hq.zero _ _ (by omega) (by omega) (by omega)))))) (fun hz => W.condP (fun _ => W.condP (fun hn => by omega) (fun _ => fit (outside hx4 (.inr ho) hz rfl) fun _ h => h)) (fun hn => by omega)))))
          (fun ho => W.condP (fun _ => W.condP (fun _ => ?_) (fun hn => by omega)) (fun hn => by omega)))
      rw [e1, e2]
      refine W.chk (by omega) (W.chk (by omega) (W.condP (fun hg => W.some (W.some (W.some (bad fun hq => ?_)))) (fun hg => W.chk (by omega) (W.chk (by omega) (W.condP (fun hg' => W.some (W.some (W.some (bad fun hq => ?_)))) (fun hg' => W.chk (by omega) (W.chk (by omega) (W.chk (by omega) (W.chk (by omega) (W.chk (by omega) (W.chk (by omega) (fit (inside hx4 (by omega) (by omega) rfl (by omega) (by omega)) fun _ h => h))))))))))))
      · have := hq.lt (x := x1.toNat) (y := x4.toNat) (by omega) (by omega); omega
      · have := hq.lt (x := x4.toNat) (y := x1.toNat) (by omega) (by omega); omega
    · refine W.some ?_
      simp only [if_true]
      have z : ∀ x y : Nat, (x : Int) < x1 + 1 → y < 10 → q.order ≤ x ∨ q.order ≤ y → q.t x y = 0 := fun x y hx hy ho => by
        by_cases e : (x : Int) = x1
        · subst e; exact g3 y (by omega) ho
        · exact h4 x y (by omega) hy ho
      refine W.condP (fun hn => ?_) (fun hn => ?_)
      · obtain ⟨⟨m, em, hM⟩, ⟨m2, em2, hM2⟩, hi⟩ := g4 hn
        subst em; subst em2
        have f1 := hM.full n1 n10 (fun v ⟨i, a, b, c⟩ => by have := (hi i a b).1; omega)
        have f2 := hM2.full n1 n10 (fun v ⟨i, a, b, c⟩ => by have := (hi i a b).2; omega)
        refine W.chk (by omega) (W.condNe (fun hne => W.some (W.some (bad fun hq => hne (f1.2 fun v hv => ?_)))) (fun he => W.chk (by omega) (W.condNe (fun hne => W.some (W.some (bad fun hq => hne (f2.2 fun v hv => ?_)))) (fun he2 => W.some ?_))))
        · obtain ⟨i, a, c⟩ := ((permP_iff (hrow x1.toNat (by omega)) n10).1 (hq.row _ (by omega))).2 v hv
          exact ⟨i, by omega, a, c⟩
        · obtain ⟨i, a, c⟩ := ((permP_iff (hcol x1.toNat (by omega)) n10).1 (hq.col _ (by omega))).2 v hv
          exact ⟨i, by omega, a, c⟩
        · simp only
          rw [w64 (by omega)]
          refine ⟨⟨by omega, by omega, fun x hx hn' => ?_, z⟩, by omega, by omega⟩
          by_cases e : (x : Int) = x1
          · subst e
            refine ⟨(permP_iff (hrow x hn') n10).2 ⟨fun i hi' => (hi i (by omega) hi').1, fun v hv => ?_⟩, (permP_iff (hcol x hn') n10).2 ⟨fun i hi' => (hi i (by omega) hi').2, fun v hv => ?_⟩⟩
            · obtain ⟨i, a, b, c⟩ := f1.1 he v hv; exact ⟨i, b, c⟩
            · obtain ⟨i, a, b, c⟩ := f2.1 he2 v hv; exact ⟨i, b, c⟩
          · exact h3 x (by omega) hn'
      · refine W.some ?_
        simp only
        rw [w64 (by omega)]
        exact ⟨⟨by omega, by omega, fun x hx hn' => h3 x (by omega) hn', z⟩, by omega, by omega⟩
  · refine W.some ?_
    simp only [if_true]
    refine W.some ?_
    simp only [true_iff]
    exact ⟨n1, n10, fun x hx => (h3 x (by omega) hx).1, fun y hy => (h3 y (by omega) hy).2, fun x y hx hy ho => h4 x y (by omega) hy ho⟩
end Go.Pu

/- Plain laws: groups, direct products of groups. -/
namespace Go.Pu
open Go Go.Abs Go.Lab

structure Grp (q : Sq) : Prop extends Loop q where
  assoc : ∀ x y z : Nat, (x : Int) < q.order → (y : Int) < q.order → (z : Int) < q.order → q.t (q.t x y).toNat z = q.t x (q.t y z).toNat

theorem isUnit_W {q : Sq} (h : Latin q) : W (m_impl_Square_isUnit q 0) fun r => r = true ↔ ∀ x : Nat, (x : Int) < q.order → q.t 0 x = x ∧ q.t x 0 = x := by
  have n1 := h.n1; have n10 := h.n10
  unfold m_impl_Square_isUnit
  refine W.call (elements_W (by omega) (by omega)) fun l hl => ?_
  refine W.upto (fun s => s) q.order (fun s => 0 ≤ s ∧ s ≤ q.order ∧ ∀ x : Nat, (x : Int) < s → q.t 0 x = x ∧ q.t x 0 = x) ⟨by omega, by omega, fun x hx => by omega⟩ ?_
  rintro x1 ⟨h1, h2, h3⟩
  unfold m_impl_Square_isUnit_l0
  have bad : ∀ {P : Prop}, ¬ P → ((false = true) ↔ P) := fun hp => by simp only [Bool.false_eq_true, false_iff]; exact hp
  refine W.condP (fun hx => ?_) (fun hx => ?_)
  · have e := hl.2 x1.toNat (by omega)
    rw [e]
    simp only [Int.toNat_natCast, show (0 : Int).toNat = 0 from rfl]
    refine W.chk (by omega) (W.chk (by omega) (W.chk (by omega) (W.condNe (fun hn => W.some (W.some (bad fun hq => hn ?_))) (fun he => W.chk (by omega) (W.chk (by omega) (W.condNe (fun hn => W.some (W.some (bad fun hq => hn ?_))) (fun he2 => W.some ?_)))))))
    · exact (hq _ (by omega)).1
    · exact (hq _ (by omega)).2
    · simp only
      rw [w64 (by omega)]
      refine ⟨⟨by omega, by omega, fun x hx => ?_⟩, by omega, by omega⟩
      by_cases e : (x : Int) = x1
      · have : x = x1.toNat := by omega
        subst this; exact ⟨he, he2⟩
      · exact h3 x (by omega)
  · refine W.some ?_
    simp only [if_true]
    refine W.some ?_
    simp only [true_iff]
    exact fun x hx => h3 x (by omega)

theorem IsLoop_W {q : Sq} (hb : Byt q.t) : W (m_impl_IsLoop q) fun r => r = true ↔ Loop q := by
  unfold m_impl_IsLoop
  refine W.call (IsSquare_W hb) fun b hbn => W.cond (fun h => ?_) (fun h => W.some ?_)
  · have L := hbn.1 h
    refine W.call (isUnit_W L) fun r hr => W.some ?_
    rw [hr]
    exact ⟨fun x => ⟨L, fun i hi => (x i hi).1, fun i hi => (x i hi).2⟩, fun x i hi => ⟨x.left i hi, x.right i hi⟩⟩
  · simp only [h, Bool.false_eq_true, false_iff] at hbn ⊢
    exact fun x => hbn x.toLatin

theorem isAssociative_W {q : Sq} (h : Latin q) : W (m_impl_Square_isAssociative q) fun r => r = true ↔ ∀ x y z : Nat, (x : Int) < q.order → (y : Int) < q.order → (z : Int) < q.order → q.t (q.t x y).toNat z = q.t x (q.t y z).toNat := by
  have n1 := h.n1; have n10 := h.n10
  unfold m_impl_Square_isAssociative
  have bad : ∀ {P : Prop}, ¬ P → ((false = true) ↔ P) := fun hp => by simp only [Bool.false_eq_true, false_iff]; exact hp
  refine W.call (elements_W (by omega) (by omega)) fun l hl => ?_
  refine W.upto (fun s => s) q.order (fun s => 0 ≤ s ∧ s ≤ q.order ∧ ∀ x y z : Nat, (x : Int) < s → (y : Int) < q.order → (z : Int) < q.order → q.t (q.t x y).toNat z = q.t x (q.t y z).toNat) ⟨by omega, by omega, fun x y z hx => by omega⟩ ?_
  rintro x1 ⟨h1, h2, h3⟩
  unfold m_impl_Square_isAssociative_l0
  refine W.condP (fun hx => W.chk (by omega) ?_) (fun hx => ?_)
  · refine W.call (elements_W (by omega) (by omega)) fun l2 hl2 => ?_
    refine W.upto (fun s => s) q.order (fun s => 0 ≤ s ∧ s ≤ q.order ∧ ∀ y z : Nat, (y : Int) < s → (z : Int) < q.order → q.t (q.t x1.toNat y).toNat z = q.t x1.toNat (q.t y z).toNat) ⟨by omega, by omega, fun y z hy => by omega⟩ ?_
    rintro x2 ⟨g1, g2, g3⟩
    unfold m_impl_Square_isAssociative_l1
    refine W.condP (fun hx2 => W.chk (by omega) ?_) (fun hx2 => ?_)
    · refine W.call (elements_W (by omega) (by omega)) fun l3 hl3 => ?_
      refine W.upto (fun s => s) q.order (fun s => 0 ≤ s ∧ s ≤ q.order ∧ ∀ z : Nat, (z : Int) < s → q.t (q.t x1.toNat x2.toNat).toNat z = q.t x1.toNat (q.t x2.toNat z).toNat) ⟨by omega, by omega, fun z hz => by omega⟩ ?_
      rintro x3 ⟨k1, k2, k3⟩
      unfold m_impl_Square_isAssociative_l2
      refine W.condP (fun hx3 => ?_) (fun hx3 => ?_)
      · have e1 := hl.2 x1.toNat (by omega)
        have e2 := hl2.2 x2.toNat (by omega)
        have e3 := hl3.2 x3.toNat (by omega)
        have a := h.lt (x := x1.toNat) (y := x2.toNat) (by omega) (by omega)
        have b := h.lt (x := x2.toNat) (y := x3.toNat) (by omega) (by omega)
        rw [e1, e2, e3]
        simp only [Int.toNat_natCast]
        refine W.chk (by omega) (W.chk (by omega) (W.chk (by omega) (W.chk (by omega) (W.chk (by omega) (W.chk (by omega) (W.chk (by omega) (W.chk (by omega) (W.chk (by omega) (W.condNe (fun hn => W.some (W.some (W.some (W.some (bad fun hq => hn (hq _ _ _ (by omega) (by omega) (by omega))))))) (fun he => W.some ?_))))))))))
        simp only
        rw [w64 (by omega)]
        refine ⟨⟨by omega, by omega, fun z hz => ?_⟩, by omega, by omega⟩
        by_cases e : (z : Int) = x3
        · have : z = x3.toNat := by omega
          subst this; exact he
        · exact k3 z (by omega)
      · refine W.some ?_
        simp only [if_true]
        refine W.some ?_
        simp only
        rw [w64 (by omega)]
        refine ⟨⟨by omega, by omega, fun y z hy hz => ?_⟩, by omega, by omega⟩
        by_cases e : (y : Int) = x2
        · have : y = x2.toNat := by omega
          subst this; exact k3 z (by omega)
        · exact g3 y z (by omega) hz
    · refine W.some ?_
      simp only [if_true]
      refine W.some ?_
      simp only
      rw [w64 (by omega)]
      refine ⟨⟨by omega, by omega, fun x y z hx hy hz => ?_⟩, by omega, by omega⟩
      by_cases e : (x : Int) = x1
      · have : x = x1.toNat := by omega
        subst this; exact g3 y z (by omega) hz
      · exact h3 x y z (by omega) hy hz
  · refine W.some ?_
    simp only [if_true]
    refine W.some ?_
    simp only [true_iff]
    exact fun x y z hx hy hz => h3 x y z (by omega) hy hz

theorem IsGroup_W {q : Sq} (hb : Byt q.t) : W (m_impl_IsGroup q) fun r => r = true ↔ Grp q := by
  unfold m_impl_IsGroup
  refine W.call (IsLoop_W hb) fun b hbn => W.cond (fun h => ?_) (fun h => W.some ?_)
  · have L := hbn.1 h
    refine W.call (isAssociative_W L.toLatin) fun r hr => W.some ?_
    rw [hr]
    exact ⟨fun x => ⟨L, x⟩, fun x => x.assoc⟩
  · simp only [h, Bool.false_eq_true, false_iff] at hbn ⊢
    exact fun x => hbn x.toLoop

/-! ## Cyclic and elementary groups -/
theorem cycS_grp {n : Int} (h1 : 1 ≤ n) (h10 : n ≤ 10) : Grp (cycS n) := by
  have L := cycS_latin h1 h10
  have o : (cycS n).order = n := rfl
  have e : ∀ x y : Nat, (x : Int) < n → (y : Int) < n → (cycS n).t x y = if (x : Int) + y < n then (x : Int) + y else x + y - n := fun x y hx hy => by
    show tabF n (cycG n) x y = _
    rw [tabF_lt hx hy, cycG_eq hx hy]
  refine ⟨⟨L, fun x hx => ?_, fun x hx => ?_⟩, fun x y z hx hy hz => ?_⟩ <;> rw [o] at *
  · rw [e 0 x (by omega) hx]; split <;> omega
  · rw [e x 0 hx (by omega)]; split <;> omega
  · have a := e x y hx hy; have b := e y z hy hz
    have la : 0 ≤ (cycS n).t x y ∧ (cycS n).t x y < n := L.lt hx hy
    have lb : 0 ≤ (cycS n).t y z ∧ (cycS n).t y z < n := L.lt hy hz
    rw [e ((cycS n).t x y).toNat z (by omega) hz, e x ((cycS n).t y z).toNat hx (by omega)]
    split at a <;> split at b <;> split <;> split <;> omega

theorem eleS_grp {k : Nat} (h : k ≤ 3) : Grp (eleS k) := by
  have L := eleS_latin h
  have o : (eleS k).order = ((2 ^ k : Nat) : Int) := rfl
  have p := pow3 h
  have e : ∀ x y : Nat, (x : Int) < ((2 ^ k : Nat) : Int) → (y : Int) < ((2 ^ k : Nat) : Int) → (eleS k).t x y = ((x ^^^ y : Nat) : Int) := fun x y hx hy => by
    show tabF _ eleG x y = _
    rw [tabF_lt hx hy]; rfl
  refine ⟨⟨L, fun x hx => ?_, fun x hx => ?_⟩, fun x y z hx hy hz => ?_⟩ <;> rw [o] at *
  · rw [e 0 x (by omega) hx, Nat.zero_xor]
  · rw [e x 0 hx (by omega), Nat.xor_zero]
  · have a := Nat.xor_lt_two_pow (n := k) (x := x) (y := y) (by omega) (by omega)
    have b := Nat.xor_lt_two_pow (n := k) (x := y) (y := z) (by omega) (by omega)
    rw [e x y hx hy, e y z hy hz]
    simp only [Int.toNat_natCast]
    rw [e _ z (by omega) hz, e x _ hx (by omega), Nat.xor_assoc]

/-! ## Direct products -/
theorem dirS_at {q r : Sq} {x y : Nat} (hx : (x : Int) < q.order * r.order) (hy : (y : Int) < q.order * r.order) : (dirS q r).t x y = dirG q r x y := tabF_lt hx hy
theorem dm_parts {m a b : Int} (hm : 1 ≤ m) (ha : 0 ≤ a) (h0 : 0 ≤ b) (h : b < m) : (m * a + b).toNat / m.toNat = a.toNat ∧ (m * a + b).toNat % m.toNat = b.toNat := by
  have e : (m * a + b).toNat = m.toNat * a.toNat + b.toNat := by
    have : ((m.toNat * a.toNat : Nat) : Int) = m * a := by rw [Int.natCast_mul]; congr 1 <;> omega
    omega
  rw [e]
  refine ⟨?_, ?_⟩
  · rw [Nat.mul_add_div (by omega), Nat.div_eq_of_lt (by omega)]; omega
  · rw [Nat.mul_add_mod, Nat.mod_eq_of_lt (by omega)]
theorem dirG_parts {q r : Sq} (hq : Latin q) (hr : Latin r) {x y : Nat} (hx : (x : Int) < q.order * r.order) (hy : (y : Int) < q.order * r.order) :
    (dirG q r x y).toNat / r.order.toNat = (q.t (x / r.order.toNat) (y / r.order.toNat)).toNat ∧ (dirG q r x y).toNat % r.order.toNat = (r.t (x % r.order.toNat) (y % r.order.toNat)).toNat := by
  have q1 := hq.n1; have r1 := hr.n1
  have a := hq.lt (div_lt (by omega) r1 hx) (div_lt (by omega) r1 hy)
  have b := hr.lt (mod_lt x r1) (mod_lt y r1)
  exact dm_parts r1 a.1 b.1 b.2
theorem dirG_small {q r : Sq} (hq : Loop q) {x y : Nat} (hx : (x : Int) < r.order) (hy : (y : Int) < r.order) : dirG q r x y = r.t x y := by
  have := hq.n1
  have e := hq.left 0 (by omega)
  unfold dirG
  rw [Nat.div_eq_of_lt (by omega), Nat.div_eq_of_lt (by omega), Nat.mod_eq_of_lt (by omega), Nat.mod_eq_of_lt (by omega), e]
  simp
theorem lt_mul_of {n m : Int} {x : Nat} (hn : 1 ≤ n) (hm : 1 ≤ m) (hx : (x : Int) < m) : (x : Int) < n * m := by
  have : 1 * m ≤ n * m := Int.mul_le_mul_of_nonneg_right hn (by omega)
  omega

theorem dirS_grp {q r : Sq} (hq : Grp q) (hr : Latin r) (h10 : q.order * r.order ≤ 10) : Grp r ↔ Grp (dirS q r) := by
  have q1 := hq.n1; have r1 := hr.n1
  have L := dirS_latin hq.toLatin hr h10
  have o : (dirS q r).order = q.order * r.order := rfl
  have small : ∀ x y : Nat, (x : Int) < r.order → (y : Int) < r.order → (dirS q r).t x y = r.t x y := fun x y hx hy => by
    rw [dirS_at (lt_mul_of q1 r1 hx) (lt_mul_of q1 r1 hy), dirG_small hq.toLoop hx hy]
  constructor
  · intro gr
    have m1 := (mul_le10 q1 r1 h10).2.2
    refine ⟨⟨L, fun x hx => ?_, fun x hx => ?_⟩, fun x y z hx hy hz => ?_⟩ <;> rw [o] at *
    · rw [dirS_at (by omega) hx]
      unfold dirG
      rw [Nat.zero_div, Nat.zero_mod, hq.left _ (div_lt (by omega) r1 hx), gr.left _ (mod_lt x r1)]
      have e : ((r.order.toNat * (x / r.order.toNat) + x % r.order.toNat : Nat) : Int) = x := by rw [Nat.div_add_mod]
      have e2 : ((r.order.toNat * (x / r.order.toNat) : Nat) : Int) = r.order * ((x / r.order.toNat : Nat) : Int) := by rw [Int.natCast_mul]; congr 1; omega
      rw [← e2]; rw [← e]; simp
    · rw [dirS_at hx (by omega)]
      unfold dirG
      rw [Nat.zero_div, Nat.zero_mod, hq.right _ (div_lt (by omega) r1 hx), gr.right _ (mod_lt x r1)]
      have e : ((r.order.toNat * (x / r.order.toNat) + x % r.order.toNat : Nat) : Int) = x := by rw [Nat.div_add_mod]
      have e2 : ((r.order.toNat * (x / r.order.toNat) : Nat) : Int) = r.order * ((x / r.order.toNat : Nat) : Int) := by rw [Int.natCast_mul]; congr 1; omega
      rw [← e2]; rw [← e]; simp
    · have lxy := dirG_lt hq.toLatin hr hx hy
      have lyz := dirG_lt hq.toLatin hr hy hz
      have pxy := dirG_parts hq.toLatin hr hx hy
      have pyz := dirG_parts hq.toLatin hr hy hz
      rw [dirS_at hx hy, dirS_at hy hz, dirS_at (by omega) hz, dirS_at hx (by omega)]
      unfold dirG at pxy pyz ⊢
      rw [pxy.1, pxy.2, pyz.1, pyz.2]
      rw [hq.assoc _ _ _ (div_lt (by omega) r1 hx) (div_lt (by omega) r1 hy) (div_lt (by omega) r1 hz), gr.assoc _ _ _ (mod_lt x r1) (mod_lt y r1) (mod_lt z r1)]
  · intro gd
    refine ⟨⟨hr, fun x hx => ?_, fun x hx => ?_⟩, fun x y z hx hy hz => ?_⟩
    · rw [← small 0 x (by omega) hx]; exact gd.left x (lt_mul_of q1 r1 hx)
    · rw [← small x 0 hx (by omega)]; exact gd.right x (lt_mul_of q1 r1 hx)
    · have lxy := hr.lt hx hy; have lyz := hr.lt hy hz
      have := gd.assoc x y z (lt_mul_of q1 r1 hx) (lt_mul_of q1 r1 hy) (lt_mul_of q1 r1 hz)
      rw [small x y hx hy, small y z hy hz, small _ z (by omega) hz, small x _ hx (by omega)] at this
      exact this

theorem impl_direct_W {q r : Sq} (hq : Latin q) (hr : Latin r) (h10 : q.order * r.order ≤ 10) : W (m_impl_direct q r) fun s => s = dirS q r := by
  have q1 := hq.n1; have r1 := hr.n1
  obtain ⟨q10, r10, m1⟩ := mul_le10 q1 r1 h10
  unfold m_impl_direct
  rw [w64 (by omega)]
  refine W.call (made_W (g := dirG q r) (by omega) h10 fun x y hx hy => ?_) fun s hs => W.some hs
  unfold m_impl_direct_1
  have dx := div_lt (x := x) (n := q.order) (m := r.order) (by omega) r1 (by omega)
  have dy := div_lt (x := y) (n := q.order) (m := r.order) (by omega) r1 (by omega)
  have mx := mod_lt (m := r.order) x r1
  have my := mod_lt (m := r.order) y r1
  have nn : ∀ a : Nat, 0 ≤ (a : Int) := fun a => Int.natCast_nonneg a
  have n1 := nn (x / r.order.toNat); have n2 := nn (y / r.order.toNat); have n3 := nn (x % r.order.toNat); have n4 := nn (y % r.order.toNat)
  rw [w8 (n := r.order) (by omega), tdiv_nat (by omega) r1, tdiv_nat (by omega) r1, tmod_nat (by omega) r1, tmod_nat (by omega) r1]
  simp only [Int.toNat_natCast]
  rw [w8 (n := ((x / r.order.toNat : Nat) : Int)) (by omega), w8 (n := ((y / r.order.toNat : Nat) : Int)) (by omega)]
  simp only [Int.toNat_natCast]
  exact W.chk (by omega) (W.chk (by omega) (W.chk (by omega) (W.chk (by omega) (W.chk (by omega) (W.chk (by omega) (W.chk (by omega) (W.chk (by omega) (W.some (dir_entry hq hr h10 hx hy)))))))))

def DirOf (q r : Sq) (s : Sq × Int) : Prop := (¬ (Latin q ∧ Latin r) ∧ s = (sq0, 1)) ∨ (Latin q ∧ Latin r ∧ q.order * r.order > 10 ∧ s = (sq0, 3)) ∨ (Latin q ∧ Latin r ∧ q.order * r.order ≤ 10 ∧ s = (dirS q r, 0))
theorem DirOf.eq {q r : Sq} {s s' : Sq × Int} (h : DirOf q r s) (h' : DirOf q r s') : s = s' := by
  rcases h with ⟨a, b⟩ | ⟨a, b, c, d⟩ | ⟨a, b, c, d⟩ <;> rcases h' with ⟨a', b'⟩ | ⟨a', b', c', d'⟩ | ⟨a', b', c', d'⟩ <;> first
    | (exfalso; omega)
    | (rw [b, b']; done)
    | (rw [d, d']; done)
    | exact absurd ⟨a', b'⟩ a
    | exact absurd ⟨a, b⟩ a'

theorem DirectProduct_W {q r : Sq} (hq : Byt q.t) (hr : Byt r.t) : W (m_impl_DirectProduct q r) (DirOf q r) := by
  unfold m_impl_DirectProduct
  refine W.call (IsSquare_W hq) fun b hb => W.condNot (fun h => W.some (.inl ⟨?_, rfl⟩)) (fun h => W.call (IsSquare_W hr) fun b' hb' => W.condNot (fun h' => W.some (.inl ⟨?_, rfl⟩)) (fun h' => ?_))
  · simp only [h, Bool.false_eq_true, false_iff] at hb; exact fun x => hb x.1
  · simp only [h', Bool.false_eq_true, false_iff] at hb'; exact fun x => hb' x.2
  have L := hb.1 h; have L' := hb'.1 h'
  have q1 := L.n1; have q10 := L.n10; have r1 := L'.n1; have r10 := L'.n10
  have : q.order * r.order ≤ 10 * 10 := Int.mul_le_mul q10 r10 (by omega) (by omega)
  have : 0 ≤ q.order * r.order := Int.mul_nonneg (by omega) (by omega)
  rw [w64 (by omega)]
  refine W.condP (fun hg => W.some (.inr (.inl ⟨L, L', hg, rfl⟩))) (fun hg => W.call (impl_direct_W L L' (by omega)) fun s hs => W.some (.inr (.inr ⟨L, L', by omega, by rw [hs]⟩)))
theorem spec_DirectProduct_W {q r : Sq} (hq : Byt q.t) (hr : Byt r.t) : W (m_spec_DirectProduct q r) (DirOf q r) := by
  unfold m_spec_DirectProduct
  refine W.call (l01Is_W hq) fun b hb => W.condNot (fun h => W.some (.inl ⟨?_, rfl⟩)) (fun h => W.call (l01Is_W hr) fun b' hb' => W.condNot (fun h' => W.some (.inl ⟨?_, rfl⟩)) (fun h' => ?_))
  · simp only [h, Bool.false_eq_true, false_iff] at hb; exact fun x => hb x.1
  · simp only [h', Bool.false_eq_true, false_iff] at hb'; exact fun x => hb' x.2
  have L := hb.1 h; have L' := hb'.1 h'
  have q1 := L.n1; have q10 := L.n10; have r1 := L'.n1; have r10 := L'.n10
  have : q.order * r.order ≤ 10 * 10 := Int.mul_le_mul q10 r10 (by omega) (by omega)
  have : 0 ≤ q.order * r.order := Int.mul_nonneg (by omega) (by omega)
  rw [w64 (by omega)]
  refine W.condP (fun hg => W.some (.inr (.inl ⟨L, L', hg, rfl⟩))) (fun hg => W.call (l01Direct_W L L' (by omega)) fun s hs => W.some (.inr (.inr ⟨L, L', by omega, by rw [hs]⟩)))

theorem eqTb_refl (t : Nat → Nat → Int) : eqTb t t = true := by simp [eqTb, eqPl_refl]
theorem eqSq_refl (q : Sq) : eqSq q q = true := by simp [eqSq, eqTb_refl]
end Go.Pu

/- Plain laws: triples; draws that look for isomorphisms. -/
namespace Go.Pu
open Go Go.Abs Go.Lab

theorem W.upto1 {σ ρ α : Type} {Q : α → Prop} {step : σ → Option (Out σ ρ)} {k : Out σ ρ → Option α} {s : σ} (c : σ → Int) (n : Int) (I : σ → Prop) (hi : I s)
    (h : ∀ s, I s → W (step s) fun o => match o with | .next s' => I s' ∧ c s < c s' ∧ c s < n | .stop s' id => W (k (.stop s' id)) Q | .ret r => W (k (.ret r)) Q) :
    W ((loopV step s).bind k) Q := W.upto c n I hi h

/-! ## How many are not led yet -/
def cnt (f : Nat → Int) : Nat → Nat
  | 0 => 0
  | n + 1 => cnt f n + if f n < 0 then 1 else 0
theorem cnt_le {f g : Nat → Int} : ∀ {n : Nat}, (∀ i, i < n → 0 ≤ f i → 0 ≤ g i) → cnt g n ≤ cnt f n
  | 0, _ => Nat.le_refl _
  | n + 1, h => by
    have := cnt_le (f := f) (g := g) (n := n) fun i hi => h i (by omega)
    have hn := h n (by omega)
    simp only [cnt]
    split <;> split <;> omega
theorem cnt_lt {f g : Nat → Int} : ∀ {n : Nat}, (∀ i, i < n → 0 ≤ f i → 0 ≤ g i) → ∀ x, x < n → f x < 0 → 0 ≤ g x → cnt g n < cnt f n
  | 0, _, _, hx, _, _ => by omega
  | n + 1, h, x, hx, h1, h2 => by
    simp only [cnt]
    have hn := h n (by omega)
    by_cases e : x = n
    · subst e
      have := cnt_le (f := f) (g := g) (n := x) fun i hi => h i (by omega)
      rw [if_neg (by omega), if_pos h1]; omega
    · have := cnt_lt (f := f) (g := g) (n := n) (fun i hi => h i (by omega)) x (by omega) h1 h2
      split <;> split <;> omega
theorem cnt_set {f : Nat → Int} {x : Nat} {v : Int} (h1 : f x < 0) (h2 : 0 ≤ v) : ∀ {n : Nat}, x < n → cnt (fset f x v) n + 1 = cnt f n
  | 0, hx => by omega
  | n + 1, hx => by
    simp only [cnt]
    by_cases e : x = n
    · subst e
      have : ∀ m, m ≤ x → cnt (fset f x v) m = cnt f m := by
        intro m
        induction m with
        | zero => intro _; rfl
        | succ m ih => intro hm; simp only [cnt]; rw [ih (by omega), fset_eq, if_neg (show ¬ m = x by omega)]
      rw [this x (Nat.le_refl _), fset_eq, if_pos rfl, if_neg (by omega), if_pos h1]
    · have := cnt_set (f := f) (x := x) (v := v) h1 h2 (n := n) (by omega)
      rw [fset_eq, if_neg (show ¬ n = x by omega)]
      omega
theorem cnt_len (f : Nat → Int) : ∀ n, cnt f n ≤ n
  | 0 => Nat.le_refl _
  | n + 1 => by
    have := cnt_len f n
    simp only [cnt]
    split <;> omega
theorem cnt_zero {f : Nat → Int} : ∀ {n : Nat}, (∀ i, i < n → 0 ≤ f i) → cnt f n = 0
  | 0, _ => rfl
  | n + 1, h => by
    simp only [cnt]
    rw [cnt_zero fun i hi => h i (by omega), if_neg (by have := h n (by omega); omega)]
theorem cnt_all {f : Nat → Int} : ∀ {n : Nat}, (∀ i, i < n → f i < 0) → cnt f n = n
  | 0, _ => rfl
  | n + 1, h => by
    simp only [cnt]
    rw [cnt_all fun i hi => h i (by omega), if_pos (h n (by omega))]

/-- A part of an isomorphism. -/
structure MpOk (n : Int) (m : Mp) : Prop where
  lo : ∀ i : Nat, i < 10 → -1 ≤ m.a i ∧ m.a i < n
  size : m.n + cnt m.a n.toNat = n

/-- 'm'' has what 'm' has. -/
def MpLe (m m' : Mp) : Prop := ∀ i : Nat, 0 ≤ m.a i → 0 ≤ m'.a i
theorem MpLe.trans {a b c : Mp} (h : MpLe a b) (h' : MpLe b c) : MpLe a c := fun i hi => h' i (h i hi)

theorem l02Close_W {q r : Sq} (hq : Latin q) (hr : Latin r) (ho : r.order = q.order) : ∀ (k : Nat) (m : Mp) (x y : Int), cnt m.a q.order.toNat < k → MpOk q.order m → 0 ≤ x → x < q.order → 0 ≤ y → y < q.order →
    W (m_spec_l02Close_w k q r m x y) fun s => MpOk q.order s.1 ∧ MpLe m s.1 ∧ (m.a x.toNat < 0 → m.b y.toNat ≤ 0 → 0 ≤ s.1.a x.toNat) := by
  have n1 := hq.n1; have n10 := hq.n10
  intro k
  induction k with
  | zero => intro m x y hk; omega
  | succ k ih =>
    intro m x y hk hm hx0 hx hy0 hy
    show W (m_spec_l02Close_b (m_spec_l02Close_w k) q r m x y) _
    unfold m_spec_l02Close_b
    have early : 0 ≤ m.a x.toNat ∨ m.b y.toNat > 0 → W (if 0 ≤ x ∧ x < 10 then some (m, ((m.a (x).toNat) == y)) else none) fun s => MpOk q.order s.1 ∧ MpLe m s.1 ∧ (m.a x.toNat < 0 → m.b y.toNat ≤ 0 → 0 ≤ s.1.a x.toNat) :=
      fun h => W.chk (by omega) (W.some ⟨hm, fun i hi => hi, fun a b => by simp only; omega⟩)
    refine W.chk (by omega) (W.condP (fun h => early (.inl h)) (fun h1 => W.chk (by omega) (W.condP (fun h => early (.inr h)) (fun h2 => W.chk (by omega) (W.chk (by omega) ?_)))))
    simp only
    have hc := cnt_set (f := m.a) (x := x.toNat) (v := y) (n := q.order.toNat) (by omega) hy0 (by omega)
    have hsz := hm.size
    have hln := cnt_len m.a q.order.toNat
    rw [w64 (by omega)]
    have hm0 : MpOk q.order ⟨fset m.a x.toNat y, fset m.b y.toNat 1, m.n + 1⟩ := ⟨fun i hi => by
      simp only [fset_eq]
      split
      · omega
      · exact hm.lo i hi, by simp only; omega⟩
    have hle0 : MpLe m ⟨fset m.a x.toNat y, fset m.b y.toNat 1, m.n + 1⟩ := fun i hi => by
      simp only [fset_eq]
      split
      · exact hy0
      · exact hi
    refine W.upto (fun s => s.1) q.order (fun s => 0 ≤ s.1 ∧ s.1 ≤ q.order ∧ MpOk q.order s.2.1 ∧ MpLe ⟨fset m.a x.toNat y, fset m.b y.toNat 1, m.n + 1⟩ s.2.1) ⟨by simp, by simp only; omega, hm0, fun i hi => hi⟩ ?_
    rintro ⟨z, m2, m3⟩ ⟨g1, g2, g3, g4⟩
    simp only at g1 g2 g3 g4
    unfold m_spec_l02Close_l0
    have fin : ∀ m' : Mp, MpOk q.order m' → MpLe ⟨fset m.a x.toNat y, fset m.b y.toNat 1, m.n + 1⟩ m' → MpOk q.order m' ∧ MpLe m m' ∧ (m.a x.toNat < 0 → m.b y.toNat ≤ 0 → 0 ≤ m'.a x.toNat) := fun m' h h' =>
      ⟨h, hle0.trans h', fun _ _ => h' _ (by simp only [fset_eq, if_true]; exact hy0)⟩
    have less : ∀ m' : Mp, MpLe ⟨fset m.a x.toNat y, fset m.b y.toNat 1, m.n + 1⟩ m' → cnt m'.a q.order.toNat < k := fun m' h => by
      have := cnt_le (f := fset m.a x.toNat y) (g := m'.a) (n := q.order.toNat) fun i _ hi => h i hi
      omega
    refine W.condP (fun hz => ?_) (fun hz => W.some (W.some (fin m2 g3 g4)))
    have hz2 := g3.lo z.toNat (by omega)
    refine W.chk (by omega) (W.condP (fun hneg => W.some ?_) (fun hneg => ?_))
    · simp only
      rw [w64 (by omega)]
      exact ⟨⟨by omega, by omega, g3, g4⟩, by omega, by omega⟩
    have e1 := hq.lt (x := x.toNat) (y := z.toNat) (by omega) (by omega)
    have e2 := hr.lt (x := y.toNat) (y := (m2.a z.toNat).toNat) (by omega) (by omega)
    have e3 := hq.lt (x := z.toNat) (y := x.toNat) (by omega) (by omega)
    have e4 := hr.lt (x := (m2.a z.toNat).toNat) (y := y.toNat) (by omega) (by omega)
    refine W.chk (by omega) (W.chk (by omega) (W.chk (by omega) (W.chk (by omega) (W.chk (by omega) ?_))))
    rw [w64 (n := q.t _ _) (by omega), w64 (n := r.t _ _) (by omega)]
    refine W.call (ih m2 _ _ (less m2 g4) g3 (by omega) (by omega) (by omega) (by omega)) fun r1 h1 => ?_
    have le1 := g4.trans h1.2.1
    refine W.condNot (fun _ => W.some (W.some (fin r1.1 h1.1 le1))) (fun _ => ?_)
    refine W.chk (by omega) (W.chk (by omega) (W.chk (by omega) (W.chk (by omega) (W.chk (by omega) ?_))))
    rw [w64 (n := q.t _ _) (by omega), w64 (n := r.t _ _) (by omega)]
    refine W.call (ih r1.1 _ _ (less r1.1 le1) h1.1 (by omega) (by omega) (by omega) (by omega)) fun r2 h2 => ?_
    have le2 := le1.trans h2.2.1
    refine W.condNot (fun _ => W.some (W.some (fin r2.1 h2.1 le2))) (fun _ => W.some ?_)
    simp only
    rw [w64 (by omega)]
    exact ⟨⟨by omega, by omega, h2.1, le2⟩, by omega, by omega⟩

theorem l02Places_W {m : Mp} {n : Int} (h0 : 0 ≤ n) (h10 : n ≤ 10) : W (m_spec_l02Places m n) ByP := by
  unfold m_spec_l02Places
  refine W.upto (fun s => s.1) n (fun s => 0 ≤ s.1 ∧ ByP s.2) ⟨by simp, fun i hi => by simp [pl0]⟩ ?_
  rintro ⟨x1, x2⟩ ⟨h1, h2⟩
  simp only at h1 h2
  unfold m_spec_l02Places_l0
  refine W.condP (fun h => W.chk (by omega) (W.chk (by omega) (W.some ?_))) (fun h => W.some (W.some h2))
  simp only
  rw [w64 (by omega)]
  refine ⟨⟨by omega, fun i hi => ?_⟩, by omega, by omega⟩
  rw [fset_eq]
  split
  · exact w8_lt _
  · exact h2 i hi

theorem l02Maps_W {q r : Sq} (hq : Latin q) (hr : Latin r) (ho : r.order = q.order) {most : Int} (hmost : most ≤ 1000000) : ∀ (k : Nat) (m : Mp) (l : List (Nat → Int)), cnt m.a q.order.toNat < k → k ≤ 1000 → MpOk q.order m → (l.length : Int) ≤ 1000000 → (∀ p ∈ l, ByP p) →
    W (m_spec_l02Maps_w k q r m most l) fun s => (∀ p ∈ s, ByP p) ∧ ((s.length : Int) ≤ most ∨ s.length ≤ l.length + 1) := by
  have n1 := hq.n1; have n10 := hq.n10
  intro k
  induction k with
  | zero => intro m l hk; omega
  | succ k ih =>
    intro m l hk hk1 hm hl hb
    show W (m_spec_l02Maps_b (m_spec_l02Maps_w k) q r m most l) _
    unfold m_spec_l02Maps_b
    refine W.condEq (fun e => ?_) (fun e => ?_)
    · refine W.call (l02Places_W (by omega) n10) fun p hp => W.chk (by omega) (W.some ⟨fun p' hp' => ?_, .inr (by simp)⟩)
      rcases List.mem_append.1 hp' with h | h
      · exact hb p' h
      · rw [List.mem_singleton] at h; subst h; exact hp
    · have hsz := hm.size
      -- there is one that is not led yet
      have hex : ∃ x : Nat, (x : Int) < q.order ∧ m.a x < 0 := by
        by_cases h : ∃ x : Nat, (x : Int) < q.order ∧ m.a x < 0
        · exact h
        · exfalso
          have := cnt_zero (f := m.a) (n := q.order.toNat) fun i hi => by
            by_cases hi' : m.a i < 0
            · exact absurd ⟨i, by omega, hi'⟩ h
            · omega
          omega
      obtain ⟨x0, hx0, hneg0⟩ := hex
      refine W.upto (fun s => s) q.order (fun s => 0 ≤ s ∧ s ≤ x0) (by omega) ?_
      rintro x ⟨g1, g2⟩
      unfold m_spec_l02Maps_l0
      refine W.chk (by omega) (W.condP (fun h => W.some ?_) (fun hneg => W.some ?_))
      · simp only
        rw [w64 (by omega)]
        have : x ≠ x0 := fun e => by subst e; simp only [Int.toNat_natCast] at h; omega
        exact ⟨by omega, by omega, by omega⟩
      simp only [if_true]
      have lt1 : cnt m.a q.order.toNat ≤ k := by omega
      refine W.upto (fun s => s.2) q.order (fun s => 0 ≤ s.2 ∧ s.2 ≤ q.order ∧ (∀ p ∈ s.1, ByP p) ∧ ((s.1.length : Int) ≤ most ∨ s.1.length ≤ l.length + 1)) ⟨by simp, by simp only; omega, hb, .inr (by simp)⟩ ?_
      rintro ⟨l', y⟩ ⟨k1, k2, k3, k4⟩
      simp only at k1 k2 k3 k4
      unfold m_spec_l02Maps_l1
      refine W.condP (fun hy => W.condP (fun hlen => ?_) (fun _ => W.some (W.some ⟨k3, k4⟩))) (fun _ => W.some (W.some ⟨k3, k4⟩))
      refine W.chk (by omega) (W.condP (fun _ => W.some ?_) (fun hfree => ?_))
      · simp only
        rw [w64 (by omega)]
        exact ⟨⟨by omega, by omega, k3, k4⟩, by omega, by omega⟩
      have hcnt : ∀ f : Nat → Int, cnt f q.order.toNat ≤ q.order.toNat := fun f => by
        have := cnt_le (f := fun _ => -1) (g := f) (n := q.order.toNat) fun i _ h => by omega
        rw [cnt_all (f := fun _ => -1) (fun i _ => by omega)] at this; exact this
      refine W.call (l02Close_W hq hr ho 1000 m x y (by have := hcnt m.a; omega) hm (by omega) (by omega) (by omega) (by omega)) fun r2 h2 => W.cond (fun _ => ?_) (fun _ => W.some ?_)
      · have lt2 := cnt_lt (f := m.a) (g := r2.1.a) (n := q.order.toNat) (fun i _ hi => h2.2.1 i hi) x.toNat (by omega) (by omega) (h2.2.2 (by omega) (by omega))
        refine W.call (ih r2.1 l' (by omega) (by omega) h2.1 (by omega) k3) fun r3 h3 => W.some ?_
        simp only
        rw [w64 (by omega)]
        exact ⟨⟨by omega, by omega, h3.1, by rcases h3.2 with h | h <;> omega⟩, by omega, by omega⟩
      · simp only
        rw [w64 (by omega)]
        exact ⟨⟨by omega, by omega, k3, k4⟩, by omega, by omega⟩

theorem l02Start_W {n : Int} (h1 : 1 ≤ n) (h10 : n ≤ 10) : W (m_spec_l02Start) fun m => MpOk n m := by
  unfold m_spec_l02Start
  refine W.upto (fun s => s.1) 10 (fun s => 0 ≤ s.1 ∧ s.1 ≤ 10 ∧ s.2.n = 0 ∧ ∀ i : Nat, (i : Int) < s.1 → s.2.a i = -1) ⟨by simp, by simp, rfl, fun i hi => by simp only at hi; omega⟩ ?_
  rintro ⟨x, m⟩ ⟨h2, h3, h4, h5⟩
  simp only at h2 h3 h4 h5
  unfold m_spec_l02Start_l0
  refine W.condP (fun h => W.chk (by omega) (W.some ?_)) (fun h => W.some (W.some ?_))
  · simp only
    rw [w64 (by omega)]
    refine ⟨⟨by omega, by omega, h4, fun i hi => ?_⟩, by omega, by omega⟩
    rw [fset_eq]
    split
    · rfl
    · exact h5 i (by omega)
  · refine ⟨fun i hi => by have := h5 i (by omega); omega, ?_⟩
    have : cnt m.a n.toNat = n.toNat := cnt_all fun i hi => by have := h5 i (by omega); omega
    rw [h4, this]; omega

theorem l02All_W {q r : Sq} (hq : Latin q) (hr : Latin r) {most : Int} (h0 : 0 ≤ most) (hmost : most ≤ 1000000) : W (m_spec_l02All q r most) fun l => (∀ p ∈ l, ByP p) ∧ (l.length : Int) ≤ 1000001 := by
  have n1 := hq.n1; have n10 := hq.n10
  unfold m_spec_l02All
  refine W.condNe (fun h => W.some ⟨by simp, by simp⟩) (fun ho => ?_)
  refine W.call (l02Start_W n1 n10) fun m hm => ?_
  have hcnt : cnt m.a q.order.toNat ≤ q.order.toNat := by
    have := cnt_le (f := fun _ => -1) (g := m.a) (n := q.order.toNat) fun i _ h => by omega
    rw [cnt_all (f := fun _ => -1) (fun i _ => by omega)] at this; exact this
  refine W.call (l02Maps_W hq hr ho.symm hmost 1000 m [] (by omega) (Nat.le_refl _) hm (by simp) (by simp)) fun l hl => W.some ⟨hl.1, ?_⟩
  rcases hl.2 with h | h
  · omega
  · simp at h; omega
end Go.Pu

/- Plain laws: isotopes, triples one after the other and back, loops at elements; the law FnTripleIsotopes. -/
namespace Go.Pu
open Go Go.Abs Go.Lab

/-! ## Isotopes -/
theorem MovedOf.eq {q r r' : Sq} {a b c : Nat → Int} (ha : PermP q.order a) (hb : PermP q.order b) (h : MovedOf q a b c r) (h' : MovedOf q a b c r') : r = r' := by
  have e : ∀ i j, r.t i j = r'.t i j := fun i j => by
    by_cases hi : (i : Int) < q.order
    · by_cases hj : (j : Int) < q.order
      · obtain ⟨x, hx, ex⟩ := ha.onto hi
        obtain ⟨y, hy, ey⟩ := hb.onto hj
        have e1 := h.at_ x y hx hy
        have e2 := h'.at_ x y hx hy
        rw [ex, ey] at e1 e2
        simp only [Int.toNat_natCast] at e1 e2
        rw [e1, e2]
      · rw [h.zero i j (.inr (by omega)), h'.zero i j (.inr (by omega))]
    · rw [h.zero i j (.inl (by omega)), h'.zero i j (.inl (by omega))]
  obtain ⟨o, t⟩ := r
  obtain ⟨o', t'⟩ := r'
  have e1 : o = o' := h.ord.trans h'.ord.symm
  have e2 : t = t' := funext fun i => funext fun j => e i j
  subst e1; subst e2; rfl

theorem l02Isotope_eq (q : Sq) (t : Tr) : m_spec_l02Isotope q t = m_spec_l01Moved q t.a t.b t.c := rfl

theorem latin_lt10 {q : Sq} (h : Latin q) : ∀ x y : Nat, (x : Int) < q.order → (y : Int) < q.order → 0 ≤ q.t x y ∧ q.t x y < 10 := fun x y hx hy => by
  have := h.lt hx hy; have := h.n10; omega

theorem isotope_W {q : Sq} {t : Tr} (hq : Latin q) (ha : PermP q.order t.a) (hb : PermP q.order t.b) : W (m_impl_isotope q t) (MovedOf q t.a t.b t.c) := by
  have n1 := hq.n1; have n10 := hq.n10
  unfold m_impl_isotope
  refine W.call (elements_W (by omega) (by omega)) fun l hl => ?_
  refine W.upto (fun s => s.1) q.order (fun s => 0 ≤ s.1 ∧ s.1 ≤ q.order ∧ s.2.order = q.order ∧ (∀ x y : Nat, (x : Int) < s.1 → (y : Int) < q.order → s.2.t (t.a x).toNat (t.b y).toNat = t.c (q.t x y).toNat) ∧ ∀ x y : Nat, q.order ≤ x ∨ q.order ≤ y → s.2.t x y = 0)
    ⟨by simp, by simp; omega, rfl, fun x y hx => by simp only at hx; omega, fun x y _ => rfl⟩ ?_
  rintro ⟨x1, ⟨o, x2⟩⟩ ⟨h2, h3, h4, h5, h6⟩
  simp only at h2 h3 h4 h5 h6
  subst h4
  unfold m_impl_isotope_l0
  refine W.condP (fun h => W.chk (by omega) ?_) (fun h => ?_)
  · refine W.call (elements_W (by omega) (by omega)) fun l2 hl2 => ?_
    refine W.upto (fun s => s.1) q.order (fun s => 0 ≤ s.1 ∧ s.2.order = q.order ∧ (∀ x y : Nat, (y : Int) < q.order → (x : Int) < x1 ∨ (x : Int) = x1 ∧ (y : Int) < s.1 → s.2.t (t.a x).toNat (t.b y).toNat = t.c (q.t x y).toNat) ∧ ∀ x y : Nat, q.order ≤ x ∨ q.order ≤ y → s.2.t x y = 0)
      ⟨by simp, rfl, fun x y hy hx => h5 x y (by simp only at hx; omega) hy, h6⟩ ?_
    rintro ⟨x3, ⟨o, x4⟩⟩ ⟨g1, g2, g3, g4⟩
    simp only at g1 g2 g3 g4
    subst g2
    unfold m_impl_isotope_l1
    refine W.condP (fun h' => ?_) (fun h' => ?_)
    · have i1 := hl.2 x1.toNat (by omega)
      have i2 := hl2.2 x3.toNat (by omega)
      have e1 := latin_lt10 hq x1.toNat x3.toNat (by omega) (by omega)
      have e2 := ha.lo x1.toNat (by omega)
      have e3 := hb.lo x3.toNat (by omega)
      rw [i1, i2]
      simp only [Int.toNat_natCast]
      refine W.chk (by omega) (W.chk (by omega) (W.chk (by omega) (W.chk (by omega) (W.chk (by omega) (W.chk (by omega) (W.chk (by omega) (W.chk (by omega) (W.some ?_))))))))
      simp only
      rw [w64 (by omega)]
      refine ⟨⟨by omega, trivial, fun x y hy hx => ?_, fun x y hx => ?_⟩, by omega, by omega⟩
      · unfold Abs.tset
        have ex := ha.lo x (by omega)
        have ey := hb.lo y hy
        split
        · rename_i e
          have := ha.inj x x1.toNat (by omega) (by omega) (by omega)
          have := hb.inj y x3.toNat (by omega) (by omega) (by omega)
          subst x; subst y; rfl
        · rename_i e
          refine g3 x y hy ?_
          by_cases e' : (x : Int) = x1 ∧ (y : Int) = x3
          · obtain ⟨f1, f2⟩ := e'
            subst f1; subst f2; simp at e
          · omega
      · unfold Abs.tset
        rw [if_neg (by omega)]
        exact g4 x y hx
    · refine W.some ?_
      simp only [if_true]
      refine W.some ?_
      simp only
      rw [w64 (by omega)]
      exact ⟨⟨by omega, by omega, trivial, fun x y hx hy => g3 x y hy (by omega), g4⟩, by omega, by omega⟩
  · exact W.some (W.some ⟨rfl, fun x y hx hy => h5 x y (by omega) hy, h6⟩)

/-! ## Triples -/
structure IsT (n : Int) (t : Tr) : Prop where
  a : IsP n t.a
  b : IsP n t.b
  c : IsP n t.c
structure ByTr (t : Tr) : Prop where
  a : ByP t.a
  b : ByP t.b
  c : ByP t.c

theorem IsTriple_W {n : Int} {t : Tr} (h : ByTr t) : W (m_impl_IsTriple t n) fun r => r = true ↔ IsT n t := by
  unfold m_impl_IsTriple
  refine W.call (arePermutations_W (by simp) (fun i hi => ?_)) fun b hb => W.some ?_
  · match i, hi with
    | 0, _ => exact h.a
    | 1, _ => exact h.b
    | 2, _ => exact h.c
    | i + 3, hi => simp at hi; omega
  · rw [hb]
    constructor
    · exact fun x => ⟨x.2 0 (by simp), x.2 1 (by simp), x.2 2 (by simp)⟩
    · refine fun x => ⟨⟨x.a.n1, x.a.n10⟩, fun i hi => ?_⟩
      match i, hi with
      | 0, _ => exact x.a
      | 1, _ => exact x.b
      | 2, _ => exact x.c
      | i + 3, hi => simp at hi; omega
theorem l02Is_W {n : Int} {t : Tr} (h : ByTr t) : W (m_spec_l02Is t n) fun r => r = true ↔ IsT n t := by
  unfold m_spec_l02Is
  have bad : ∀ {P : Prop}, ¬ P → ((false = true) ↔ P) := fun hp => by simp only [Bool.false_eq_true, false_iff]; exact hp
  refine W.call (l01Perm_W h.a) fun b1 h1 => W.cond (fun e1 => ?_) (fun e1 => W.some (bad fun x => ?_))
  · refine W.call (l01Perm_W h.b) fun b2 h2 => W.cond (fun e2 => ?_) (fun e2 => W.some (bad fun x => ?_))
    · refine W.call (l01Perm_W h.c) fun b3 h3 => W.some ?_
      rw [h3]
      exact ⟨fun x => ⟨h1.1 e1, h2.1 e2, x⟩, fun x => x.c⟩
    · exact ne_true_of_false e2 (h2.2 x.b)
  · exact ne_true_of_false e1 (h1.2 x.a)

theorem eqTr_refl (t : Tr) : eqTr t t = true := by simp [eqTr, eqPl_refl]

def thenT (n : Int) (s t : Tr) : Tr := ⟨thenF n s.a t.a, thenF n s.b t.b, thenF n s.c t.c⟩
def ThenTOf (n : Int) (s t : Tr) (r : Tr × Int) : Prop := (IsT n s ∧ IsT n t ∧ r = (thenT n s t, 0)) ∨ (¬ (IsT n s ∧ IsT n t) ∧ r = (tr0, 1))
theorem ThenTOf.eq {n : Int} {s t : Tr} {r r' : Tr × Int} (h : ThenTOf n s t r) (h' : ThenTOf n s t r') : r = r' := by
  rcases h with ⟨a, b, c⟩ | ⟨a, c⟩ <;> rcases h' with ⟨a', b', c'⟩ | ⟨a', c'⟩ <;> first
    | (rw [c, c']; done)
    | exact absurd ⟨a, b⟩ a'
    | exact absurd ⟨a', b'⟩ a
theorem ThenTriples_W {n : Int} {s t : Tr} (hs : ByTr s) (ht : ByTr t) : W (m_impl_ThenTriples s t n) (ThenTOf n s t) := by
  unfold m_impl_ThenTriples m_impl_thenTriples
  refine W.call (IsTriple_W hs) fun b1 h1 => W.condNot (fun e => W.some (.inr ⟨fun x => ne_true_of_false e (h1.2 x.1), rfl⟩)) (fun e1 => W.call (IsTriple_W ht) fun b2 h2 => W.condNot (fun e => W.some (.inr ⟨fun x => ne_true_of_false e (h2.2 x.2), rfl⟩)) (fun e2 => ?_))
  have S := h1.1 e1
  exact W.call (R := fun r => r = thenT n s t) (W.call (then_W S.a.n1 S.a.n10 S.a.perm) fun r1 k1 => W.call (then_W S.a.n1 S.a.n10 S.b.perm) fun r2 k2 => W.call (then_W S.a.n1 S.a.n10 S.c.perm) fun r3 k3 => W.some (show (⟨r1, r2, r3⟩ : Tr) = thenT n s t by rw [k1, k2, k3]; rfl)) fun r hr => W.some (.inl ⟨S, h2.1 e2, by rw [hr]⟩)
theorem spec_ThenTriples_W {n : Int} {s t : Tr} (hs : ByTr s) (ht : ByTr t) : W (m_spec_ThenTriples s t n) (ThenTOf n s t) := by
  unfold m_spec_ThenTriples m_spec_l02Then
  rw [← then_same]
  refine W.call (l02Is_W hs) fun b1 h1 => W.condNot (fun e => W.some (.inr ⟨fun x => ne_true_of_false e (h1.2 x.1), rfl⟩)) (fun e1 => W.call (l02Is_W ht) fun b2 h2 => W.condNot (fun e => W.some (.inr ⟨fun x => ne_true_of_false e (h2.2 x.2), rfl⟩)) (fun e2 => ?_))
  have S := h1.1 e1
  exact W.call (R := fun r => r = thenT n s t) (W.call (then_W S.a.n1 S.a.n10 S.a.perm) fun r1 k1 => W.call (then_W S.a.n1 S.a.n10 S.b.perm) fun r2 k2 => W.call (then_W S.a.n1 S.a.n10 S.c.perm) fun r3 k3 => W.some (show (⟨r1, r2, r3⟩ : Tr) = thenT n s t by rw [k1, k2, k3]; rfl)) fun r hr => W.some (.inl ⟨S, h2.1 e2, by rw [hr]⟩)

structure BackT (n : Int) (t r : Tr) : Prop where
  a : BackOf n t.a r.a
  b : BackOf n t.b r.b
  c : BackOf n t.c r.c
def BackTOf (n : Int) (t : Tr) (r : Tr × Int) : Prop := (IsT n t ∧ r.2 = 0 ∧ BackT n t r.1) ∨ (¬ IsT n t ∧ r = (tr0, 1))
theorem BackTriple_W {n : Int} {t : Tr} (ht : ByTr t) : W (m_impl_BackTriple t n) fun r => BackTOf n t r ∧ m_spec_BackTriple t n = some r := by
  obtain ⟨bs, es, hs⟩ := l02Is_W (n := n) ht
  unfold m_impl_BackTriple m_impl_backTriple m_spec_BackTriple m_spec_l02Back
  rw [← back_same]
  refine W.call (IsTriple_W ht) fun b1 h1 => W.condNot (fun e => ?_) (fun e => ?_)
  · have hno : ¬ IsT n t := fun x => ne_true_of_false e (h1.2 x)
    have hbs : bs = false := by cases bs with
      | true => exact absurd (hs.1 rfl) hno
      | false => rfl
    exact W.some ⟨.inr ⟨hno, rfl⟩, by rw [es, hbs]; rfl⟩
  · have S := h1.1 e
    obtain ⟨r1, k1, j1⟩ := back_W S.a.n1 S.a.n10 S.a.perm
    obtain ⟨r2, k2, j2⟩ := back_W S.a.n1 S.a.n10 S.b.perm
    obtain ⟨r3, k3, j3⟩ := back_W S.a.n1 S.a.n10 S.c.perm
    have hbs : bs = true := hs.2 S
    rw [k1, k2, k3, es, hbs]
    exact W.some ⟨.inl ⟨S, rfl, j1, j2, j3⟩, rfl⟩

def IsoOf (q : Sq) (t : Tr) (r : Sq × Int) : Prop := (Latin q ∧ IsT q.order t ∧ r.2 = 0 ∧ MovedOf q t.a t.b t.c r.1) ∨ (¬ (Latin q ∧ IsT q.order t) ∧ r = (sq0, 1))
theorem IsoOf.eq {q : Sq} {t : Tr} {r r' : Sq × Int} (h : IsoOf q t r) (h' : IsoOf q t r') : r = r' := by
  rcases h with ⟨a, b, c, d⟩ | ⟨a, c⟩ <;> rcases h' with ⟨a', b', c', d'⟩ | ⟨a', c'⟩
  · have := MovedOf.eq b.a.perm b.b.perm d d'
    obtain ⟨x, y⟩ := r; obtain ⟨x', y'⟩ := r'
    simp only at this c c'; subst this; rw [c, c']
  · exact absurd ⟨a, b⟩ a'
  · exact absurd ⟨a', b'⟩ a
  · rw [c, c']
theorem IsotopeOf_W {q : Sq} {t : Tr} (hq : Byt q.t) (ht : ByTr t) : W (m_impl_IsotopeOf q t) (IsoOf q t) := by
  unfold m_impl_IsotopeOf
  refine W.call (IsSquare_W hq) fun b1 h1 => W.condNot (fun e => W.some (.inr ⟨fun x => ne_true_of_false e (h1.2 x.1), rfl⟩)) (fun e1 => W.call (IsTriple_W ht) fun b2 h2 => W.condNot (fun e => W.some (.inr ⟨fun x => ne_true_of_false e (h2.2 x.2), rfl⟩)) (fun e2 => ?_))
  have S := h2.1 e2
  exact W.call (isotope_W (h1.1 e1) S.a.perm S.b.perm) fun r hr => W.some (.inl ⟨h1.1 e1, S, rfl, hr⟩)
theorem l02Code_W {q : Sq} {t : Tr} (hq : Byt q.t) (ht : ByTr t) : W (m_spec_l02Code q t) fun r => (Latin q ∧ IsT q.order t ∧ r = 0) ∨ (¬ (Latin q ∧ IsT q.order t) ∧ r = 1) := by
  unfold m_spec_l02Code
  refine W.call (l01Is_W hq) fun b1 h1 => W.condNot (fun e => W.some (.inr ⟨fun x => ne_true_of_false e (h1.2 x.1), rfl⟩)) (fun e1 => W.call (l02Is_W ht) fun b2 h2 => W.condNot (fun e => W.some (.inr ⟨fun x => ne_true_of_false e (h2.2 x.2), rfl⟩)) (fun e2 => W.some (.inl ⟨h1.1 e1, h2.1 e2, rfl⟩)))
theorem spec_IsotopeOf_W {q : Sq} {t : Tr} (hq : Byt q.t) (ht : ByTr t) : W (m_spec_IsotopeOf q t) (IsoOf q t) := by
  unfold m_spec_IsotopeOf
  rw [l02Isotope_eq]
  refine W.call (l02Code_W hq ht) fun r hr => W.condNe (fun e => ?_) (fun e => ?_)
  · rcases hr with ⟨_, _, h⟩ | ⟨h, h'⟩
    · exact absurd h e
    · exact W.some (.inr ⟨h, by rw [h']⟩)
  · rcases hr with ⟨L, S, h⟩ | ⟨h, h'⟩
    · exact W.call (l01Moved_W L.n1 L.n10 (latin_lt10 L) S.a.perm S.b.perm) fun r hr => W.some (.inl ⟨L, S, rfl, hr⟩)
    · rw [h'] at e; exact absurd e (by decide)

def AutOf (q : Sq) (t : Tr) (r : Bool × Int) : Prop := (Latin q ∧ IsT q.order t ∧ r.2 = 0 ∧ ∃ s, MovedOf q t.a t.b t.c s ∧ r.1 = eqSq s q) ∨ (¬ (Latin q ∧ IsT q.order t) ∧ r = (false, 1))
theorem AutOf.eq {q : Sq} {t : Tr} {r r' : Bool × Int} (h : AutOf q t r) (h' : AutOf q t r') : r = r' := by
  rcases h with ⟨a, b, c, s, d, e⟩ | ⟨a, c⟩ <;> rcases h' with ⟨a', b', c', s', d', e'⟩ | ⟨a', c'⟩
  · have := MovedOf.eq b.a.perm b.b.perm d d'
    subst this
    obtain ⟨x, y⟩ := r; obtain ⟨x', y'⟩ := r'
    simp only at e e' c c'; rw [e, e', c, c']
  · exact absurd ⟨a, b⟩ a'
  · exact absurd ⟨a', b'⟩ a
  · rw [c, c']
theorem IsAutotopism_W {q : Sq} {t : Tr} (hq : Byt q.t) (ht : ByTr t) : W (m_impl_IsAutotopism q t) (AutOf q t) := by
  unfold m_impl_IsAutotopism
  refine W.call (IsSquare_W hq) fun b1 h1 => W.condNot (fun e => W.some (.inr ⟨fun x => ne_true_of_false e (h1.2 x.1), rfl⟩)) (fun e1 => W.call (IsTriple_W ht) fun b2 h2 => W.condNot (fun e => W.some (.inr ⟨fun x => ne_true_of_false e (h2.2 x.2), rfl⟩)) (fun e2 => ?_))
  have S := h2.1 e2
  exact W.call (isotope_W (h1.1 e1) S.a.perm S.b.perm) fun r hr => W.some (.inl ⟨h1.1 e1, S, rfl, r, hr, rfl⟩)
theorem spec_IsAutotopism_W {q : Sq} {t : Tr} (hq : Byt q.t) (ht : ByTr t) : W (m_spec_IsAutotopism q t) (AutOf q t) := by
  unfold m_spec_IsAutotopism
  rw [l02Isotope_eq]
  refine W.call (l02Code_W hq ht) fun r hr => W.condNe (fun e => ?_) (fun e => ?_)
  · rcases hr with ⟨_, _, h⟩ | ⟨h, h'⟩
    · exact absurd h e
    · exact W.some (.inr ⟨h, by rw [h']⟩)
  · rcases hr with ⟨L, S, h⟩ | ⟨h, h'⟩
    · exact W.call (l01Moved_W L.n1 L.n10 (latin_lt10 L) S.a.perm S.b.perm) fun r hr => W.some (.inl ⟨L, S, rfl, r, hr, rfl⟩)
    · rw [h'] at e; exact absurd e (by decide)

/-! ## Loops at elements -/
/-- the exchange of 0 and e -/
def exch (n e : Int) : Nat → Int := fun i => if (i : Int) = e then 0 else if i = 0 then e else if (i : Int) < n then i else 0
theorem exch_perm {n e : Int} (h0 : 0 ≤ e) (he : e < n) : PermP n (exch n e) := by
  refine ⟨fun i hi => ?_, fun i j hi hj h => ?_⟩
  · unfold exch; split
    · omega
    · split
      · omega
      · first | omega | (rw [if_pos hi]; omega)
  · unfold exch at h
    split at h <;> split at h <;> (try split at h) <;> (try split at h) <;> (try split at h) <;> (try split at h) <;> omega

theorem identity_same : m_impl_identity = m_spec_l01Same := rfl

structure ToLoop (q : Sq) (a b : Nat) (t : Tr) : Prop where
  fa : ∀ x : Nat, (x : Int) < q.order → t.a x = exch q.order (q.t a b) (q.t x b).toNat
  fb : ∀ y : Nat, (y : Int) < q.order → t.b y = exch q.order (q.t a b) (q.t a y).toNat
  fc : ∀ z : Nat, (z : Int) < q.order → t.c z = exch q.order (q.t a b) z

theorem exch_of {n e : Int} (h0 : 0 ≤ e) (he : e < n) {id : Nat → Int} (hid : ∀ i : Nat, (i : Int) < n → id i = i) (i : Nat) (hi : (i : Int) < n) : fset (fset id 0 e) e.toNat 0 i = exch n e i := by
  simp only [fset_eq]; unfold exch
  by_cases h1 : i = e.toNat
  · rw [if_pos h1, if_pos (by omega)]
  · rw [if_neg h1, if_neg (show ¬ (i : Int) = e by omega)]
    by_cases h2 : i = 0
    · rw [if_pos h2, if_pos h2]
    · rw [if_neg h2, if_neg h2, if_pos hi, hid i hi]

theorem l02To_W {q : Sq} (hq : Latin q) {a b : Int} (ha0 : 0 ≤ a) (ha : a < q.order) (hb0 : 0 ≤ b) (hb : b < q.order) : W (m_spec_l02To q a b) (ToLoop q a.toNat b.toNat) := by
  have n1 := hq.n1; have n10 := hq.n10
  have e0 := hq.lt (x := a.toNat) (y := b.toNat) (by omega) (by omega)
  unfold m_spec_l02To
  refine W.call (l01Same_W n10) fun id hid => W.chk (by omega) (W.chk (by omega) (W.chk (by omega) ?_))
  refine W.call (l01Column_W n10 (by omega) (by omega) (by omega)) fun c hc => ?_
  have pc : PermP q.order c := (hq.col b.toNat (by omega)).ext fun i hi => by rw [hc]; simp only; rw [if_pos hi]
  rw [← then_same]
  refine W.call (then_W n1 n10 pc) fun r3 h3 => W.call (l01Row_W ha0 (by omega)) fun r4 h4 => ?_
  subst h4
  refine W.call (then_W n1 n10 (hq.row a.toNat (by omega))) fun r5 h5 => W.some ⟨fun x hx => ?_, fun y hy => ?_, fun z hz => exch_of e0.1 e0.2 hid.1 z hz⟩
  · have := hq.lt (x := x) (y := b.toNat) hx (by omega)
    simp only; rw [h3]; unfold thenF
    rw [if_pos hx, hc]; simp only
    rw [if_pos hx, exch_of e0.1 e0.2 hid.1 _ (by omega)]
  · have := hq.lt (x := a.toNat) (y := y) (by omega) hy
    simp only; rw [h5]; unfold thenF
    rw [if_pos hy, exch_of e0.1 e0.2 hid.1 _ (by omega)]

theorem column_W {q : Sq} {y : Int} (h0 : 0 ≤ y) (h1 : y < 10) : W (m_impl_Square_column q y) fun r => ∀ i : Nat, i < 10 → r i = q.t i y.toNat := by
  unfold m_impl_Square_column
  refine W.upto (fun t => t.1) 10 (fun t => 0 ≤ t.1 ∧ t.1 ≤ 10 ∧ ∀ i : Nat, (i : Int) < t.1 → t.2 i = q.t i y.toNat) ⟨by simp, by simp, fun i hi => by simp only at hi; omega⟩ ?_
  rintro ⟨x1, x2⟩ ⟨h2, h3, h4⟩
  simp only at h2 h3 h4
  unfold m_impl_Square_column_l0
  refine W.condP (fun h => W.chk (by omega) (W.chk (by omega) (W.chk (by omega) (W.some ?_)))) (fun h => W.some (W.some fun i hi => h4 i (by omega)))
  simp only
  rw [w64 (by omega)]
  refine ⟨⟨by omega, by omega, fun i hi => ?_⟩, by omega, by omega⟩
  rw [fset_eq]
  split
  · rename_i e; rw [e]
  · exact h4 i (by omega)

theorem toLoop_W {q : Sq} (hq : Latin q) {a b : Int} (ha0 : 0 ≤ a) (ha : a < q.order) (hb0 : 0 ≤ b) (hb : b < q.order) : W (m_impl_toLoop q a b) (ToLoop q a.toNat b.toNat) := by
  have n1 := hq.n1; have n10 := hq.n10
  have e0 := hq.lt (x := a.toNat) (y := b.toNat) (by omega) (by omega)
  unfold m_impl_toLoop
  rw [identity_same]
  refine W.chk (by omega) (W.chk (by omega) (W.call (l01Same_W n10) fun id hid => W.chk (by omega) ?_))
  refine W.call (column_W (by omega) (by omega)) fun c hc => ?_
  have pc : PermP q.order c := (hq.col b.toNat (by omega)).ext fun i hi => hc i (by omega)
  refine W.call (then_W n1 n10 pc) fun r3 h3 => ?_
  refine W.call (m := m_impl_Square_row q a) (R := fun r => r = q.t a.toNat) (by unfold m_impl_Square_row; exact W.chk (by omega) (W.some rfl)) fun r4 h4 => ?_
  subst h4
  refine W.call (then_W n1 n10 (hq.row a.toNat (by omega))) fun r5 h5 => W.some ⟨fun x hx => ?_, fun y hy => ?_, fun z hz => exch_of e0.1 e0.2 hid.1 z hz⟩
  · have := hq.lt (x := x) (y := b.toNat) hx (by omega)
    simp only; rw [h3]; unfold thenF
    rw [if_pos hx, hc x (by omega), exch_of e0.1 e0.2 hid.1 _ (by omega)]
  · have := hq.lt (x := a.toNat) (y := y) (by omega) hy
    simp only; rw [h5]; unfold thenF
    rw [if_pos hy, exch_of e0.1 e0.2 hid.1 _ (by omega)]

theorem exch_inj {n e : Int} (h0 : 0 ≤ e) (he : e < n) {i j : Nat} (hi : (i : Int) < n) (hj : (j : Int) < n) (h : exch n e i = exch n e j) : i = j := (exch_perm h0 he).inj i j hi hj h
theorem ToLoop.perm {q : Sq} (hq : Latin q) {a b : Nat} (ha : (a : Int) < q.order) (hb : (b : Int) < q.order) {t : Tr} (h : ToLoop q a b t) : PermP q.order t.a ∧ PermP q.order t.b ∧ PermP q.order t.c := by
  have e0 := hq.lt ha hb
  have P := exch_perm e0.1 e0.2
  refine ⟨⟨fun x hx => ?_, fun x y hx hy e => ?_⟩, ⟨fun x hx => ?_, fun x y hx hy e => ?_⟩, P.ext h.fc⟩
  · have := hq.lt hx hb
    rw [h.fa x hx]; exact P.lo _ (by omega)
  · have a1 := hq.lt hx hb; have a2 := hq.lt hy hb
    rw [h.fa x hx, h.fa y hy] at e
    have := P.inj _ _ (by omega) (by omega) e
    exact (hq.col b hb).inj x y hx hy (by omega)
  · have := hq.lt ha hx
    rw [h.fb x hx]; exact P.lo _ (by omega)
  · have a1 := hq.lt ha hx; have a2 := hq.lt ha hy
    rw [h.fb x hx, h.fb y hy] at e
    have := P.inj _ _ (by omega) (by omega) e
    exact (hq.row a ha).inj x y hx hy (by omega)
theorem exch_e {n e : Int} : ∀ i : Nat, (i : Int) = e → exch n e i = 0 := fun i h => by unfold exch; rw [if_pos h]

/-- The isotope is a loop. -/
theorem ToLoop.loop {q : Sq} (hq : Latin q) {a b : Nat} (ha : (a : Int) < q.order) (hb : (b : Int) < q.order) {t : Tr} (h : ToLoop q a b t) {r : Sq} (hr : MovedOf q t.a t.b t.c r) : Loop r := by
  have e0 := hq.lt ha hb
  obtain ⟨pa, pb, pc⟩ := h.perm hq ha hb
  have L := hr.latin hq pa pb pc
  have ea : t.a a = 0 := by rw [h.fa a ha]; exact exch_e _ (by omega)
  have eb : t.b b = 0 := by rw [h.fb b hb]; exact exch_e _ (by omega)
  refine ⟨L, fun v hv => ?_, fun v hv => ?_⟩ <;> rw [hr.ord] at hv
  · obtain ⟨y, hy, ey⟩ := pb.onto hv
    have k := hr.at_ a y ha hy
    have := hq.lt ha hy
    rw [ea, ey, h.fc _ (by omega), ← h.fb y hy, ey] at k
    simpa using k
  · obtain ⟨x, hx, ex⟩ := pa.onto hv
    have k := hr.at_ x b hx hb
    have := hq.lt hx hb
    rw [eb, ex, h.fc _ (by omega), ← h.fa x hx, ex] at k
    simpa using k

def LoopAtOf (q : Sq) (a b : Int) (r : Sq × Int) : Prop := (¬ Latin q ∧ r = (sq0, 1)) ∨ (Latin q ∧ ¬ (a < q.order ∧ b < q.order) ∧ r = (sq0, 2)) ∨ (Latin q ∧ a < q.order ∧ b < q.order ∧ r.2 = 0 ∧ ∃ t, ToLoop q a.toNat b.toNat t ∧ MovedOf q t.a t.b t.c r.1)
theorem MovedOf.congr {q r : Sq} {a b c a' b' c' : Nat → Int} (hq : Latin q) (h : MovedOf q a b c r) (ea : ∀ x : Nat, (x : Int) < q.order → a x = a' x) (eb : ∀ x : Nat, (x : Int) < q.order → b x = b' x) (ec : ∀ x : Nat, (x : Int) < q.order → c x = c' x) : MovedOf q a' b' c' r :=
  ⟨h.ord, fun x y hx hy => by have := hq.lt hx hy; rw [← ea x hx, ← eb y hy, ← ec _ (by omega)]; exact h.at_ x y hx hy, h.zero⟩
theorem LoopAtOf.eq {q : Sq} {a b : Int} (ha : 0 ≤ a) (hb : 0 ≤ b) {r r' : Sq × Int} (h : LoopAtOf q a b r) (h' : LoopAtOf q a b r') : r = r' := by
  rcases h with ⟨x, e⟩ | ⟨x, y, e⟩ | ⟨x, y, z, e, t, T, M⟩ <;> rcases h' with ⟨x', e'⟩ | ⟨x', y', e'⟩ | ⟨x', y', z', e', t', T', M'⟩
  · rw [e, e']
  · exact absurd x' x
  · exact absurd x' x
  · exact absurd x x'
  · rw [e, e']
  · exact absurd ⟨y', z'⟩ y
  · exact absurd x x'
  · exact absurd ⟨y, z⟩ y'
  · have P := T'.perm x (by omega) (by omega)
    have := MovedOf.eq P.1 P.2.1 (M.congr x (fun i hi => by rw [T.fa i hi, T'.fa i hi]) (fun i hi => by rw [T.fb i hi, T'.fb i hi]) (fun i hi => by rw [T.fc i hi, T'.fc i hi])) M'
    obtain ⟨u, v⟩ := r; obtain ⟨u', v'⟩ := r'
    simp only at this e e'; subst this; rw [e, e']

theorem has_W {q : Sq} {l : List Int} (hl : l.length ≤ 1000) (hb : ∀ i : Nat, i < l.length → 0 ≤ l.getD i 0 ∧ l.getD i 0 ≤ 255) : W (m_impl_Square_has q l) fun r => r = true ↔ ∀ i : Nat, i < l.length → l.getD i 0 < q.order := by
  unfold m_impl_Square_has
  refine W.upto (fun s => s) l.length (fun s => 0 ≤ s ∧ s ≤ l.length ∧ ∀ i : Nat, (i : Int) < s → l.getD i 0 < q.order) ⟨by omega, by omega, fun i hi => by omega⟩ ?_
  rintro x1 ⟨h1, h2, h3⟩
  unfold m_impl_Square_has_l0
  refine W.condP (fun h => ?_) (fun h => ?_)
  · have := hb x1.toNat (by omega)
    rw [w64 (n := l.getD _ _) (by omega)]
    refine W.chk (by omega) (W.condP (fun hg => W.some (W.some ?_)) (fun hg => W.some ?_))
    · simp only [Bool.false_eq_true, false_iff]
      exact fun x => by have := x x1.toNat (by omega); omega
    · simp only
      rw [w64 (by omega)]
      refine ⟨⟨by omega, by omega, fun i hi => ?_⟩, by omega, by omega⟩
      by_cases e : (i : Int) = x1
      · have : i = x1.toNat := by omega
        subst this; omega
      · exact h3 i (by omega)
  · refine W.some ?_
    simp only [if_true]
    refine W.some ?_
    simp only [true_iff]
    exact fun i hi => h3 i (by omega)

theorem checked2_W {q : Sq} (hq : Byt q.t) {a b : Int} (ha : 0 ≤ a ∧ a ≤ 255) (hb : 0 ≤ b ∧ b ≤ 255) : W (m_impl_checked q [a, b]) fun r => (¬ Latin q ∧ r = 1) ∨ (Latin q ∧ ¬ (a < q.order ∧ b < q.order) ∧ r = 2) ∨ (Latin q ∧ a < q.order ∧ b < q.order ∧ r = 0) := by
  unfold m_impl_checked
  refine W.call (IsSquare_W hq) fun b1 h1 => W.condNot (fun e => W.some (.inl ⟨fun x => ne_true_of_false e (h1.2 x), rfl⟩)) (fun e1 => ?_)
  refine W.call (has_W (by simp) (fun i hi => ?_)) fun b2 h2 => W.condNot (fun e => W.some (.inr (.inl ⟨h1.1 e1, fun x => ne_true_of_false e (h2.2 fun i hi => ?_), rfl⟩))) (fun e2 => W.some (.inr (.inr ⟨h1.1 e1, (h2.1 e2) 0 (by simp), (h2.1 e2) 1 (by simp), rfl⟩)))
  · match i, hi with
    | 0, _ => exact ha
    | 1, _ => exact hb
    | i + 2, hi => simp at hi; omega
  · match i, hi with
    | 0, _ => exact x.1
    | 1, _ => exact x.2
    | i + 2, hi => simp at hi; omega

theorem LoopAt_W {q : Sq} (hq : Byt q.t) {a b : Int} (ha : 0 ≤ a ∧ a ≤ 255) (hb : 0 ≤ b ∧ b ≤ 255) : W (m_impl_LoopAt q a b) (LoopAtOf q a b) := by
  unfold m_impl_LoopAt
  refine W.call (checked2_W hq ha hb) fun r hr => W.condNe (fun h => W.some ?_) (fun h => ?_)
  · rcases hr with ⟨x, e⟩ | ⟨x, y, e⟩ | ⟨x, y, z, e⟩
    · exact .inl ⟨x, by rw [e]⟩
    · exact .inr (.inl ⟨x, y, by rw [e]⟩)
    · exact absurd e h
  · rcases hr with ⟨x, e⟩ | ⟨x, y, e⟩ | ⟨x, y, z, e⟩
    · rw [e] at h; exact absurd h (by decide)
    · rw [e] at h; exact absurd h (by decide)
    refine W.call (toLoop_W x ha.1 y hb.1 z) fun t ht => ?_
    have P := ht.perm x (by omega) (by omega)
    exact W.call (isotope_W x P.1 P.2.1) fun s hs => W.some (.inr (.inr ⟨x, y, z, rfl, t, ht, hs⟩))
theorem spec_LoopAt_W {q : Sq} (hq : Byt q.t) {a b : Int} (ha : 0 ≤ a ∧ a ≤ 255) (hb : 0 ≤ b ∧ b ≤ 255) : W (m_spec_LoopAt q a b) (LoopAtOf q a b) := by
  unfold m_spec_LoopAt
  refine W.call (l01Is_W hq) fun b1 h1 => W.condNot (fun e => W.some (.inl ⟨fun x => ne_true_of_false e (h1.2 x), rfl⟩)) (fun e1 => ?_)
  have x := h1.1 e1
  rw [w64 (n := a) (by omega), w64 (n := b) (by omega)]
  refine W.condP (fun h => W.some (.inr (.inl ⟨x, fun y => by omega, rfl⟩))) (fun h => W.condP (fun h' => W.some (.inr (.inl ⟨x, fun y => by omega, rfl⟩))) (fun h' => ?_))
  refine W.call (l02To_W x ha.1 (by omega) hb.1 (by omega)) fun t ht => ?_
  have P := ht.perm x (by omega) (by omega)
  rw [l02Isotope_eq]
  exact W.call (l01Moved_W x.n1 x.n10 (latin_lt10 x) P.1 P.2.1) fun s hs => W.some (.inr (.inr ⟨x, by omega, by omega, rfl, t, ht, hs⟩))

/-! ## Draws -/
section
variable {l : List Int} (hl : Code l)
include hl
theorem l02Draw_W {s : Rng} (hs : SrcOk l s) {n : Int} (h1 : 1 ≤ n) (h10 : n ≤ 10) : W (m_spec_l02Draw s l n) fun r => ByTr r.1 ∧ SrcOk l r.2 := by
  unfold m_spec_l02Draw
  refine W.call (l01DrawPlaces_W hl hs h10 (by omega)) fun r1 k1 => W.call (l01DrawPlaces_W hl k1.2.2 h10 (by omega)) fun r2 k2 => W.call (l01DrawPlaces_W hl k2.2.2 h10 (by omega)) fun r3 k3 => W.call (l01Next_W hl k3.2.2 _ (by omega)) fun r4 k4 => ?_
  have b1 := k1.1.byP h10 k1.2.1; have b2 := k2.1.byP h10 k2.2.1; have b3 := k3.1.byP h10 k3.2.1
  rw [w64 (by omega)]
  refine W.cond (fun _ => W.chk (by omega) (W.call (l01Next_W hl k4.1 _ (by omega)) fun r5 k5 => W.some ⟨⟨b1, fun i hi => ?_, b3⟩, k5.1⟩)) (fun _ => W.some ⟨⟨b1, b2, b3⟩, k4.1⟩)
  simp only [fset_eq]
  split
  · exact w8_lt _
  · exact b2 i hi
theorem l02Order_W {s : Rng} (hs : SrcOk l s) : W (m_spec_l02Order s l) fun r => (1 ≤ r.1 ∧ r.1 ≤ 10) ∧ SrcOk l r.2 := by
  unfold m_spec_l02Order
  refine W.call (l01Pick_W hl hs _ (by simp) (by simp)) fun r h => W.some ⟨?_, h.1⟩
  have := h.2
  simp only [List.mem_cons, List.not_mem_nil, or_false] at this
  omega
theorem DrawIsotopeOf_W : W (m_spec_DrawIsotopeOf l) fun r => Byt r.1.t ∧ ByTr r.2 := by
  unfold m_spec_DrawIsotopeOf
  refine W.call (l01From_W hl) fun s hs => W.call (l01Spoil_W hl hs) fun r2 k2 => ?_
  have e : 1 ≤ max2 1 (min2 r2.1.order 10) ∧ max2 1 (min2 r2.1.order 10) ≤ 10 := by unfold max2 min2; split <;> split <;> omega
  exact W.call (l02Draw_W hl k2.2 e.1 e.2) fun r3 k3 => W.some ⟨k2.1.byt, k3.1⟩
theorem DrawThenTriples_W : W (m_spec_DrawThenTriples l) fun r => ByTr r.1 ∧ ByTr r.2.1 := by
  unfold m_spec_DrawThenTriples
  exact W.call (l01From_W hl) fun s hs => W.call (l02Order_W hl hs) fun r2 k2 => W.call (l02Draw_W hl k2.2 k2.1.1 k2.1.2) fun r3 k3 => W.call (l02Draw_W hl k3.2 k2.1.1 k2.1.2) fun r4 k4 => W.some ⟨k3.1, k4.1⟩
theorem DrawIsTriple_W : W (m_spec_DrawIsTriple l) fun r => ByTr r.1 := by
  unfold m_spec_DrawIsTriple
  exact W.call (l01From_W hl) fun s hs => W.call (l02Order_W hl hs) fun r2 k2 => W.call (l02Draw_W hl k2.2 k2.1.1 k2.1.2) fun r3 k3 => W.call (l01Next_W hl k3.2 _ (by omega)) fun r4 k4 => W.some k3.1
theorem DrawBackTriple_W : W (m_spec_DrawBackTriple l) fun r => ByTr r.1 := by
  unfold m_spec_DrawBackTriple
  exact W.call (DrawIsTriple_W hl) fun r k => W.some k
theorem DrawIsAutotopism_W : W (m_spec_DrawIsAutotopism l) fun r => Byt r.1.t ∧ ByTr r.2 := by
  unfold m_spec_DrawIsAutotopism
  refine W.call (l01From_W hl) fun s hs => W.call (l01Spoil_W hl hs) fun r2 k2 => W.call (l01Is_W k2.1.byt) fun b hb => W.condNot (fun _ => ?_) (fun e => ?_)
  · exact W.call (l02Draw_W hl k2.2 (by omega) (by omega)) fun r4 k4 => W.some ⟨k2.1.byt, k4.1⟩
  have L := hb.1 e
  refine W.call (l02All_W L L (by omega) (by omega)) fun r5 k5 => W.call (l01Next_W hl k2.2 _ (by omega)) fun r6 k6 => ?_
  have other : W ((m_spec_l02Draw r6.2 l r2.1.order).bind fun r8 => some (r2.1, r8.1)) fun r => Byt r.1.t ∧ ByTr r.2 := W.call (l02Draw_W hl k6.1 L.n1 L.n10) fun r8 k8 => W.some ⟨k2.1.byt, k8.1⟩
  refine W.cond (fun _ => W.condP (fun hp => ?_) (fun _ => other)) (fun _ => other)
  refine W.call (l01Next_W hl k6.1 _ (by omega)) fun r7 k7 => ?_
  have := k7.2.1 (by omega)
  have hb : ByP (r5.getD r7.1.toNat pl0) := by
    rw [List.getD_eq_getElem?_getD, List.getElem?_eq_getElem (by omega)]
    exact k5.1 _ (List.getElem_mem _)
  exact W.chk (by omega) (W.some ⟨k2.1.byt, hb, hb, hb⟩)
theorem DrawLoopAt_W : W (m_spec_DrawLoopAt l) fun r => Byt r.1.t ∧ (0 ≤ r.2.1 ∧ r.2.1 ≤ 255) ∧ 0 ≤ r.2.2 ∧ r.2.2 ≤ 255 := by
  unfold m_spec_DrawLoopAt
  refine W.call (l01From_W hl) fun s hs => W.call (l01Spoil_W hl hs) fun r2 k2 => W.call (l01Next_W hl k2.2 _ (by omega)) fun r3 k3 => ?_
  have a := k3.2.1 (by omega)
  have e1 : r3.1.tdiv 29 ≤ 1 ∧ 0 ≤ r3.1.tdiv 29 := by rw [Int.tdiv_eq_ediv_of_nonneg a.1]; omega
  have e2 : 1 ≤ max2 1 r2.1.order ∧ max2 1 r2.1.order ≤ 11 := by have := k2.1.o1; unfold max2; split <;> omega
  rw [w64 (n := r3.1.tdiv 29) (by omega), w64 (by omega)]
  exact W.call (l01Next_W hl k3.1 _ (by omega)) fun r4 k4 => W.call (l01Next_W hl k4.1 _ (by omega)) fun r5 k5 => W.some ⟨k2.1.byt, w8_lt _, w8_lt _⟩
end

/-! ## There and back -/
theorem eqTb_iff {s t : Nat → Nat → Int} : eqTb s t = true ↔ ∀ i j : Nat, i < 10 → j < 10 → s i j = t i j := by
  unfold eqTb
  simp only [List.all_eq_true, List.mem_range, eqPl_iff]
  exact ⟨fun h i j hi hj => h i hi j hj, fun h i hi j hj => h i j hi hj⟩
theorem eqSq_iff {p q : Sq} : eqSq p q = true ↔ p.order = q.order ∧ ∀ i j : Nat, i < 10 → j < 10 → p.t i j = q.t i j := by
  unfold eqSq
  rw [Bool.and_eq_true, eqTb_iff, beq_iff_eq]

theorem BackT.isT {n : Int} {t r : Tr} (ht : ByTr t) (T : IsT n t) (h : BackT n t r) : IsT n r :=
  ⟨⟨T.a.n1, T.a.n10, h.a.perm ht.a T.a.n10 T.a.perm, fun i hi _ => h.a.zero i hi⟩, ⟨T.a.n1, T.a.n10, h.b.perm ht.b T.a.n10 T.b.perm, fun i hi _ => h.b.zero i hi⟩, ⟨T.a.n1, T.a.n10, h.c.perm ht.c T.a.n10 T.c.perm, fun i hi _ => h.c.zero i hi⟩⟩
theorem IsT.byTr {n : Int} {t : Tr} (T : IsT n t) : ByTr t := ⟨T.a.perm.byP T.a.n10 T.a.zero, T.b.perm.byP T.b.n10 T.b.zero, T.c.perm.byP T.c.n10 T.c.zero⟩

theorem there_back {q r s : Sq} {t b : Tr} (hq : Latin q) (T : IsT q.order t) (B : BackT q.order t b) (M : MovedOf q t.a t.b t.c r) (M' : MovedOf r b.a b.b b.c s) : eqSq s q = true := by
  rw [eqSq_iff]
  refine ⟨by rw [M'.ord, M.ord], fun i j hi hj => ?_⟩
  by_cases h : q.order ≤ i ∨ q.order ≤ j
  · rw [hq.zero i j hi hj h, M'.zero i j (by rw [M.ord]; exact h)]
  · have hi' : (i : Int) < q.order := by omega
    have hj' : (j : Int) < q.order := by omega
    have a1 := T.a.perm.lo i hi'; have a2 := T.b.perm.lo j hj'; have a3 := hq.lt hi' hj'
    have k := M'.at_ (t.a i).toNat (t.b j).toNat (by rw [M.ord]; omega) (by rw [M.ord]; omega)
    rw [M.at_ i j hi' hj', B.a.at_ i hi', B.b.at_ j hj', B.c.at_ _ (by omega)] at k
    simp only [Int.toNat_natCast] at k
    rw [k]; omega
theorem thenT_isT {n : Int} {s t : Tr} (S : IsT n s) (T : IsT n t) : IsT n (thenT n s t) :=
  ⟨⟨S.a.n1, S.a.n10, thenF_perm S.a.perm T.a.perm, thenF_zero⟩, ⟨S.a.n1, S.a.n10, thenF_perm S.b.perm T.b.perm, thenF_zero⟩, ⟨S.a.n1, S.a.n10, thenF_perm S.c.perm T.c.perm, thenF_zero⟩⟩
theorem then_back_id {n : Int} {p b : Nat → Int} (h : BackOf n p b) (i : Nat) (hi : (i : Int) < n) : thenF n p b i = i := by
  unfold thenF; rw [if_pos hi]; exact h.at_ i hi
theorem moved_id {q s : Sq} {t : Tr} (hq : Latin q) (ha : ∀ i : Nat, (i : Int) < q.order → t.a i = i) (hb : ∀ i : Nat, (i : Int) < q.order → t.b i = i) (hc : ∀ i : Nat, (i : Int) < q.order → t.c i = i) (M : MovedOf q t.a t.b t.c s) : eqSq s q = true := by
  rw [eqSq_iff]
  refine ⟨M.ord, fun i j hi hj => ?_⟩
  by_cases h : q.order ≤ i ∨ q.order ≤ j
  · rw [hq.zero i j hi hj h, M.zero i j h]
  · have a3 := hq.lt (x := i) (y := j) (by omega) (by omega)
    have k := M.at_ i j (by omega) (by omega)
    rw [ha i (by omega), hb j (by omega), hc _ (by omega)] at k
    simp only [Int.toNat_natCast] at k
    rw [k]; omega

theorem FnTripleIsotopes_W {l : List Int} (hl : Code l) : W (m_laws_FnTripleIsotopes l) fun r => r = true := by
  have ne : ∀ {α : Type} {a : α} {P : Prop}, a ≠ a → P := fun h => absurd rfl h
  unfold m_laws_FnTripleIsotopes m_laws_big
  refine W.call (W.some rfl) fun b hb => W.cond (fun _ => W.some rfl) (fun _ => ?_)
  refine W.call (DrawIsotopeOf_W hl) fun r2 h2 => W.call (IsotopeOf_W h2.1 h2.2) fun r3 h3 => W.call (spec_IsotopeOf_W h2.1 h2.2) fun r4 h4 => ?_
  have e := h3.eq h4; subst e
  refine W.condNe ne (fun _ => W.condNot (fun h => absurd (eqSq_refl _) (ne_true_of_false h)) (fun _ => ?_))
  refine W.call (DrawThenTriples_W hl) fun r5 h5 => W.call (ThenTriples_W h5.1 h5.2) fun r6 h6 => W.call (spec_ThenTriples_W h5.1 h5.2) fun r7 h7 => ?_
  have e := h6.eq h7; subst e
  refine W.condNe ne (fun _ => W.condNot (fun h => absurd (eqTr_refl _) (ne_true_of_false h)) (fun _ => ?_))
  refine W.call (DrawBackTriple_W hl) fun r8 h8 => W.call (BackTriple_W h8) fun r9 h9 => W.call (W.eq h9.2 rfl) fun r10 h10 => ?_
  subst h10
  refine W.condNe ne (fun _ => W.condNot (fun h => absurd (eqTr_refl _) (ne_true_of_false h)) (fun _ => ?_))
  refine W.call (IsTriple_W h8) fun b11 h11 => W.call (m := m_spec_IsTriple r8.1 r8.2) (R := fun r => r = true ↔ IsT r8.2 r8.1) (by unfold m_spec_IsTriple; exact W.call (l02Is_W h8) fun r hr => W.some hr) fun b12 h12 => ?_
  have e : b11 = b12 := Bool.eq_iff_iff.2 (by rw [h11, h12])
  subst e
  refine W.condNe ne (fun _ => W.call (DrawIsAutotopism_W hl) fun r13 h13 => W.call (IsAutotopism_W h13.1 h13.2) fun r14 h14 => W.call (spec_IsAutotopism_W h13.1 h13.2) fun r15 h15 => ?_)
  have e := h14.eq h15; subst e
  refine W.condNe ne (fun _ => W.condNe ne (fun _ => W.call (DrawLoopAt_W hl) fun r16 h16 => W.call (LoopAt_W h16.1 h16.2.1 h16.2.2) fun r17 h17 => W.call (spec_LoopAt_W h16.1 h16.2.1 h16.2.2) fun r18 h18 => ?_))
  have e := h17.eq h16.2.1.1 h16.2.2.1 h18; subst e
  refine W.condNe ne (fun _ => W.condNot (fun h => absurd (eqSq_refl _) (ne_true_of_false h)) (fun _ => ?_))
  -- what comes last
  have tail : W (_root_.cond (r3.2 != 0) (some (r3.1.order == 0)) ((m_impl_BackTriple r2.2 r2.1.order).bind fun r20 => ((m_impl_IsotopeOf r3.1 r20.1).bind fun r21 => ((m_impl_ThenTriples r2.2 r20.1 r2.1.order).bind fun r22 => ((m_impl_IsAutotopism r2.1 r22.1).bind fun r23 => (_root_.cond (r20.2 == 0) (_root_.cond (r21.2 == 0) (_root_.cond (eqSq r21.1 r2.1) (_root_.cond (r22.2 == 0) (_root_.cond (r23.2 == 0) (_root_.cond r23.1 ((m_impl_IsSquare r3.1).bind fun r24 => some r24) (some false)) (some false)) (some false)) (some false)) (some false)) (some false))))))) fun r => r = true := by
    rcases h3 with ⟨L, T, z, M⟩ | ⟨_, c⟩
    rotate_left
    · rw [c]; exact W.some rfl
    refine W.condNe (fun h => absurd z h) (fun _ => ?_)
    have LR := M.latin L T.a.perm T.b.perm T.c.perm
    refine W.call (BackTriple_W h2.2) fun r20 h20 => ?_
    rcases h20.1 with ⟨_, z20, B⟩ | ⟨h, _⟩
    rotate_left
    · exact absurd T h
    have TB := B.isT h2.2 T
    refine W.call (IsotopeOf_W LR.byt TB.byTr) fun r21 h21 => ?_
    rcases h21 with ⟨_, _, z21, M2⟩ | ⟨h, _⟩
    rotate_left
    · exact absurd ⟨LR, by rw [M.ord]; exact TB⟩ h
    refine W.call (ThenTriples_W h2.2 TB.byTr) fun r22 h22 => ?_
    rcases h22 with ⟨_, _, z22⟩ | ⟨h, _⟩
    rotate_left
    · exact absurd ⟨T, TB⟩ h
    subst z22
    have TT := thenT_isT T TB
    refine W.call (IsAutotopism_W h2.1 TT.byTr) fun r23 h23 => ?_
    rcases h23 with ⟨_, _, z23, s, M3, z24⟩ | ⟨h, _⟩
    rotate_left
    · exact absurd ⟨L, TT⟩ h
    have f1 := there_back L T B M M2
    have f2 := moved_id L (then_back_id B.a) (then_back_id B.b) (then_back_id B.c) M3
    rw [z20, z21, z23, z24, f1, f2]
    exact W.call (IsSquare_W LR.byt) fun b hb => W.some (hb.2 LR)
  refine W.condEq (fun h => ?_) (fun _ => tail)
  rcases h17 with ⟨_, e⟩ | ⟨_, _, e⟩ | ⟨L, a, b, _, t, T, M⟩
  · rw [e] at h; exact absurd h (by decide)
  · rw [e] at h; exact absurd h (by decide)
  have LP := T.loop L (by omega) (by omega) M
  exact W.call (IsLoop_W LP.byt) fun b19 h19 => W.condNot (fun e => absurd (h19.2 LP) (ne_true_of_false e)) (fun _ => tail)
end Go.Pu
