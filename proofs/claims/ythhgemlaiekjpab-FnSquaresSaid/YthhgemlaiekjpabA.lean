/- A Hoare layer over the walk: what is known of slots and of blocks, and the rules. -/
import Derived.WalkKit
import Derived.Deep.MidRow
import Derived.Deep.Quiet
import Derived.Deep.WholeRow
import Derived.KernelRfl
import Derived.Laws.BytesString
import Derived.ChangeKeysEq
import Derived.Laws.StructEq
import Derived.ProofKit
import Derived.OpenShut
import Derived.JoinedCond
import Derived.Deep.AppendSrc
set_option linter.unusedVariables false
set_option linter.unusedSimpArgs false
namespace Go.Abs

/-! ## Slots -/
abbrev Sl := List (Nat × Value)

def lk : Sl → Nat → Option Value
  | [], _ => none
  | (k, v) :: r, t => bif Nat.beq k t then some v else lk r t

def ev (s : Sl) : Operand → Option Value
  | .tmp t => lk s t
  | .const v => some v
  | .global _ => none
  | .func f => some (.func (.func f) #[] #[])

/-- The frame's slots: 'n' of them, and what is known of them. -/
structure Kn (n : Nat) (s : Sl) (a : Act) : Prop where
  size : a.tmps.size = n
  known : ∀ t v, lk s t = some v → a.tmps[t]? = some v

theorem lk_cons (k : Nat) (v : Value) (r : Sl) (t : Nat) : lk ((k, v) :: r) t = if k = t then some v else lk r t := by
  simp only [lk]
  by_cases h : k = t
  · subst h; simp
  · have : Nat.beq k t = false := by
      cases hb : Nat.beq k t
      · rfl
      · exact absurd (Nat.eq_of_beq_eq_true hb) h
    simp [this, h]

theorem Kn.eval {n : Nat} {s : Sl} {a : Act} (h : Kn n s a) {x : Operand} {v : Value} (hx : ev s x = some v) : a.eval x = v := by
  cases x with
  | tmp t =>
    have := h.known t v hx
    simp [Act.eval, this]
  | const u => simpa [ev, Act.eval] using hx
  | global g => simp [ev] at hx
  | func f => simpa [ev, Act.eval] using hx

theorem Kn.put {n : Nat} {s : Sl} {a : Act} (h : Kn n s a) {d : Nat} (hd : Nat.ble (d + 1) n = true) (v : Value) : Kn n ((d, v) :: s) (a.put (some d) v) := by
  have hd' : d < n := Nat.le_of_ble_eq_true hd
  refine ⟨by simp [Act.put, h.size], fun t u hu => ?_⟩
  rw [lk_cons] at hu
  by_cases ht : d = t
  · subst ht
    simp only [if_true, Option.some.injEq] at hu
    subst hu
    simp [Act.put, h.size, hd']
  · simp only [ht, if_false] at hu
    have := h.known t u hu
    simpa [Act.put, Array.getElem?_setIfInBounds_ne ht] using this

theorem Kn.sub {n : Nat} {s s' : Sl} {a : Act} (h : Kn n s a) (hs : ∀ t v, lk s' t = some v → lk s t = some v) : Kn n s' a :=
  ⟨h.size, fun t v hv => h.known t v (hs t v hv)⟩

/-! ## Blocks -/
inductive Blk where
  /-- a block of 'n' cells of a type, of which the first ones are known; they may be written -/
  | own (T : TypeId) (xs : List Value) (n : Nat)
  /-- cells that are only read -/
  | ro (f : Nat → Option Value)
  /-- another object, known whole -/
  | obj (o : Obj)

abbrev Hp := Nat → Option Blk

def upd (h : Hp) (b : Nat) (k : Blk) : Hp := fun x => if x = b then some k else h x

theorem upd_same (h : Hp) (b : Nat) (k : Blk) : upd h b k b = some k := by simp [upd]
theorem upd_ne (h : Hp) {b c : Nat} (k : Blk) (hc : c ≠ b) : upd h b k c = h c := by simp [upd, hc]
theorem upd_upd (h : Hp) (b : Nat) (k k' : Blk) : upd (upd h b k) b k' = upd h b k' := by
  funext x; unfold upd; by_cases e : x = b <;> simp [e]
theorem upd_comm (h : Hp) {b c : Nat} (hbc : b ≠ c) (k k' : Blk) : upd (upd h b k) c k' = upd (upd h c k') b k := by
  funext x; unfold upd
  by_cases e : x = b
  · subst e; simp [hbc]
  · by_cases e' : x = c
    · subst e'; simp [e]
    · simp [e, e']
/-- A block that is new is another than one that is known. -/
theorem ne_of_fresh {h : Hp} {b c : Nat} {k : Blk} (hb : h b = none) (hc : h c = some k) : c ≠ b := fun e => by
  subst e; rw [hb] at hc; cases hc

/-- The object that stands in a block. -/
structure Holds (w : World) (b : Nat) (o : Obj) : Prop where
  out : w.heap[b]? = some o

def HasB (w : World) (b : Nat) : Blk → Prop
  | .own T xs n => ∃ c : Array Value, w.heap[b]? = some (.cells c T (0, 0)) ∧ c.size = n ∧ ∀ (i : Nat) (v : Value), xs[i]? = some v → c[i]? = some v
  | .ro f => b < w.heap.size ∧ ∀ i v, f i = some v → w.cell? ⟨b, i, none⟩ = some v
  | .obj o => Holds w b o

def Has (h : Hp) (w : World) : Prop := ∀ b k, h b = some k → HasB w b k

/-- From 'w' to 'w'': blocks that stood there and of which 'h' knows nothing are as they were, and 'h'' knows nothing of them. -/
structure Ext (h : Hp) (w : World) (h' : Hp) (w' : World) : Prop where
  size : w.heap.size ≤ w'.heap.size
  same : ∀ b, b < w.heap.size → h b = none → w'.heap[b]? = w.heap[b]? ∧ h' b = none
  tape : w'.tape = w.tape
  os : w'.os = w.os
  output : w'.output = w.output

theorem Ext.refl (h : Hp) (w : World) : Ext h w h w := ⟨Nat.le_refl _, fun _ _ hb => ⟨rfl, hb⟩, rfl, rfl, rfl⟩
theorem Ext.trans {h h1 h2 : Hp} {w w1 w2 : World} (a : Ext h w h1 w1) (b : Ext h1 w1 h2 w2) : Ext h w h2 w2 :=
  ⟨Nat.le_trans a.size b.size, fun c hc hn => by
    obtain ⟨e1, n1⟩ := a.same c hc hn
    obtain ⟨e2, n2⟩ := b.same c (Nat.lt_of_lt_of_le hc a.size) n1
    exact ⟨e2.trans e1, n2⟩, b.tape.trans a.tape, b.os.trans a.os, b.output.trans a.output⟩

/-- Knowing less. -/
def Le (h' h : Hp) : Prop := ∀ b k, h' b = some k → h b = some k
theorem Le.refl (h : Hp) : Le h h := fun _ _ e => e
theorem Le.upd {h : Hp} {b : Nat} (hb : h b = none) (k : Blk) : Le h (upd h b k) := fun c k' hc => by
  rw [upd_ne h k (ne_of_fresh hb hc)]; exact hc
theorem Le.trans {a b c : Hp} (x : Le a b) (y : Le b c) : Le a c := fun i k e => y i k (x i k e)
theorem Le.upd_both {h h' : Hp} (l : Le h' h) (b : Nat) (k : Blk) : Le (Abs.upd h' b k) (Abs.upd h b k) := fun c k' hc => by
  unfold Abs.upd at *
  by_cases e : c = b
  · simpa [e] using hc
  · simp only [e, if_false] at hc ⊢; exact l c k' hc
theorem Has.le {h h' : Hp} {w : World} (H : Has h w) (l : Le h' h) : Has h' w := fun b k hb => H b k (l b k hb)
theorem Ext.le {h h1 h2 : Hp} {w w1 : World} (e : Ext h w h1 w1) (l : Le h2 h1) : Ext h w h2 w1 :=
  ⟨e.size, fun b hb hn => ⟨(e.same b hb hn).1, by
    cases hc : h2 b with
    | none => rfl
    | some k => have := l b k hc; rw [(e.same b hb hn).2] at this; cases this⟩, e.tape, e.os, e.output⟩

theorem HasB.lt {w : World} {b : Nat} {k : Blk} (h : HasB w b k) : b < w.heap.size := by
  cases k with
  | own T xs n =>
    obtain ⟨c, h, _⟩ := h
    exact (Array.getElem?_eq_some_iff.1 h).1
  | ro f => exact h.1
  | obj o => exact (Array.getElem?_eq_some_iff.1 (Holds.out h)).1

theorem cell_congr {w w' : World} {b : Nat} (h : w'.heap[b]? = w.heap[b]?) (i : Nat) : w'.cell? ⟨b, i, none⟩ = w.cell? ⟨b, i, none⟩ := by
  simp [World.cell?, h]

theorem HasB.congr {w w' : World} {b : Nat} {k : Blk} (h : w'.heap[b]? = w.heap[b]?) (H : HasB w b k) : HasB w' b k := by
  cases k with
  | own T xs n =>
    obtain ⟨c, e, hs, hx⟩ := H
    exact ⟨c, h.trans e, hs, hx⟩
  | ro f =>
    obtain ⟨h1, h2⟩ := H
    refine ⟨?_, fun i v hv => by rw [cell_congr h]; exact h2 i v hv⟩
    have : w.heap[b]? = some w.heap[b] := Array.getElem?_eq_getElem h1
    exact (Array.getElem?_eq_some_iff.1 (h.trans this)).1
  | obj o => exact ⟨h.trans H.out⟩

/-- A new block. -/
theorem Has.alloc {h : Hp} {w : World} (H : Has h w) (o : Obj) (k : Blk) (hk : HasB (w.alloc o) w.heap.size k) :
    h w.heap.size = none ∧ Has (upd h w.heap.size k) (w.alloc o) ∧ Ext h w (upd h w.heap.size k) (w.alloc o) := by
  have hn : h w.heap.size = none := by
    cases e : h w.heap.size with
    | none => rfl
    | some k => exact absurd (H _ _ e).lt (Nat.lt_irrefl _)
  have old : ∀ (b : Nat), b < w.heap.size → (w.alloc o).heap[b]? = w.heap[b]? := fun b hb => by
    show (w.heap.push o)[b]? = w.heap[b]?
    rw [Array.getElem?_push, if_neg (Nat.ne_of_lt hb)]
  refine ⟨hn, fun b k' hb => ?_, ?_, fun b hb hnb => ⟨old b hb, ?_⟩, rfl, rfl, rfl⟩
  · unfold upd at hb
    by_cases e : b = w.heap.size
    · subst e; simp only [if_true, Option.some.injEq] at hb; subst hb; exact hk
    · simp only [e, if_false] at hb
      exact (H b k' hb).congr (old b (H b k' hb).lt)
  · simp
  · unfold upd
    rw [if_neg (Nat.ne_of_lt hb)]; exact hnb

/-- A change of one block that is known. -/
theorem Has.change {h : Hp} {w w' : World} (H : Has h w) {b : Nat} {k : Blk} (hb : h b = some k) (k' : Blk) (hk : HasB w' b k')
    (hs : w'.heap.size = w.heap.size) (ho : ∀ c, c ≠ b → w'.heap[c]? = w.heap[c]?) (ht : w'.tape = w.tape) (hos : w'.os = w.os) (hout : w'.output = w.output) :
    Has (upd h b k') w' ∧ Ext h w (upd h b k') w' := by
  refine ⟨fun c k2 hc => ?_, by omega, fun c hc hnc => ?_, ht, hos, hout⟩
  · unfold upd at hc
    by_cases e : c = b
    · subst e; simp only [if_true, Option.some.injEq] at hc; subst hc; exact hk
    · simp only [e, if_false] at hc
      exact (H c k2 hc).congr (ho c e)
  · have e : c ≠ b := fun e => by subst e; rw [hb] at hnc; cases hnc
    exact ⟨ho c e, by unfold upd; rw [if_neg e]; exact hnc⟩

/-- Reading. -/
def rd (h : Hp) (b i : Nat) : Option Value :=
  match h b with
  | some (.own _ xs _) => xs[i]?
  | some (.ro f) => f i
  | some (.obj (.cells c _ _)) => c[i]?
  | _ => none

theorem Has.rd {h : Hp} {w : World} (H : Has h w) {b i : Nat} {v : Value} (hr : rd h b i = some v) : w.cell? ⟨b, i, none⟩ = some v := by
  unfold Abs.rd at hr
  cases e : h b with
  | none => simp [e] at hr
  | some k =>
    have hk := H b k e
    cases k with
    | own T xs n =>
      simp only [e] at hr
      obtain ⟨c, e1, _, hx⟩ := hk
      simp [World.cell?, e1, hx i v hr]
    | ro f =>
      simp only [e] at hr
      exact hk.2 i v hr
    | obj o =>
      simp only [e] at hr
      have hk : w.heap[b]? = some o := Holds.out hk
      cases o with
      | cells c T z =>
        simp only at hr
        simp [World.cell?, hk, hr]
      | _ => cases hr

/-! ## Calls -/
/-- The call of 'f' from where 'h' is known returns, and behind it K holds of its result and of what is known. -/
def CC (P : Program) (f : FuncId) (args : Array Value) (h : Hp) (K : Value → Hp → Prop) : Prop :=
  ∀ w, Has h w → Calls P f args w fun e w' => ∃ v h', e = .returned v ∧ Has h' w' ∧ Ext h w h' w' ∧ K v h'

/-- It returns 'v', and what is known stays. -/
def QC (P : Program) (f : FuncId) (args : Array Value) (h : Hp) (v : Value) : Prop := CC P f args h fun v' h' => v' = v ∧ h' = h

theorem CC.mono {P : Program} {f : FuncId} {args : Array Value} {h : Hp} {K K' : Value → Hp → Prop} (c : CC P f args h K) (hk : ∀ v h', K v h' → K' v h') : CC P f args h K' :=
  fun w H => (c w H).mono fun _ _ ⟨v, h', e, a, b, k⟩ => ⟨v, h', e, a, b, hk v h' k⟩

theorem QC.cc {P : Program} {f : FuncId} {args : Array Value} {h : Hp} {v : Value} {K : Value → Hp → Prop} (c : QC P f args h v) (hk : K v h) : CC P f args h K :=
  CC.mono c fun _ _ ⟨e1, e2⟩ => by subst e1; subst e2; exact hk

/-- What is known behind a call may be made less. -/
theorem CC.drop {P : Program} {f : FuncId} {args : Array Value} {h : Hp} {K K' : Value → Hp → Prop} (c : CC P f args h K)
    (hk : ∀ v h', K v h' → ∃ h2, Le h2 h' ∧ K' v h2) : CC P f args h K' :=
  fun w H => (c w H).mono fun _ _ ⟨v, h', e, a, b, k⟩ => by
    obtain ⟨h2, l, k'⟩ := hk v h' k
    exact ⟨v, h2, e, a.le l, b.le l, k'⟩

/-! ## Code -/
/-- What holds of the machine's state: slots, blocks. -/
def St (n : Nat) (D : List Deferred) (s : Sl) (h : Hp) (h0 : Hp) (w0 : World) (a : Act) (w : World) : Prop :=
  Kn n s a ∧ a.defers = D ∧ Has h w ∧ Ext h0 w0 h w

def wpA (P : Program) (n : Nat) (D : List Deferred) (c : Code) (s : Sl) (h : Hp) (Q : Exit → Sl → Hp → Prop) : Prop :=
  ∀ h0 w0 a w, St n D s h h0 w0 a w → c.wp P (fun e a' w' => ∃ s' h', Q e s' h' ∧ St n D s' h' h0 w0 a' w') a w

section
variable {P : Program} {n : Nat} {D : List Deferred} {s : Sl} {h : Hp} {Q : Exit → Sl → Hp → Prop}

theorem wpA_mono {c : Code} {Q' : Exit → Sl → Hp → Prop} (x : wpA P n D c s h Q) (hq : ∀ e s h, Q e s h → Q' e s h) : wpA P n D c s h Q' :=
  fun h0 w0 a w st => Code.wp_mono (fun _ _ _ ⟨s', h', q, st'⟩ => ⟨s', h', hq _ _ _ q, st'⟩) (x h0 w0 a w st)

/-- Going on with less. -/
theorem wpA_weaken {c : Code} {s' : Sl} {h' : Hp} (hs : ∀ t v, lk s' t = some v → lk s t = some v) (hl : Le h' h) (x : wpA P n D c s' h' Q) : wpA P n D c s h Q :=
  fun h0 w0 a w ⟨kn, d, H, e⟩ => x h0 w0 a w ⟨kn.sub hs, d, H.le hl, e.le hl⟩

/-- The way on behind a normal end. -/
def thenA (next : Sl → Hp → Prop) (Q : Exit → Sl → Hp → Prop) : Exit → Sl → Hp → Prop
  | .normal, s, h => next s h
  | e, s, h => Q e s h

theorem wpA_seq {x y : Code} (hx : wpA P n D x s h (thenA (fun s h => wpA P n D y s h Q) Q)) : wpA P n D (.seq x y) s h Q := by
  intro h0 w0 a w st
  refine wp_seq (Code.wp_mono ?_ (hx h0 w0 a w st))
  rintro e a' w' ⟨s', h', q, st'⟩
  cases e with
  | normal => exact q h0 w0 a' w' st'
  | _ => exact ⟨s', h', q, st'⟩

theorem wpA_skip (q : Q .normal s h) : wpA P n D .skip s h Q := fun _ _ _ _ st => wp_skip ⟨s, h, q, st⟩
theorem wpA_ret (q : Q .ret s h) : wpA P n D .ret s h Q := fun _ _ _ _ st => wp_ret ⟨s, h, q, st⟩
theorem wpA_exit {id : Nat} (q : Q (.exit id) s h) : wpA P n D (.exit id) s h Q := fun _ _ _ _ st => wp_exit ⟨s, h, q, st⟩
theorem wpA_cond {c : Operand} {x y : Code} {b : Bool} (hc : ev s c = some (.bool b)) (ht : b = true → wpA P n D x s h Q) (hf : b = false → wpA P n D y s h Q) : wpA P n D (.cond c x y) s h Q :=
  fun h0 w0 a w st => wp_cond_split (st.1.eval hc) (fun e => ht e h0 w0 a w st) (fun e => hf e h0 w0 a w st)

def blockA (id : Nat) (Q : Exit → Sl → Hp → Prop) : Exit → Sl → Hp → Prop
  | .exit id', s, h => if id' = id then Q .normal s h else Q (.exit id') s h
  | e, s, h => Q e s h

theorem wpA_block {id : Nat} {c : Code} (x : wpA P n D c s h (blockA id Q)) : wpA P n D (.block id c) s h Q := by
  intro h0 w0 a w st
  refine wp_block (Code.wp_mono ?_ (x h0 w0 a w st))
  rintro e a' w' ⟨s', h', q, st'⟩
  cases e with
  | exit id' =>
    simp only [blockA] at q
    simp only [Exit.inBlock]
    split
    · rename_i e; rw [if_pos e] at q; exact ⟨s', h', q, st'⟩
    · rename_i e; rw [if_neg e] at q; exact ⟨s', h', q, st'⟩
  | _ => exact ⟨s', h', q, st'⟩

/-- A loop whose rounds lower a number that the state need not show. -/
theorem wp_loop_rank {c : Code} {Q : Exit → Act → World → Prop} (J : Nat → Act → World → Prop) {m : Nat} {a : Act} {w : World} (h₀ : J m a w)
    (round : ∀ k a w, J k a w → c.wp P (Exit.then (fun a' w' => ∃ k', k' < k ∧ J k' a' w') Q) a w) : (Code.loop c).wp P Q a w := by
  intro b k cs
  have key : ∀ n a w, J n a w →
      ∃ e a' w', Q e a' w' ∧ Arrives P (lone (b.at a (.code c :: .inLoop c :: k)) cs w) b k cs e a' w' := by
    intro n
    induction n using Nat.strongRecOn with
    | _ n ih =>
      intro a w hI
      obtain ⟨e, a₁, w₁, hq, harr⟩ := round n a w hI b (.inLoop c :: k) cs
      cases e with
      | normal =>
        obtain ⟨k', hlt, hI₁⟩ := hq
        obtain ⟨e₂, a₂, w₂, hq₂, harr₂⟩ := ih k' hlt a₁ w₁ hI₁
        exact ⟨e₂, a₂, w₂, hq₂, .of_steps (Steps.trans harr (.one step_inLoop)) harr₂⟩
      | exit id => exact ⟨_, a₁, w₁, hq, .pass (x := .inLoop c) rfl (fun _ _ => .inl (by simp)) harr⟩
      | goto l => exact ⟨_, a₁, w₁, hq, .pass (x := .inLoop c) rfl (fun _ _ => .inl (by simp)) harr⟩
      | ret => exact ⟨_, a₁, w₁, hq, .pass (x := .inLoop c) rfl (fun _ _ => .inl (by simp)) harr⟩
      | panic ch => exact ⟨_, a₁, w₁, hq, .pass (x := .inLoop c) rfl (fun _ _ => .inl (by simp)) harr⟩
      | outgrown => exact ⟨_, a₁, w₁, hq, .pass (x := .inLoop c) rfl (fun _ _ => .inl (by simp)) harr⟩
  obtain ⟨e, a', w', hq, harr⟩ := key _ a w h₀
  exact ⟨e, a', w', hq, .of_steps (.one step_loop) harr⟩

/-- A loop: 'I' holds at each head, with a number that goes down. -/
theorem wpA_loop {c : Code} (I : Nat → Sl → Hp → Prop) {m : Nat} (hi : I m s h)
    (round : ∀ k s h, I k s h → wpA P n D c s h (thenA (fun s' h' => ∃ k', k' < k ∧ I k' s' h') Q)) : wpA P n D (.loop c) s h Q := by
  intro h0 w0 a w st
  refine wp_loop_rank (fun k a w => ∃ s h, I k s h ∧ St n D s h h0 w0 a w) (m := m) ⟨s, h, hi, st⟩ ?_
  rintro k a w ⟨s, h, i, st⟩
  refine Code.wp_mono ?_ (round k s h i h0 w0 a w st)
  rintro e a' w' ⟨s', h', q, st'⟩
  cases e with
  | normal =>
    obtain ⟨k', hk, i'⟩ := q
    exact ⟨k', hk, s', h', i', st'⟩
  | _ => exact ⟨s', h', q, st'⟩
end

/-! ## Operations -/
/-- Operation 'o' yields 'v' wherever these slots and blocks are known, and does nothing else. -/
def QO (P : Program) (n : Nat) (o : Oper) (s : Sl) (h : Hp) (v : Value) : Prop :=
  ∀ a w, Kn n s a → Has h w → (execOp a.eval o).run P w = .ok (.value v) w

/-- Operation 'o' enters 'f' with these arguments. -/
def EO (P : Program) (n : Nat) (o : Oper) (s : Sl) (h : Hp) (f : FuncId) (args : Array Value) : Prop :=
  ∀ a w, Kn n s a → Has h w → (execOp a.eval o).run P w = .ok (.enter f args) w

/-- Operation 'o' makes or writes memory; behind it K holds of the slots and of what is known. -/
def LO (P : Program) (n : Nat) (_D : List Deferred) (o : Oper) (s : Sl) (h : Hp) (K : Sl → Hp → Prop) (_Q : Exit → Sl → Hp → Prop) : Prop :=
  (o.dst.all fun d => Nat.ble (d + 1) n) = true ∧
  ∀ a w, Kn n s a → Has h w → ∃ u w' h', ((execOp a.eval o).run P w = .ok (.value u) w' ∨ ((execOp a.eval o).run P w = .ok .skip w' ∧ u = undef)) ∧
    Has h' w' ∧ Ext h w h' w' ∧ K (match o.dst with | some d => (d, u) :: s | none => s) h'

/-- Is the guard of 'o' met? 'none': not known. -/
def wants (ops : List Oper) (s : Sl) (o : Oper) : Option Bool :=
  match o.guard with
  | none => some true
  | some (j, want) =>
    match ((ops[j]?).bind (·.dst)).bind (lk s) with
    | some (.bool b) => some (b == want)
    | some _ => some false
    | none => none

theorem wants_wanted {n : Nat} {s : Sl} {ops : List Oper} {o : Oper} {a : Act} {b : Bool} (kn : Kn n s a) (h : wants ops s o = some b) : Region.wanted o (yielded ops.toArray a.tmps) = b := by
  unfold wants at h
  unfold Region.wanted
  cases hg : o.guard with
  | none => simp [hg] at h; simp [h]
  | some jw =>
    obtain ⟨j, want⟩ := jw
    simp only [hg] at h ⊢
    unfold yielded
    simp only [List.getElem?_toArray]
    cases ht : (ops[j]?).bind (·.dst) with
    | none => simp [ht] at h
    | some t =>
      simp only [ht, Option.bind_some] at h ⊢
      cases hv : lk s t with
      | none => simp [hv] at h
      | some v =>
        rw [kn.known t v hv]
        cases v <;> simp [hv] at h <;> simp [← h]

def setS (s : Sl) (d : Option Nat) (v : Value) : Sl := match d with | some d => (d, v) :: s | none => s

theorem Kn.setS {n : Nat} {s : Sl} {a : Act} (kn : Kn n s a) {d : Option Nat} (hd : (d.all fun d => Nat.ble (d + 1) n) = true) (v : Value) : Kn n (setS s d v) (a.put d v) := by
  cases d with
  | none => exact kn
  | some d => exact kn.put hd v

theorem put_defers (a : Act) (d : Option Nat) (v : Value) : (a.put d v).defers = a.defers := by cases d <;> rfl

/-- The operations 'l' of a region 'ops', one after the other. -/
def Ops (P : Program) (n : Nat) (D : List Deferred) (ops : List Oper) (Q : Exit → Sl → Hp → Prop) (l : List Oper) (s : Sl) (h : Hp) : Prop :=
  ∀ h0 w0 a w, St n D s h h0 w0 a w → wpList P ops.toArray (fun e a' w' => ∃ s' h', Q e s' h' ∧ St n D s' h' h0 w0 a' w') l a w

section
variable {P : Program} {n : Nat} {D : List Deferred} {ops : List Oper} {Q : Exit → Sl → Hp → Prop} {s : Sl} {h : Hp} {o : Oper} {rest : List Oper}

theorem wpA_region {id : Nat} (x : Ops P n D ops Q ops s h) : wpA P n D (.region id ops.toArray false) s h Q :=
  fun h0 w0 a w st => wp_region_lit (x h0 w0 a w st)

theorem Ops_nil (k : Q .normal s h) : Ops P n D ops Q [] s h := fun _ _ _ _ st => wpList_nil ⟨s, h, k, st⟩

theorem Ops_quiet (v : Value) (g : wants ops s o = some true) (d : (o.dst.all fun d => Nat.ble (d + 1) n) = true) (q : QO P n o s h v) (r : Ops P n D ops Q rest (setS s o.dst v) h) :
    Ops P n D ops Q (o :: rest) s h := by
  intro h0 w0 a w st
  obtain ⟨kn, hd, H, e⟩ := st
  refine wpList_step fun K hK => ?_
  rw [if_pos (wants_wanted kn g)]
  unfold Oper.wp
  rw [q a w kn H]
  exact hK _ _ (r h0 w0 _ _ ⟨kn.setS d v, by rw [put_defers]; exact hd, H, e⟩)

theorem Ops_skip (g : wants ops s o = some false) (d : (o.dst.all fun d => Nat.ble (d + 1) n) = true) (r : Ops P n D ops Q rest (setS s o.dst undef) h) :
    Ops P n D ops Q (o :: rest) s h := by
  intro h0 w0 a w st
  obtain ⟨kn, hd, H, e⟩ := st
  refine wpList_step fun K hK => ?_
  rw [if_neg (by rw [wants_wanted kn g]; simp)]
  exact hK _ _ (r h0 w0 _ _ ⟨kn.setS d undef, by rw [put_defers]; exact hd, H, e⟩)

theorem Ops_call (f : FuncId) (args : Array Value) (g : wants ops s o = some true) (d : (o.dst.all fun d => Nat.ble (d + 1) n) = true) (q : EO P n o s h f args)
    (c : CC P f args h fun v h' => Ops P n D ops Q rest (setS s o.dst v) h') : Ops P n D ops Q (o :: rest) s h := by
  intro h0 w0 a w st
  obtain ⟨kn, hd, H, e⟩ := st
  refine wpList_step fun K hK => ?_
  rw [if_pos (wants_wanted kn g)]
  unfold Oper.wp
  rw [q a w kn H]
  refine (c w H).mono fun e1 w' ⟨v, h', he, H', e', k⟩ => ?_
  subst he
  exact hK _ _ (k h0 w0 _ _ ⟨kn.setS d v, by rw [put_defers]; exact hd, H', e.trans e'⟩)

theorem Ops_loud (g : wants ops s o = some true) (l : LO P n D o s h (fun s' h' => Ops P n D ops Q rest s' h') Q) : Ops P n D ops Q (o :: rest) s h := by
  rintro h0 w0 a w ⟨kn, hd, H, E⟩
  obtain ⟨d, l⟩ := l
  obtain ⟨u, w', h', hr, H', E', k⟩ := l a w kn H
  refine wpList_step fun K hK => ?_
  rw [if_pos (wants_wanted kn g)]
  unfold Oper.wp
  have st : St n D (match o.dst with | some d => (d, u) :: s | none => s) h' h0 w0 (a.put o.dst u) w' := ⟨kn.setS d u, by rw [put_defers]; exact hd, H', E.trans E'⟩
  rcases hr with hr | ⟨hr, rfl⟩
  · rw [hr]
    exact hK _ _ (k h0 w0 _ _ st)
  · rw [hr]
    exact hK _ _ (k h0 w0 _ _ st)
end

/-! ### Regions that draw their order, whose operations all leave alone what is known -/
inductive QOps (P : Program) (n : Nat) (ops : List Oper) (h : Hp) (K : Sl → Prop) : List Oper → Sl → Prop where
  | nil {s} (k : K s) : QOps P n ops h K [] s
  | quiet {o rest s} (v : Value) (g : wants ops s o = some true) (d : (o.dst.all fun d => Nat.ble (d + 1) n) = true) (q : QO P n o s h v) (r : QOps P n ops h K rest (setS s o.dst v)) : QOps P n ops h K (o :: rest) s
  | skip {o rest s} (g : wants ops s o = some false) (d : (o.dst.all fun d => Nat.ble (d + 1) n) = true) (r : QOps P n ops h K rest (setS s o.dst undef)) : QOps P n ops h K (o :: rest) s
  | call {o rest s} (f : FuncId) (args : Array Value) (v : Value) (g : wants ops s o = some true) (d : (o.dst.all fun d => Nat.ble (d + 1) n) = true) (q : EO P n o s h f args)
      (c : QC P f args h v) (r : QOps P n ops h K rest (setS s o.dst v)) : QOps P n ops h K (o :: rest) s
  | split {rest s b} (t : Nat) (e : lk s t = some (.bool b)) (ht : b = true → QOps P n ops h K rest ((t, .bool true) :: s)) (hf : b = false → QOps P n ops h K rest ((t, .bool false) :: s)) : QOps P n ops h K rest s

theorem QOps.wpQuiet {P : Program} {n : Nat} {ops : List Oper} {h : Hp} {K : Sl → Prop} {l : List Oper} {s : Sl} (x : QOps P n ops h K l s) (h0 : Hp) (w0 : World) {D : List Deferred} {R : Act → Prop}
    (hR : ∀ a s', K s' → Kn n s' a → a.defers = D → R a) :
    ∀ a, Kn n s a → a.defers = D → wpQuiet P ops.toArray (fun w' => Has h w' ∧ Ext h0 w0 h w') R l a := by
  induction x with
  | nil k => exact fun a kn hd => wpQuiet_nil (hR a _ k kn hd)
  | quiet v g d q r ih =>
    intro a kn hd
    refine wpQuiet_step fun K' hK => ?_
    rw [if_pos (wants_wanted kn g)]
    refine ⟨v, fun w ⟨H, _⟩ => ?_, hK _ (ih _ (kn.setS d v) (by rw [put_defers]; exact hd))⟩
    unfold Oper.quietAt
    rw [q a w kn H]
    exact ⟨rfl, rfl⟩
  | skip g d r ih =>
    intro a kn hd
    refine wpQuiet_step fun K' hK => ?_
    rw [if_neg (by rw [wants_wanted kn g]; simp)]
    exact hK _ (ih _ (kn.setS d undef) (by rw [put_defers]; exact hd))
  | call f args v g d q c r ih =>
    intro a kn hd
    refine wpQuiet_step fun K' hK => ?_
    rw [if_pos (wants_wanted kn g)]
    refine ⟨v, fun w ⟨H, E⟩ => ?_, hK _ (ih _ (kn.setS d v) (by rw [put_defers]; exact hd))⟩
    unfold Oper.quietAt
    rw [q a w kn H]
    refine ⟨rfl, (c w H).mono fun e w' ⟨v', h', he, H', e', ev, eh⟩ => ?_⟩
    subst ev; subst eh
    exact ⟨he, H', E.trans e'⟩
  | split t e ht hf iht ihf =>
    rename_i b
    intro a kn hd
    have kn' : Kn n ((t, .bool b) :: _) a := kn.sub fun t' v hv => by
      rw [lk_cons] at hv
      by_cases ht' : t = t'
      · subst ht'; simp only [if_true, Option.some.injEq] at hv; rw [e, hv]
      · rw [if_neg ht'] at hv; exact hv
    cases b with
    | true => exact iht rfl a kn' hd
    | false => exact ihf rfl a kn' hd

theorem wpA_drawn {P : Program} {n : Nat} {D : List Deferred} {ops : List Oper} {Q : Exit → Sl → Hp → Prop} {s : Sl} {h : Hp} {id : Nat} (hm : P.follows .mixedOrders = true) (hB : Region.lexB .any ops.toArray = true)
    (x : QOps P n ops h (fun s' => Q .normal s' h) ops s) : wpA P n D (.region id ops.toArray true) s h Q := by
  rintro h0 w0 a w ⟨kn, hd, H, e⟩
  refine wp_region_quiet (C := fun w' => Has h w' ∧ Ext h0 w0 h w') hm hB ?_ ?_
  · exact ⟨fun b k hb => HasB.congr (w := w) (w' := { w with drawn := w.drawn + 1 }) rfl (H b k hb), ⟨e.size, e.same, e.tape, e.os, e.output⟩⟩
  · refine x.wpQuiet h0 w0 (D := D) (fun a' s' k kn' hd' => ?_) a kn hd
    rintro w' ⟨H', e'⟩
    exact ⟨s', h, k, kn', hd', H', e'⟩
end Go.Abs

/- The operations that only compute or read, one law each. -/
namespace Go.Abs
open Go

section
variable {P : Program} {n : Nat} {o : Oper} {s : Sl} {h : Hp}

theorem QO.move {x : Operand} {v : Value} (ho : o.op = .move x) (hx : ev s x = some v) : QO P n o s h v := fun a w kn H => by
  simp only [execOp, ho, kn.eval hx, Sem.run_pure]
theorem QO.assign {x : Operand} {v : Value} (ho : o.op = .assign x) (hx : ev s x = some v) : QO P n o s h v := fun a w kn H => by
  simp only [execOp, ho, kn.eval hx, Sem.run_pure]
theorem QO.pick {c x y : Operand} {b : Bool} {u v : Value} (ho : o.op = .pick c x y) (hc : ev s c = some (.bool b)) (hx : ev s x = some u) (hy : ev s y = some v) :
    QO P n o s h (if b then u else v) := fun a w kn H => by
  simp only [execOp, ho, kn.eval hc, kn.eval hx, kn.eval hy, asBool, Sem.run_bind, Sem.run_pure, Result.andThen_ok]
theorem QO.pick_t {c x y : Operand} {u : Value} (ho : o.op = .pick c x y) (hc : ev s c = some (.bool true)) (hx : ev s x = some u) :
    QO P n o s h u := fun a w kn H => by
  simp only [execOp, ho, kn.eval hc, kn.eval hx, asBool, Sem.run_bind, Sem.run_pure, Result.andThen_ok, if_true]
theorem QO.pick_f {c x y : Operand} {v : Value} (ho : o.op = .pick c x y) (hc : ev s c = some (.bool false)) (hy : ev s y = some v) :
    QO P n o s h v := fun a w kn H => by
  simp only [execOp, ho, kn.eval hc, kn.eval hy, asBool, Sem.run_bind, Sem.run_pure, Result.andThen_ok, if_false, Bool.false_eq_true]

/-- Arithmetic and comparisons of integers: one function. -/
def ibin (op : BinOp) (k : IntKind) (a b : Int) : Option Value :=
  match op with
  | .add => some (.int k (k.wrap (a + b)))
  | .sub => some (.int k (k.wrap (a - b)))
  | .mul => some (.int k (k.wrap (a * b)))
  | .and => some (.int k (bits .and k a b))
  | .or => some (.int k (bits .or k a b))
  | .xor => some (.int k (bits .xor k a b))
  | .andNot => some (.int k (bits .andNot k a b))
  | .eql => some (.bool (a == b))
  | .neq => some (.bool (a != b))
  | .lss => some (.bool (decide (a < b)))
  | .leq => some (.bool (decide (a ≤ b)))
  | .gtr => some (.bool (decide (a > b)))
  | .geq => some (.bool (decide (a ≥ b)))
  | _ => none

theorem QO.bin {op : BinOp} {t t' : TypeId} {x y : Operand} {k : IntKind} {a b : Int} {v : Value} (ho : o.op = .binOp op t x y t') (hx : ev s x = some (.int k a)) (hy : ev s y = some (.int k b))
    (hv : ibin op k a b = some v) : QO P n o s h v := fun ac w kn H => by
  simp only [execOp, ho, kn.eval hx, kn.eval hy]
  cases op <;> simp only [ibin, Option.some.injEq, reduceCtorEq] at hv <;> subst hv <;>
    simp [eqGuard_at_int, binOp, Op.intArith, Op.intCmp, intBits_and, intBits_or, intBits_xor, intBits_andNot]

theorem QO.quo {t t' : TypeId} {x y : Operand} {k : IntKind} {a b : Int} (ho : o.op = .binOp .quo t x y t') (hx : ev s x = some (.int k a)) (hy : ev s y = some (.int k b))
    (hb : b ≠ 0) : QO P n o s h (.int k (k.wrap (a.tdiv b))) := fun ac w kn H => by
  simp only [execOp, ho, kn.eval hx, kn.eval hy]
  simp [eqGuard_at_int, binOp, Op.intDiv, hb]
theorem QO.rem {t t' : TypeId} {x y : Operand} {k : IntKind} {a b : Int} (ho : o.op = .binOp .rem t x y t') (hx : ev s x = some (.int k a)) (hy : ev s y = some (.int k b))
    (hb : b ≠ 0) : QO P n o s h (.int k (a.tmod b)) := fun ac w kn H => by
  simp only [execOp, ho, kn.eval hx, kn.eval hy]
  simp [eqGuard_at_int, binOp, Op.intDiv, hb]
theorem QO.shl {t t' : TypeId} {x y : Operand} {k k' : IntKind} {a b : Int} (ho : o.op = .binOp .shl t x y t') (hx : ev s x = some (.int k a)) (hy : ev s y = some (.int k' b))
    (hb : 0 ≤ b) : QO P n o s h (.int k (k.wrap (a * 2 ^ (min b.toNat k.bits)))) := fun ac w kn H => by
  simp only [execOp, ho, kn.eval hx, kn.eval hy]
  have : ¬ b < 0 := by omega
  simp [eqGuard_at_int, binOp, Op.shift, this]
theorem QO.shr {t t' : TypeId} {x y : Operand} {k k' : IntKind} {a b : Int} (ho : o.op = .binOp .shr t x y t') (hx : ev s x = some (.int k a)) (hy : ev s y = some (.int k' b))
    (hb : 0 ≤ b) : QO P n o s h (.int k (a.fdiv (2 ^ (min b.toNat k.bits)))) := fun ac w kn H => by
  simp only [execOp, ho, kn.eval hx, kn.eval hy]
  have : ¬ b < 0 := by omega
  simp [eqGuard_at_int, binOp, Op.shift, this]

theorem QO.not {t : TypeId} {x : Operand} {b : Bool} (ho : o.op = .unOp .not t x) (hx : ev s x = some (.bool b)) : QO P n o s h (.bool !b) := fun a w kn H => by
  simp only [execOp, ho, kn.eval hx]
  simp [Op.unary]
/-- Equality of strings, of bools. -/
theorem QO.str_eq {t t' : TypeId} {x y : Operand} {a b : ByteArray} (ho : o.op = .binOp .eql t x y t') (hx : ev s x = some (.string a)) (hy : ev s y = some (.string b)) :
    QO P n o s h (.bool (a == b)) := fun ac w kn H => by
  simp only [execOp, ho, kn.eval hx, kn.eval hy]
  simp [eqGuard_at_string, binOp, Op.stringOp, beq_toListBytes]
/-- What is asked of types: their shape, and how many cells they take. -/
def Sz (P : Program) (t : TypeId) (d : TypeDesc) (z : Nat) : Prop := P.underlying t = some d ∧ (P.info? t).map (·.size) = some z

theorem Sz.sizeOf {t : TypeId} {d : TypeDesc} {z : Nat} (e : Sz P t d z) (w : World) : (sizeOf t).run P w = .ok z w := by
  obtain ⟨_, h2⟩ := e
  cases hq : P.info? t with
  | none => simp [hq] at h2
  | some i => simp [hq] at h2; simp [Go.sizeOf, typeInfo, hq, h2]
theorem Sz.isAgg {t : TypeId} {d : TypeDesc} {z : Nat} (e : Sz P t d z) (w : World) : (isAgg t).run P w = .ok (match d with | .struct _ | .array _ _ => true | _ => false) w := by
  unfold Go.isAgg
  rw [Sem.run_bind, run_underlying e.1 w]
  cases d <;> simp

theorem QO.conv {t t' : TypeId} {x : Operand} {k k' : IntKind} {a : Int} {d : TypeDesc} {z z' : Nat} (ho : o.op = .convert t t' x) (ht : Sz P t d z) (ht' : Sz P t' (.int k') z') (hx : ev s x = some (.int k a)) :
    QO P n o s h (.int k' (k'.wrap a)) := fun ac w kn H => by
  simp only [execOp, ho, kn.eval hx]
  simp [convert, run_underlying ht.1, run_underlying ht'.1, Conv.intToInt]

/-- Addresses. -/
theorem QO.fieldAddr {t : TypeId} {x : Operand} {i b off z zf : Nat} {fs : Array Field} {f : Field} {d : TypeDesc} (ho : o.op = .fieldAddr t x i) (ht : Sz P t (.struct fs) z) (hf : fs[i]? = some f) (hz : Sz P f.type d zf) (hzf : Nat.beq zf 0 = false)
    (hx : ev s x = some (.pointer (some ⟨b, off, none⟩))) : QO P n o s h (.pointer (some ⟨b, off + f.offset, none⟩)) := fun ac w kn H => by
  simp only [execOp, ho, kn.eval hx]
  have hz0 : zf ≠ 0 := fun e => by subst e; cases hzf
  simp [Instr.fieldAt, run_underlying ht.1, hf, Instr.sureAddr, fieldPlace, hz.sizeOf, hz0, Addr.add_mid]

theorem QO.idxArr {t e : TypeId} {x i : Operand} {b off z ze len : Nat} {k : IntKind} {j : Int} {d : TypeDesc} (ho : o.op = .indexAddr t x i) (ht : Sz P t (.array len e) z) (he : Sz P e d ze)
    (hx : ev s x = some (.pointer (some ⟨b, off, none⟩))) (hi : ev s i = some (.int k j)) (h0 : 0 ≤ j) (h1 : j < len) : QO P n o s h (.pointer (some ⟨b, off + j.toNat * ze, none⟩)) := fun ac w kn H => by
  simp only [execOp, ho, kn.eval hx, kn.eval hi]
  simp [Instr.indexAt, run_underlying ht.1, asIntOf, Instr.sureAddr, he.sizeOf, h0, h1, Addr.add_mid]

theorem QO.idxSl {t e : TypeId} {x i : Operand} {b off z ze len cap : Nat} {k : IntKind} {j : Int} {d : TypeDesc} (ho : o.op = .indexAddr t x i) (ht : Sz P t (.slice e) z) (he : Sz P e d ze)
    (hx : ev s x = some (.slice (some ⟨b, off, none⟩) len cap)) (hi : ev s i = some (.int k j)) (h0 : 0 ≤ j) (h1 : j < len) : QO P n o s h (.pointer (some ⟨b, off + j.toNat * ze, none⟩)) := fun ac w kn H => by
  simp only [execOp, ho, kn.eval hx, kn.eval hi]
  simp [Instr.indexAt, run_underlying ht.1, asIntOf, he.sizeOf, h0, h1, Addr.add_mid]

theorem QO.nilCheck {x : Operand} {a : Addr} (ho : o.op = .nilCheck x) (hx : ev s x = some (.pointer (some a))) : QO P n o s h (.pointer (some a)) := fun ac w kn H => by
  simp only [execOp, ho, kn.eval hx]
  simp

/-- Loads. -/
theorem QO.load {t : TypeId} {x : Operand} {b off : Nat} {v : Value} {d : TypeDesc} {z : Nat} (ho : o.op = .load t x) (ht : Sz P t d z) (hd : d.isRow = false) (hx : ev s x = some (.pointer (some ⟨b, off, none⟩)))
    (hr : rd h b off = some v) : QO P n o s h v := fun ac w kn H => by
  simp only [execOp, ho, kn.eval hx]
  have h1 : (Go.isAgg t).run P w = .ok false w := by
    rw [ht.isAgg]; cases d <;> first | rfl | simp [TypeDesc.isRow] at hd
  simp [Instr.loadAt, Instr.sureAddr, loadVar, h1, H.rd hr]

theorem QO.loadRow {t : TypeId} {x : Operand} {b off : Nat} {cs : List Value} {d : TypeDesc} {z : Nat} (ho : o.op = .load t x) (ht : Sz P t d z) (hd : d.isRow = true) (hx : ev s x = some (.pointer (some ⟨b, off, none⟩)))
    (hl : cs.length = z) (hr : ∀ i v, cs[i]? = some v → rd h b (off + i) = some v) : QO P n o s h (.agg cs.toArray) := fun ac w kn H => by
  simp only [execOp, ho, kn.eval hx]
  have := run_loadAt_mid (P := P) w b off t cs d (fun j v hj => H.rd (hr j v hj)) ht.1 hd (by rw [ht.2, hl])
  simp [this]

/-- Parts of tuples, of values. -/
theorem QO.extract {x : Operand} {i : Nat} {vs : Array Value} {v : Value} (ho : o.op = .extract x i) (hx : ev s x = some (.tuple vs)) (hv : vs[i]? = some v) : QO P n o s h v := fun ac w kn H => by
  simp only [execOp, ho, kn.eval hx]
  simp [Instr.extract, hv]
theorem QO.makeFunc {fn : Fn} (ho : o.op = .makeFunc fn #[] #[]) : QO P n o s h (.func fn #[] #[]) := fun ac w kn H => by
  simp only [execOp, ho]
  simp [Instr.makeFunc]

/-- Lengths. -/
theorem QO.lenSl {x : Operand} {t e : TypeId} {c : Option Addr} {len cap z : Nat} (ho : o.op = .call ⟨.builtin .len, #[x], #[t]⟩) (ht : Sz P t (.slice e) z) (hx : ev s x = some (.slice c len cap)) : QO P n o s h (.int .i64 len) := fun ac w kn H => by
  simp only [execOp, ho]
  simp [resolve, kn.eval hx, invoke, builtin, Builtin.len_, run_underlying ht.1, goInt]
theorem QO.lenStr {x : Operand} {t : TypeId} {c : ByteArray} {z : Nat} (ho : o.op = .call ⟨.builtin .len, #[x], #[t]⟩) (ht : Sz P t .string z) (hx : ev s x = some (.string c)) : QO P n o s h (.int .i64 c.size) := fun ac w kn H => by
  simp only [execOp, ho]
  simp [resolve, kn.eval hx, invoke, builtin, Builtin.len_, run_underlying ht.1, goInt]
theorem QO.idxStr {t : TypeId} {x i : Operand} {c : ByteArray} {k : IntKind} {j : Int} {z : Nat} {u : UInt8} (ho : o.op = .index t x i) (ht : Sz P t .string z) (hx : ev s x = some (.string c)) (hi : ev s i = some (.int k j))
    (h0 : 0 ≤ j) (h1 : c[j.toNat]? = some u) : QO P n o s h (.int .u8 u.toNat) := fun ac w kn H => by
  simp only [execOp, ho, kn.eval hx, kn.eval hi]
  simp [Instr.index, run_underlying ht.1, asIntOf, h0, h1]

/-- A call of a function of the program. -/
theorem EO.func {f : FuncId} {fn : Func} {args : Array Operand} {ts : Array TypeId} {vs : Array Value} (ho : o.op = .call ⟨.value (.func f), args, ts⟩) (hf : P.funcs[f]? = some fn) {c : Code} (hb : fn.body = some c) (hn : (fn.name == "runtime.NumGoroutine") = false)
    (ha : args.map (ev s) = vs.map some) : EO P n o s h f vs := fun a w kn H => by
  have hargs : args.map a.eval = vs := by
    apply Array.ext
    · have := congrArg Array.size ha; simpa using this
    · intro i h1 h2
      have h3 : (args.map (ev s))[i]? = (vs.map some)[i]? := by rw [ha]
      simp only [Array.getElem?_map] at h3
      have h1' : i < args.size := by simpa using h1
      rw [Array.getElem?_eq_getElem h1', Array.getElem?_eq_getElem h2] at h3
      simp only [Option.map_some, Option.some.injEq] at h3
      simp only [Array.getElem_map]
      exact kn.eval h3
  simp only [execOp, ho]
  have hn' : fn.name ≠ "runtime.NumGoroutine" := by simpa using hn
  simp [resolve, hargs, Deferred.ofValue, Act.eval, invoke, callFunc, hf, hb, hn']
end
end Go.Abs

/- The operations that make or write memory, one law each. -/
namespace Go.Abs
open Go

theorem rd_own {h : Hp} {b : Nat} {T : TypeId} {xs : List Value} {n : Nat} (e : h b = some (.own T xs n)) (i : Nat) : rd h b i = xs[i]? := by simp [rd, e]
/-- A change of what is known: 'upd', of a block that is there. -/
def chg (h : Hp) (b : Nat) (k : Blk) : Hp := upd h b k
theorem chg_same (h : Hp) (b : Nat) (k k' : Blk) : chg (upd h b k) b k' = upd h b k' := upd_upd h b k k'
theorem chg_ne (h : Hp) {b c : Nat} (hc : b ≠ c) (k k' : Blk) : chg (upd h b k) c k' = upd (chg h c k') b k := upd_comm h hc k k'
theorem upd_none {h : Hp} {b c : Nat} {k : Blk} : upd h b k c = none ↔ c ≠ b ∧ h c = none := by
  unfold upd
  by_cases e : c = b <;> simp [e]
/-- A piece put over a row. -/
def splice (xs : List Value) (off : Nat) (ys : List Value) : List Value := xs.take off ++ ys ++ xs.drop (off + ys.length)

theorem splice_get {xs ys : List Value} {off : Nat} (hl : off + ys.length ≤ xs.length) (i : Nat) : (splice xs off ys)[i]? = if off ≤ i ∧ i < off + ys.length then ys[i - off]? else xs[i]? := by
  unfold splice
  have ht : (xs.take off).length = off := by simp; omega
  by_cases h1 : i < off
  · rw [if_neg (by omega), List.append_assoc, List.getElem?_append_left (by omega), List.getElem?_take, if_pos h1]
  · by_cases h2 : i < off + ys.length
    · rw [if_pos (by omega), List.append_assoc, List.getElem?_append_right (by omega), ht, List.getElem?_append_left (by omega)]
    · rw [if_neg (by omega), List.getElem?_append_right (by simp; omega)]
      simp only [List.length_append, ht, List.getElem?_drop]
      congr 1; omega

theorem splice_cons {xs ys : List Value} {off : Nat} {y : Value} (hl : off + (ys.length + 1) ≤ xs.length) : splice (xs.set off y) (off + 1) ys = splice xs off (y :: ys) := by
  apply List.ext_getElem?
  intro i
  rw [splice_get (by simp; omega), splice_get (by simp; omega)]
  simp only [List.length_cons]
  by_cases h0 : i = off
  · subst h0
    rw [if_neg (by omega), if_pos (by omega), List.getElem?_set]
    simp; omega
  · by_cases h1 : off < i ∧ i < off + (ys.length + 1)
    · rw [if_pos (by omega), if_pos (by omega), show i - off = (i - (off + 1)) + 1 by omega, List.getElem?_cons_succ]
    · rw [if_neg (by omega), if_neg (by omega), List.getElem?_set, if_neg (fun e => h0 e.symm)]

theorem foldl_set_splice (off : Nat) : ∀ (l : List Value) (k : Nat) (cells : Array Value), off + k + l.length ≤ cells.size →
    (l.zipIdx k).foldl (fun cs (x : Value × Nat) => cs.setIfInBounds (off + x.2) x.1) cells = (splice cells.toList (off + k) l).toArray
  | [], k, cells, _ => by simp [splice]
  | v :: l, k, cells, hl => by
    simp only [List.length_cons] at hl
    simp only [List.zipIdx_cons, List.foldl_cons]
    rw [foldl_set_splice off l (k + 1) _ (by simp; omega)]
    rw [Array.toList_setIfInBounds, ← splice_cons (by simp; omega)]
    rw [Nat.add_assoc]

/-- The parts of a row, one behind the other. -/
def fillL (cells : List Value) (place : Nat → Option (Nat × Nat)) : List (Nat × List Value) → Option (List Value)
  | [] => some cells
  | (i, v) :: rest =>
    match place i with
    | none => none
    | some (off, size) => if v.length ≠ size || off + v.length > cells.length then none else fillL (splice cells off v) place rest

theorem fill_fillL (place : Nat → Option (Nat × Nat)) : ∀ (parts : List (Nat × Value)) (cells : List Value) (r : List Value),
    fillL cells place (parts.map fun p => (p.1, p.2.cells.toList)) = some r → Instr.fill place cells.toArray parts = some r.toArray
  | [], cells, r, h => by simp only [List.map_nil, fillL, Option.some.injEq] at h; subst h; rfl
  | (i, v) :: rest, cells, r, h => by
    simp only [List.map_cons, fillL] at h
    simp only [Instr.fill]
    cases hp : place i with
    | none => simp [hp] at h
    | some os =>
      obtain ⟨off, size⟩ := os
      simp only [hp, Array.length_toList] at h
      simp only [List.size_toArray]
      split at h
      · cases h
      · rename_i hc
        rw [if_neg hc]
        have := foldl_set_splice off v.cells.toList 0 cells.toArray (by simp at hc ⊢; omega)
        simp only [Nat.add_zero] at this
        have e : (v.cells.zipIdx.foldl (fun cs (x : Value × Nat) => cs.setIfInBounds (off + x.2) x.1) cells.toArray) = (splice cells off v.cells.toList).toArray := by
          rw [← Array.foldl_toList, Array.toList_zipIdx]
          exact this
        rw [show (Array.foldl (fun cs (x : Value × Nat) => match x with | (c, j) => cs.setIfInBounds (off + j) c) cells.toArray v.cells.zipIdx) = (splice cells off v.cells.toList).toArray from e]
        exact fill_fillL place rest _ r h

section
variable {P : Program} {n : Nat} {D : List Deferred} {o : Oper} {s : Sl} {h : Hp} {K : Sl → Hp → Prop} {Q : Exit → Sl → Hp → Prop}

/-- An operation that makes one block of cells. -/
theorem LO.make (mk : Nat → Value) (T : TypeId) (xs : List Value) (e : ∀ a w, Kn n s a → Has h w → (execOp a.eval o).run P w = .ok (.value (mk w.heap.size)) (w.alloc (.cells xs.toArray T)))
    (d : (o.dst.all fun d => Nat.ble (d + 1) n) = true) (k : ∀ b, h b = none → K (setS s o.dst (mk b)) (upd h b (.own T xs xs.length))) : LO P n D o s h K Q := by
  refine ⟨d, fun a w kn H => ?_⟩
  obtain ⟨hn, H', E'⟩ := H.alloc (.cells xs.toArray T) (.own T xs xs.length) ⟨xs.toArray, heap_alloc_new w _, by simp, fun i v hv => by simpa using hv⟩
  exact ⟨_, _, _, .inl (e a w kn H), H', E', k _ hn⟩

theorem LO.boxAgg {t : TypeId} {x : Operand} {xs : List Value} (ho : o.op = .box t x) (hx : ev s x = some (.agg xs.toArray)) (d : (o.dst.all fun d => Nat.ble (d + 1) n) = true)
    (k : ∀ b, h b = none → K (setS s o.dst (.pointer (some ⟨b, 0, none⟩))) (upd h b (.own t xs xs.length))) : LO P n D o s h K Q :=
  LO.make (fun b => .pointer (some ⟨b, 0, none⟩)) t xs (fun a w kn H => by
    simp only [execOp, ho, kn.eval hx]
    simp [Instr.box, newVar, newRow, Value.cells]) d k

theorem LO.boxOne {t : TypeId} {x : Operand} {v : Value} (ho : o.op = .box t x) (hx : ev s x = some v) (hv : v.cells = #[v]) (d : (o.dst.all fun d => Nat.ble (d + 1) n) = true)
    (k : ∀ b, h b = none → K (setS s o.dst (.pointer (some ⟨b, 0, none⟩))) (upd h b (.own t [v] 1))) : LO P n D o s h K Q :=
  LO.make (fun b => .pointer (some ⟨b, 0, none⟩)) t [v] (fun a w kn H => by
    simp only [execOp, ho, kn.eval hx]
    simp [Instr.box, newVar, newRow, hv]) d k

/-- The zero value of a type, as cells. -/
def Zr (P : Program) (t : TypeId) (xs : List Value) : Prop := (((P.info? t).bind (·.zero)).map fun v => v.cells) = some xs.toArray

theorem Zr.run {t : TypeId} {xs : List Value} (e : Zr P t xs) (w : World) : ∃ v, (zeroValue t).run P w = .ok v w ∧ v.cells = xs.toArray := by
  unfold Zr at e
  cases hi : P.info? t with
  | none => simp [hi] at e
  | some i =>
    cases hz : i.zero with
    | none => simp [hi, hz] at e
    | some v => simp [hi, hz] at e; exact ⟨v, by simp [zeroValue, typeInfo, hi, hz], e⟩

theorem LO.alloc {t : TypeId} {xs : List Value} (ho : o.op = .alloc t) (hz : Zr P t xs) (d : (o.dst.all fun d => Nat.ble (d + 1) n) = true)
    (k : ∀ b, h b = none → K (setS s o.dst (.pointer (some ⟨b, 0, none⟩))) (upd h b (.own t xs xs.length))) : LO P n D o s h K Q :=
  LO.make (fun b => .pointer (some ⟨b, 0, none⟩)) t xs (fun a w kn H => by
    simp only [execOp, ho]
    obtain ⟨v, hv, hc⟩ := hz.run w
    simp [Instr.alloc, newVar, newRow, hv, hc]) d k

/-- '[]T{}'. -/
theorem LO.sliceNil {t e : TypeId} {z ze : Nat} {d' : TypeDesc} (ho : o.op = .buildSlice t 0 #[]) (ht : Sz P t (.slice e) z) (he : Sz P e d' ze) (d : (o.dst.all fun d => Nat.ble (d + 1) n) = true)
    (k : ∀ b, h b = none → K (setS s o.dst (.slice (some ⟨b, 0, none⟩) 0 0)) (upd h b (.own e [] 0))) : LO P n D o s h K Q :=
  LO.make (fun b => .slice (some ⟨b, 0, none⟩) 0 0) e [] (fun a w kn H => by
    simp only [execOp, ho]
    simp [Instr.buildSlice, run_underlying ht.1, he.sizeOf, Instr.fill, newRow, Array.range_zero']) d k

/-- The cells that a slice literal begins with. -/
def rep (zs : List Value) : Nat → List Value
  | 0 => []
  | m + 1 => zs ++ rep zs m

theorem rep_length (zs : List Value) : ∀ m, (rep zs m).length = m * zs.length
  | 0 => by simp [rep]
  | m + 1 => by simp [rep, rep_length zs m, Nat.add_mul, Nat.add_comm]

theorem rep_get (zs : List Value) (hp : 0 < zs.length) : ∀ (m i : Nat), i < m * zs.length → (rep zs m)[i]? = zs[i % zs.length]?
  | 0, i, h => by simp at h
  | m + 1, i, h => by
    simp only [rep]
    by_cases hi : i < zs.length
    · rw [List.getElem?_append_left hi, Nat.mod_eq_of_lt hi]
    · rw [List.getElem?_append_right (by omega), rep_get zs hp m _ (by rw [Nat.add_mul] at h; omega)]
      rw [Nat.mod_eq_sub_mod (Nat.le_of_not_lt hi)]

theorem rep_range (zs : List Value) (hp : 0 < zs.length) (m : Nat) : ((Array.range (m * zs.length)).map fun i => zs.toArray[i % zs.toArray.size]!) = (rep zs m).toArray := by
  apply Array.ext_getElem?
  intro i
  simp only [Array.getElem?_map, List.getElem?_toArray, List.size_toArray]
  by_cases h : i < m * zs.length
  · have hm : i % zs.length < zs.length := Nat.mod_lt _ hp
    rw [rep_get zs hp m i h, Array.getElem?_range, if_pos h]
    simp [hm]
  · rw [List.getElem?_eq_none (by rw [rep_length]; omega), Array.getElem?_range, if_neg h]
    rfl

/-- '[]T{x, y, ..}'. -/
theorem LO.slice {t e : TypeId} {m : Nat} {parts : Array (Nat × Operand)} {z ze : Nat} {d' : TypeDesc} {zs : List Value} (vs : List (Nat × Value)) {r : List Value} (ho : o.op = .buildSlice t m parts) (ht : Sz P t (.slice e) z) (he : Sz P e d' ze) (hz : Zr P e zs) (hl : zs.length = ze) (hp : 0 < ze) (hm0 : 0 < m) (hp2 : m * ze ≤ 2 ^ 24)
    (hx : parts.toList.map (fun p => (p.1, ev s p.2)) = vs.map fun p => (p.1, some p.2)) (hv : fillL (rep zs m) (fun i => some (i * ze, ze)) (vs.map fun p => (p.1, p.2.cells.toList)) = some r) (d : (o.dst.all fun d => Nat.ble (d + 1) n) = true)
    (k : ∀ b, h b = none → K (setS s o.dst (.slice (some ⟨b, 0, none⟩) m m)) (upd h b (.own e r r.length))) : LO P n D o s h K Q :=
  LO.make (fun b => .slice (some ⟨b, 0, none⟩) m m) e r (fun a w kn H => by
    simp only [execOp, ho]
    obtain ⟨zv, hzv, hzc⟩ := hz.run w
    have hne : m * ze ≠ 0 := Nat.pos_iff_ne_zero.1 (Nat.mul_pos hm0 hp)
    have hnl : ¬ 2 ^ 24 < m * ze := by omega
    have hpv : (parts.map fun (i, x) => (i, a.eval x)).toList = vs := by
      have : parts.toList.map (fun p => (p.1, a.eval p.2)) = vs := by
        clear hv
        generalize parts.toList = l at hx
        induction l generalizing vs with
        | nil => cases vs with
          | nil => rfl
          | cons p r => simp at hx
        | cons p l ih => cases vs with
          | nil => simp at hx
          | cons q r =>
            simp only [List.map_cons, List.cons.injEq, Prod.mk.injEq] at hx
            simp only [List.map_cons, ih r hx.2, List.cons.injEq, and_true]
            exact Prod.ext hx.1.1 (kn.eval hx.1.2)
      simpa using this
    have hfill : Instr.fill (fun i => some (i * ze, ze)) (rep zs m).toArray vs = some r.toArray := fill_fillL _ vs _ _ hv
    subst hl
    have hrr := rep_range zs hp m
    simp only [Instr.buildSlice, Sem.run_bind, run_underlying ht.1, Result.andThen_ok, he.sizeOf]
    rw [if_neg (by simpa using hnl)]
    simp only [if_neg hne, Sem.run_bind, hzv, Result.andThen_ok, Sem.run_pure, hzc, hrr, hpv, hfill, newRow, run_newObj]
    rfl) d k
end
end Go.Abs

/- Stores, appends, making of slices, building of values; the entry into a function and its results. -/
namespace Go.Abs
open Go

theorem setCells_rest (b : Nat) : ∀ (vs : List Value) (o : Nat) (w : World), (w.setCells b o vs).heap.size = w.heap.size ∧ (w.setCells b o vs).tape = w.tape ∧ (w.setCells b o vs).os = w.os ∧ (w.setCells b o vs).output = w.output ∧
    ∀ c, c ≠ b → (w.setCells b o vs).heap[c]? = w.heap[c]?
  | [], o, w => ⟨rfl, rfl, rfl, rfl, fun _ _ => rfl⟩
  | v :: r, o, w => by
    obtain ⟨h1, h2, h3, h4, h5⟩ := setCells_rest b r (o + 1) (w.setCell ⟨b, o, none⟩ v)
    refine ⟨h1.trans (by simp), h2, h3, h4, fun c hc => (h5 c hc).trans ?_⟩
    show (w.heap.modify b _)[c]? = _
    rw [Array.getElem?_modify, if_neg (fun e => hc e.symm)]

theorem setCells_heap (b : Nat) (T : TypeId) : ∀ (vs : List Value) (o : Nat) (w : World) (c : Array Value), w.heap[b]? = some (.cells c T (0, 0)) → o + vs.length ≤ c.size →
    (w.setCells b o vs).heap[b]? = some (.cells (splice c.toList o vs).toArray T (0, 0))
  | [], o, w, c, h, _ => by simp [World.setCells, splice, h]
  | v :: r, o, w, c, h, hl => by
    simp only [List.length_cons] at hl
    have h1 : (w.setCell ⟨b, o, none⟩ v).heap[b]? = some (.cells (c.setIfInBounds o v) T (0, 0)) := by
      show (w.heap.modify b _)[b]? = _
      rw [Array.getElem?_modify, if_pos rfl, h]
      rfl
    have := setCells_heap b T r (o + 1) _ _ h1 (by simp; omega)
    rw [World.setCells, this, Array.toList_setIfInBounds, splice_cons (by simp; omega)]

section
variable {P : Program} {n : Nat} {D : List Deferred} {o : Oper} {s : Sl} {h : Hp} {K : Sl → Hp → Prop} {Q : Exit → Sl → Hp → Prop}

/-- All of a row are values of one cell. -/
def One (xs : List Value) : Prop := ∀ v ∈ xs, v.oneCell' = true

theorem HasB.setCells {w : World} {b : Nat} {T : TypeId} {xs : List Value} {m : Nat} (H : HasB w b (.own T xs m)) {off : Nat} {cs : List Value} (hl : off + cs.length ≤ xs.length) :
    HasB (w.setCells b off cs) b (.own T (splice xs off cs) m) := by
  obtain ⟨c, e, hs, hx⟩ := H
  have hxl : xs.length ≤ c.size := by
    rcases Nat.eq_zero_or_pos xs.length with h0 | h0
    · omega
    · have h1 : xs[xs.length - 1]? = some (xs[xs.length - 1]'(by omega)) := List.getElem?_eq_getElem (by omega)
      have := (Array.getElem?_eq_some_iff.1 (hx _ _ h1)).1
      omega
  refine ⟨_, setCells_heap b T cs off w c e (by omega), by simp [splice]; omega, fun i v hv => ?_⟩
  rw [splice_get hl] at hv
  simp only [List.getElem?_toArray]
  rw [splice_get (by simp; omega)]
  split
  · rename_i hc; rw [if_pos hc] at hv; exact hv
  · rename_i hc; rw [if_neg hc] at hv; simpa using hx i v hv

theorem LO.stores {b off m : Nat} {T : TypeId} {xs cs : List Value} (e : ∀ a w, Kn n s a → Has h w → (∀ j, j < cs.length → (w.cell? ⟨b, off + j, none⟩).isSome = true) → (∀ j, j < cs.length → w.frozen? ⟨b, off + j, none⟩ = false) →
      (execOp a.eval o).run P w = .ok .skip (w.setCells b off cs))
    (hb : h b = some (.own T xs m)) (hl : off + cs.length ≤ xs.length) (d : (o.dst.all fun d => Nat.ble (d + 1) n) = true) (k : K (setS s o.dst undef) (chg h b (.own T (splice xs off cs) m))) : LO P n D o s h K Q := by
  refine ⟨d, fun a w kn H => ?_⟩
  have hB := H b _ hb
  have hrun := e a w kn H (fun j hj => by
    have : xs[off + j]? = some (xs[off + j]'(by omega)) := List.getElem?_eq_getElem (by omega)
    rw [H.rd (v := xs[off + j]'(by omega)) (by rw [rd_own hb]; exact this)]; rfl) (fun j hj => by
    obtain ⟨c, e1, _, _⟩ := hB
    simp [World.frozen?, e1])
  obtain ⟨h1, h2, h3, h4, h5⟩ := setCells_rest b cs off w
  obtain ⟨H', E'⟩ := H.change hb _ (hB.setCells hl) h1 h5 h2 h3 h4
  exact ⟨_, _, _, .inr ⟨hrun, rfl⟩, H', E', k⟩

theorem LO.store {t : TypeId} {x y : Operand} {b off m : Nat} {T : TypeId} {xs : List Value} {v : Value} {d' : TypeDesc} (ho : o.op = .store t x y) (ht : Sz P t d' 1) (hx : ev s x = some (.pointer (some ⟨b, off, none⟩))) (hy : ev s y = some v) (hv : v.oneCell' = true)
    (hb : h b = some (.own T xs m)) (hl : off < xs.length) (d : (o.dst.all fun d => Nat.ble (d + 1) n) = true) (k : K (setS s o.dst undef) (chg h b (.own T (xs.set off v) m))) : LO P n D o s h K Q := by
  have hs : splice xs off [v] = xs.set off v := by
    rw [← splice_cons (ys := []) (by simp; omega)]; simp [splice]
  rw [← hs] at k
  refine LO.stores (cs := [v]) (fun a w kn H h1 h2 => ?_) hb (by simp; omega) d k
  simp only [execOp, ho, kn.eval hx, kn.eval hy]
  have hc : v.cells = #[v] := by cases v <;> first | rfl | simp [Value.oneCell'] at hv
  have := run_storeCells_cells (P := P) b off [v] 0 w (by simpa using h1) (by simpa using h2) (by simpa using hv)
  simp only [Nat.add_zero] at this
  simp [Instr.storeAt, Instr.sureAddr, storeVar, hc, ht.sizeOf, this]

theorem LO.storeRow {t : TypeId} {x y : Operand} {b off m : Nat} {T : TypeId} {xs cs : List Value} {d' : TypeDesc} {z : Nat} (ho : o.op = .store t x y) (ht : Sz P t d' z) (hx : ev s x = some (.pointer (some ⟨b, off, none⟩))) (hy : ev s y = some (.agg cs.toArray)) (hv : One cs) (hz : cs.length = z)
    (hb : h b = some (.own T xs m)) (hl : off + cs.length ≤ xs.length) (d : (o.dst.all fun d => Nat.ble (d + 1) n) = true) (k : K (setS s o.dst undef) (chg h b (.own T (splice xs off cs) m))) : LO P n D o s h K Q := by
  refine LO.stores (cs := cs) (fun a w kn H h1 h2 => ?_) hb hl d k
  simp only [execOp, ho, kn.eval hx, kn.eval hy]
  have := run_storeCells_cells (P := P) b off cs 0 w (by simpa using h1) (by simpa using h2) hv
  simp only [Nat.add_zero] at this
  simp [Instr.storeAt, Instr.sureAddr, storeVar, Value.cells, ht.sizeOf, this, hz]

/-! ### append -/
theorem HasB.of_row {w : World} {b : Nat} {T cap : Nat} {cur : Array Value} {z k : Nat} {xs : List Value} (hg : w.heap[b]? = some (.cells cur T (0, 0))) (hs : cur.size = cap * z) (ht : cur.toList.take (k * z) = xs) :
    HasB w b (.own T xs (cap * z)) := by
  refine ⟨cur, hg, hs, fun i v hv => ?_⟩
  rw [← ht, List.getElem?_take] at hv
  split at hv
  · simpa using hv
  · cases hv

/-- What is known of an element's type. -/
structure El (P : Program) (T : TypeId) (z by_ : Nat) : Prop where
  ok : ∃ i v, P.info? T = some i ∧ i.zero = some v ∧ i.size = z ∧ i.bytes = by_ ∧ v.cells.size = z
  pos : 0 < z

/-- Append onto a slice of one's own, that is not nil: what was known of it is given up, but for 'h0'. -/
theorem LO.append {t T : TypeId} {x y : Operand} {b cap k z by_ zt : Nat} {xs ys : List Value} {ad : Option Addr} {m c : Nat} (h0 : Hp) (ho : o.op = .call ⟨.builtin .append, #[x, y], #[t, t]⟩) (ht : Sz P t (.slice T) zt) (hT : El P T z by_)
    (hx : ev s x = some (.slice (some ⟨b, 0, none⟩) k cap)) (hy : ev s y = some (.slice ad m c)) (hl : Le (upd h0 b (.own T xs (cap * z))) h) (hb : h0 b = none) (hk : k ≤ cap) (hc : cap ≤ maxLen) (hxl : xs.length = k * z)
    (hyl : ys.length = m * z) (hys : ∀ i v, ys[i]? = some v → ∃ b' off', ad = some ⟨b', off', none⟩ ∧ rd h b' (off' + i) = some v) (hone : One ys) (hm : 0 < m) (hsz : (k + m) * by_ ≤ 140737488355328) (h63 : k + m ≤ maxLen)
    (d : (o.dst.all fun d => Nat.ble (d + 1) n) = true)
    (K' : ∀ b' cap', h0 b' = none → k + m ≤ cap' → cap' ≤ maxLen → K (setS s o.dst (.slice (some ⟨b', 0, none⟩) (k + m) cap')) (upd h0 b' (.own T (xs ++ ys) (cap' * z)))) : LO P n D o s h K Q := by
  refine ⟨d, fun a w kn H => ?_⟩
  obtain ⟨⟨i, zv, hi, hzv, hiz, hib, hzs⟩, hz⟩ := hT
  have hbh : h b = some (.own T xs (cap * z)) := hl b _ (upd_same _ _ _)
  obtain ⟨cur, hg, hcs, hx0⟩ := H b _ hbh
  have hyl0 : 0 < ys.length := by rw [hyl]; exact Nat.mul_pos hm hz
  obtain ⟨ad', had⟩ : ∃ ad' : Addr, ad = some ad' ∧ ad'.spot = none := by
    obtain ⟨b', off', e, _⟩ := hys 0 ys[0] (List.getElem?_eq_getElem hyl0)
    exact ⟨_, e, rfl⟩
  obtain ⟨rfl, hspot⟩ := had
  have hown : w.ownsRow b T z (.slice (some ⟨b, 0, none⟩) k cap) k xs := by
    refine ⟨hxl, .inr ⟨b, cap, cur, rfl, Nat.le_refl _, hg, hk, hc, hcs, ?_⟩⟩
    apply List.ext_getElem?
    intro j
    rw [List.getElem?_take]
    by_cases hj : j < xs.length
    · have hj' : xs[j]? = some (xs[j]) := List.getElem?_eq_getElem hj
      rw [if_pos (by omega), hj']
      simpa using hx0 j _ hj'
    · rw [if_neg (by omega), List.getElem?_eq_none (by omega)]
  have hnews : ∀ j u, ys[j]? = some u → w.cell? (ad'.add j) = some u := fun j u hu => by
    obtain ⟨b', off', e, hr⟩ := hys j u hu
    simp only [Option.some.injEq] at e
    subst e
    rw [Addr.add_mid]
    exact H.rd hr
  have hsz' : ∀ old, old < k + m → Builtin.nextslicecap (k + m) old * i.bytes ≤ 281474976710656 := fun old ho => growslice_fits ho (by rw [hib]; exact hsz)
  have hsmall : ((k + m : Nat) : Int) ≤ 9223372036854775807 := by simp only [maxLen] at h63; omega
  have fin : ∀ (g cap' : Nat) (cur' : Array Value) (w' : World), (execOp a.eval o).run P w = .ok (.value (.slice (some ⟨g, 0, none⟩) (k + m) cap')) w' → (g = b ∨ w.heap.size ≤ g) → w.heap.size ≤ w'.heap.size →
      (∀ c, c < w.heap.size → c ≠ b → w'.heap[c]? = w.heap[c]?) → w'.heap[g]? = some (.cells cur' T (0, 0)) → cur'.size = cap' * z → cur'.toList.take ((k + m) * z) = xs ++ ys → k + m ≤ cap' → cap' ≤ maxLen → w'.tape = w.tape → w'.os = w.os → w'.output = w.output →
      ∃ u w' h', ((execOp a.eval o).run P w = .ok (.value u) w' ∨ ((execOp a.eval o).run P w = .ok .skip w' ∧ u = undef)) ∧ Has h' w' ∧ Ext h w h' w' ∧ K (match o.dst with | some d => (d, u) :: s | none => s) h' := by
    intro g cap' cur' w' hrun hgb hsize hsame hg' hcs' htk hkc hcm htp hos hout
    have hg0 : h0 g = none := by
      rcases hgb with rfl | hge
      · exact hb
      · cases e : h0 g with
        | none => rfl
        | some q =>
          have hgq : h g = some q := hl g q (by rw [upd_ne _ _ (ne_of_fresh hb e)]; exact e)
          exact absurd (H g q hgq).lt (by omega)
    have Hw' : Has (upd h0 g (.own T (xs ++ ys) (cap' * z))) w' := fun c q hc => by
      unfold upd at hc
      by_cases e : c = g
      · subst e
        simp only [if_true, Option.some.injEq] at hc
        subst hc
        exact HasB.of_row hg' hcs' htk
      · simp only [e, if_false] at hc
        have hcb : c ≠ b := ne_of_fresh hb hc
        have hcq : h c = some q := hl c q (by rw [upd_ne _ _ hcb]; exact hc)
        have := H c q hcq
        exact this.congr (hsame c this.lt hcb)
    refine ⟨_, _, _, .inl hrun, Hw', ⟨hsize, fun c hc hcn => ?_, htp, hos, hout⟩, K' g cap' hg0 hkc hcm⟩
    have hcb : c ≠ b := fun e => by subst e; rw [hbh] at hcn; cases hcn
    refine ⟨hsame c hc hcb, ?_⟩
    unfold upd
    have hcg : c ≠ g := by
      rcases hgb with rfl | hge
      · exact hcb
      · omega
    rw [if_neg hcg]
    cases e : h0 c with
    | none => rfl
    | some q =>
      have := hl c q (by rw [upd_ne _ _ hcb]; exact e)
      rw [hcn] at this; cases this
  have hlen : (xs ++ ys).length = (k + m) * z := by rw [List.length_append, hxl, hyl, Nat.add_mul]
  have hrunOf : ∀ v' w', (Builtin.append_ #[t, t] o.type #[.slice (some ⟨b, 0, none⟩) k cap, .slice (some ad') m c]).run P w = .ok v' w' → (execOp a.eval o).run P w = .ok (.value v') w' := fun v' w' hr => by
    simp only [execOp, ho]
    simp [resolve, kn.eval hx, kn.eval hy, invoke, builtin, hr]
  have htake : cur.toList.take (k * z) = xs := by
    obtain ⟨_, hc2⟩ := hown
    rcases hc2 with ⟨e, _⟩ | ⟨g, cap2, cur2, e, _, hg2, _, _, _, ht2⟩
    · cases e
    · simp only [Value.slice.injEq, Option.some.injEq, Addr.mk.injEq, and_true, true_and] at e
      obtain ⟨rfl, _⟩ := e
      rw [hg] at hg2
      simp only [Option.some.injEq, Obj.cells.injEq, and_true] at hg2
      subst hg2
      exact ht2
  by_cases hroom : k + m ≤ cap
  · have hfit : k * i.size + ys.length ≤ cur.size := by rw [hyl, hcs, hiz, ← Nat.add_mul]; exact Nat.mul_le_mul_right _ hroom
    have hr := run_append_room (P := P) w t o.type T i ht.1 hi b k cap cur hg ad' m c ys (by rw [hiz]; exact hyl) hnews hone hroom hfit
    refine fin b cap _ _ (hrunOf _ _ hr) (.inl rfl) ?_ ?_ (setRow_heap w b cur _ T _ hg) ?_ ?_ hroom hc rfl rfl rfl
    · simp [World.setRow]
    · intro c hc hcb
      exact setRow_other w b c _ hcb
    · simp only [List.size_toArray, List.length_append, List.length_take, List.length_drop, Array.length_toList]
      omega
    · rw [hiz, htake, ← hlen]
      exact List.take_left
  · have hr := run_append_grow (P := P) w t o.type T i zv ht.1 hi hzv ⟨b, 0, none⟩ k cap xs (by rw [hiz]; exact hxl) (fun j u hu => by
      rw [Addr.add_mid, Nat.zero_add, H.rd]; rw [rd_own hbh]; exact hu) ad' m c ys (by rw [hiz]; exact hyl) hnews (by omega) hsmall (hsz' cap (by omega))
    have hge := grownCap_ge w (k + m) cap T
    have hcm : grownCap w (k + m) cap T ≤ maxLen := grownCap_le_maxLen w (k + m) cap T h63
    refine fin w.heap.size _ _ _ (hrunOf _ _ hr) (.inr (Nat.le_refl _)) ?_ ?_ (heap_alloc_new w.drew _) ?_ ?_ hge hcm rfl rfl rfl
    · simp
    · intro c hc hcb
      exact heap_alloc_old w.drew _ hc
    · simp only [Array.size_append, List.size_toArray, size_zeroCells, hzs, hxl, hyl, ← Nat.add_mul]
      congr 1
      omega
    · simp only [Array.toList_append, List.append_assoc]
      rw [← List.append_assoc, ← hlen]
      exact List.take_left
end
end Go.Abs

/- The entry into a function, and its results. -/
namespace Go.Abs
open Go

def initS : Nat → List Value → Sl
  | _, [] => []
  | k, v :: r => (k, v) :: initS (k + 1) r

theorem lk_initS : ∀ (l : List Value) (k t : Nat) (v : Value), lk (initS k l) t = some v → k ≤ t ∧ l[t - k]? = some v
  | [], k, t, v, h => by simp [initS, lk] at h
  | u :: r, k, t, v, h => by
    rw [initS, lk_cons] at h
    by_cases e : k = t
    · subst e; simpa using h
    · rw [if_neg e] at h
      obtain ⟨h1, h2⟩ := lk_initS r (k + 1) t v h
      refine ⟨by omega, ?_⟩
      rw [show t - k = (t - (k + 1)) + 1 by omega, List.getElem?_cons_succ]
      exact h2

theorem Kn.init {n : Nat} {args : Array Value} (hn : args.size ≤ n) {D : List Deferred} : Kn n (initS 0 args.toList) { tmps := args ++ Array.replicate (n - args.size) undef, defers := D } := by
  refine ⟨by simp; omega, fun t v h => ?_⟩
  obtain ⟨_, h2⟩ := lk_initS _ _ _ _ h
  simp only [Nat.sub_zero, Array.getElem?_toList] at h2
  have hlt := (Array.getElem?_eq_some_iff.1 h2).1
  rw [Array.getElem?_append, if_pos hlt]
  exact h2

/-- The results of 'fn' are 'v' wherever these slots and blocks are known. -/
def Res (P : Program) (n : Nat) (fn : Func) (s : Sl) (h : Hp) (v : Value) : Prop :=
  ∀ a w, Kn n s a → Has h w → (results fn a.tmps).run P w = .ok v w

/-- What is asked at a function's end. -/
def retA (P : Program) (n : Nat) (fn : Func) (K : Value → Hp → Prop) : Exit → Sl → Hp → Prop
  | .normal, s, h | .ret, s, h => ∃ v, Res P n fn s h v ∧ ∃ h2, Le h2 h ∧ K v h2
  | _, _, _ => False

theorem CC.enter {P : Program} {f : FuncId} {fn : Func} {c : Code} {n : Nat} {args : Array Value} {h : Hp} {K : Value → Hp → Prop} (hf : P.funcs[f]? = some fn) (hb : fn.body = some c) (hn : fn.ntmps = n) (hl : Nat.ble args.size n = true)
    (x : wpA P n [] c (initS 0 args.toList) h (retA P n fn K)) : CC P f args h K := by
  intro w H
  refine calls_of_wp hf hb ?_
  rw [hn]
  refine Code.wp_mono ?_ (x h w _ w ⟨Kn.init (Nat.le_of_ble_eq_true hl), rfl, H, Ext.refl h w⟩)
  rintro e a' w' ⟨s', h', q, kn, hd, H', E⟩
  have fin : ∀ v, Res P n fn s' h' v → (∃ h2, Le h2 h' ∧ K v h2) → a'.defers = [] ∧ ∃ v, (results fn a'.tmps).run P w' = .ok v w' ∧ ∃ v' h2, Ending.returned v = .returned v' ∧ Has h2 w' ∧ Ext h w h2 w' ∧ K v' h2 := by
    rintro v r ⟨h2, l, k⟩
    exact ⟨hd, v, r a' w' kn H', v, h2, rfl, H'.le l, E.le l, k⟩
  cases e with
  | normal => obtain ⟨v, r, k⟩ := q; exact fin v r k
  | ret => obtain ⟨v, r, k⟩ := q; exact fin v r k
  | _ => exact q.elim

section
variable {P : Program} {n : Nat} {fn : Func} {s : Sl} {h : Hp}

/-- One result: where it lies. -/
def res1 (P : Program) (n : Nat) (s : Sl) (h : Hp) (r : ResultVar) (v : Value) : Prop :=
  match r with
  | .tmp t => lk s t = some v
  | .cell p ty => ∀ a w, Kn n s a → Has h w → ∃ ad, (asAddr (a.tmps.getD p undef)).run P w = .ok ad w ∧ (loadVar ty ad).run P w = .ok v w

theorem res1.row {p : Nat} {t : TypeId} {b off : Nat} {cs : List Value} {d : TypeDesc} {z : Nat} (ht : Sz P t d z) (hd : d.isRow = true) (hx : lk s p = some (.pointer (some ⟨b, off, none⟩)))
    (hl : cs.length = z) (hr : ∀ i v, cs[i]? = some v → rd h b (off + i) = some v) : res1 P n s h (.cell p t) (.agg cs.toArray) := fun a w kn H => by
  have := run_loadVar_mid (P := P) w b off t cs d (fun j v hj => H.rd (hr j v hj)) ht.1 hd (by rw [ht.2, hl])
  have hk := kn.known p _ hx
  exact ⟨⟨b, off, none⟩, by simp [hk, asAddr], this⟩

theorem res1.one {p : Nat} {t : TypeId} {b off : Nat} {v : Value} {d : TypeDesc} {z : Nat} (ht : Sz P t d z) (hd : d.isRow = false) (hx : lk s p = some (.pointer (some ⟨b, off, none⟩)))
    (hr : rd h b off = some v) : res1 P n s h (.cell p t) v := fun a w kn H => by
  have h1 : (Go.isAgg t).run P w = .ok false w := by
    rw [ht.isAgg]; cases d <;> first | rfl | simp [TypeDesc.isRow] at hd
  have hk := kn.known p _ hx
  exact ⟨⟨b, off, none⟩, by simp [hk, asAddr], by simp [loadVar, h1, H.rd hr]⟩

/-- The run of one result. -/
def resS (tmps : Array Value) : ResultVar → Sem Value
  | .tmp t => pure (tmps.getD t undef)
  | .cell p t => do loadVar t (← asAddr (tmps.getD p undef))

theorem res1.run {r : ResultVar} {v : Value} (x : res1 P n s h r v) {a : Act} {w : World} (kn : Kn n s a) (H : Has h w) : (resS a.tmps r).run P w = .ok v w := by
  cases r with
  | tmp t =>
    have := kn.known t v x
    simp [resS, this]
  | cell p ty =>
    obtain ⟨ad, h1, h2⟩ := x a w kn H
    simp only [resS, Sem.run_bind, h1, Result.andThen_ok, h2]

theorem results_eq (fn : Func) (tmps : Array Value) : results fn tmps = (do let vs ← fn.results.mapM (resS tmps); pure (if h : vs.size = 1 then vs[0] else .tuple vs)) := by
  unfold results
  congr 1

theorem Res.none (hr : fn.results = #[]) : Res P n fn s h (.tuple #[]) := fun a w kn H => by
  simp [results, hr]
theorem Res.one {r : ResultVar} {v : Value} (hr : fn.results = #[r]) (x : res1 P n s h r v) : Res P n fn s h v := fun a w kn H => by
  have := x.run kn H
  rw [results_eq, hr]
  simp [this]
theorem Res.two {r q : ResultVar} {u v : Value} (hr : fn.results = #[r, q]) (x : res1 P n s h r u) (y : res1 P n s h q v) : Res P n fn s h (.tuple #[u, v]) := fun a w kn H => by
  have hx := x.run kn H
  have hy := y.run kn H
  rw [results_eq, hr]
  simp [hx, hy]
theorem Res.three {r q t : ResultVar} {u v x : Value} (hr : fn.results = #[r, q, t]) (hu : res1 P n s h r u) (hv : res1 P n s h q v) (hx : res1 P n s h t x) : Res P n fn s h (.tuple #[u, v, x]) := fun a w kn H => by
  have h1 := hu.run kn H
  have h2 := hv.run kn H
  have h3 := hx.run kn H
  rw [results_eq, hr]
  simp [h1, h2, h3]
end

/-- Knowing less of slots: by a list of those that are kept. -/
inductive Sub (s : Sl) : Sl → Prop where
  | nil : Sub s []
  | cons {t : Nat} {v : Value} {r : Sl} (e : lk s t = some v) (x : Sub s r) : Sub s ((t, v) :: r)

theorem Sub.ok {s s' : Sl} (x : Sub s s') : ∀ t v, lk s' t = some v → lk s t = some v := by
  induction x with
  | nil => intro t v h; simp [lk] at h
  | cons e x ih =>
    rename_i t0 v0 r
    intro t v h
    rw [lk_cons] at h
    by_cases ht : t0 = t
    · subst ht; simp only [if_true, Option.some.injEq] at h; subst h; exact e
    · rw [if_neg ht] at h; exact ih t v h

end Go.Abs

/- What the printed walks lean on. -/
namespace Go.Abs
open Go

section
variable {next : Sl → Hp → Prop} {Q : Exit → Sl → Hp → Prop} {s : Sl} {h : Hp}
theorem thenA_n (x : next s h) : thenA next Q .normal s h := x
theorem thenA_e {id : Nat} (x : Q (.exit id) s h) : thenA next Q (.exit id) s h := x
theorem thenA_r (x : Q .ret s h) : thenA next Q .ret s h := x
theorem blockA_n {id : Nat} (x : Q .normal s h) : blockA id Q .normal s h := x
theorem blockA_s {id : Nat} (x : Q .normal s h) : blockA id Q (.exit id) s h := by simpa [blockA] using x
theorem blockA_r {id : Nat} (x : Q .ret s h) : blockA id Q .ret s h := x
end

section
variable {P : Program} {n : Nat} {D : List Deferred} {Q : Exit → Sl → Hp → Prop} {s : Sl} {h : Hp}
theorem wpA_cond_t {c : Operand} {x y : Code} (hc : ev s c = some (.bool true)) (ht : wpA P n D x s h Q) : wpA P n D (.cond c x y) s h Q :=
  wpA_cond hc (fun _ => ht) (fun e => by cases e)
theorem wpA_cond_f {c : Operand} {x y : Code} (hc : ev s c = some (.bool false)) (hf : wpA P n D y s h Q) : wpA P n D (.cond c x y) s h Q :=
  wpA_cond hc (fun e => by cases e) (fun _ => hf)

theorem retA_r {fn : Func} {K : Value → Hp → Prop} {v : Value} {h2 : Hp} (r : Res P n fn s h v) (l : Le h2 h) (k : K v h2) : retA P n fn K .ret s h := ⟨v, r, h2, l, k⟩

variable {ops : List Oper} {rest : List Oper}
/-- Is a bool in a slot true? -/
theorem Ops_case {b : Bool} (t : Nat) (e : lk s t = some (.bool b)) (ht : b = true → Ops P n D ops Q rest ((t, .bool true) :: s) h) (hf : b = false → Ops P n D ops Q rest ((t, .bool false) :: s) h) : Ops P n D ops Q rest s h := by
  rintro h0 w0 a w ⟨kn, hd, H, E⟩
  have kn' : Kn n ((t, .bool b) :: s) a := kn.sub fun t' v hv => by
    rw [lk_cons] at hv
    by_cases ht' : t = t'
    · subst ht'; simp only [if_true, Option.some.injEq] at hv; rw [e, hv]
    · rw [if_neg ht'] at hv; exact hv
  cases b with
  | true => exact ht rfl h0 w0 a w ⟨kn', hd, H, E⟩
  | false => exact hf rfl h0 w0 a w ⟨kn', hd, H, E⟩
end

/-! ### Arguments of calls -/
inductive Evs (s : Sl) : List Operand → List Value → Prop where
  | nil : Evs s [] []
  | cons {x : Operand} {v : Value} {xs : List Operand} {vs : List Value} (e : ev s x = some v) (r : Evs s xs vs) : Evs s (x :: xs) (v :: vs)

theorem Evs.map {n : Nat} {s : Sl} {xs : List Operand} {vs : List Value} (r : Evs s xs vs) {a : Act} (kn : Kn n s a) : xs.map a.eval = vs := by
  induction r with
  | nil => rfl
  | cons e r ih => simp [kn.eval e, ih]

section
variable {P : Program} {n : Nat} {o : Oper} {s : Sl} {h : Hp}
theorem EO.fn {f : FuncId} {fn : Func} {xs : List Operand} {ts : Array TypeId} {vs : List Value} {c : Code} (ho : o.op = .call ⟨.value (.func f), xs.toArray, ts⟩) (hf : P.funcs[f]? = some fn) (hb : fn.body = some c) (hn : (fn.name == "runtime.NumGoroutine") = false)
    (ha : Evs s xs vs) : EO P n o s h f vs.toArray := fun a w kn H => by
  have hargs := ha.map kn
  have hn' : fn.name ≠ "runtime.NumGoroutine" := by simpa using hn
  simp only [execOp, ho]
  simp [resolve, hargs, Deferred.ofValue, Act.eval, invoke, callFunc, hf, hb, hn']

/-- A call of a function literal's value. -/
theorem EO.clo {f : FuncId} {fn : Func} {x : Operand} {xs : List Operand} {ts : Array TypeId} {vs cap : List Value} {c : Code} (ho : o.op = .call ⟨.value x, xs.toArray, ts⟩) (hx : ev s x = some (.func (.func f) #[] cap.toArray)) (hf : P.funcs[f]? = some fn) (hb : fn.body = some c) (hn : (fn.name == "runtime.NumGoroutine") = false)
    (ha : Evs s xs vs) : EO P n o s h f (vs ++ cap).toArray := fun a w kn H => by
  have hargs := ha.map kn
  have hn' : fn.name ≠ "runtime.NumGoroutine" := by simpa using hn
  simp only [execOp, ho]
  simp [resolve, hargs, kn.eval hx, Deferred.ofValue, invoke, callFunc, hf, hb, hn']

theorem QO.makeClo {f : FuncId} {xs : List Operand} {vs : List Value} (ho : o.op = .makeFunc (.func f) #[] xs.toArray) (ha : Evs s xs vs) : QO P n o s h (.func (.func f) #[] vs.toArray) := fun a w kn H => by
  have hargs := ha.map kn
  simp only [execOp, ho]
  simp [Instr.makeFunc, hargs]

/-- The result of an operation, said otherwise. -/
theorem QO.eqv {v v' : Value} (q : QO P n o s h v) (e : v = v') : QO P n o s h v' := e ▸ q

theorem QO.add {t t' : TypeId} {x y : Operand} {k : IntKind} {a b : Int} (ho : o.op = .binOp .add t x y t') (hx : ev s x = some (.int k a)) (hy : ev s y = some (.int k b)) (hv : k.wrap (a + b) = a + b) : QO P n o s h (.int k (a + b)) :=
  QO.bin ho hx hy (by simp [ibin, hv])
theorem QO.sub {t t' : TypeId} {x y : Operand} {k : IntKind} {a b : Int} (ho : o.op = .binOp .sub t x y t') (hx : ev s x = some (.int k a)) (hy : ev s y = some (.int k b)) (hv : k.wrap (a - b) = a - b) : QO P n o s h (.int k (a - b)) :=
  QO.bin ho hx hy (by simp [ibin, hv])
theorem QO.mul {t t' : TypeId} {x y : Operand} {k : IntKind} {a b : Int} (ho : o.op = .binOp .mul t x y t') (hx : ev s x = some (.int k a)) (hy : ev s y = some (.int k b)) (hv : k.wrap (a * b) = a * b) : QO P n o s h (.int k (a * b)) :=
  QO.bin ho hx hy (by simp [ibin, hv])
end

/-! ### Slices that may be nil: 'B' is the block, if there is one -/
def adO (B : Option Nat) : Option Addr := match B with | none => none | some b => some ⟨b, 0, none⟩
def updO (h : Hp) (B : Option Nat) (k : Blk) : Hp := match B with | none => h | some b => Abs.upd h b k
structure NeO (c : Nat) (B : Option Nat) : Prop where
  ne : ∀ b, B = some b → c ≠ b
theorem updO_ne {h : Hp} {B : Option Nat} {k : Blk} {c : Nat} (n : NeO c B) : updO h B k c = h c := by
  cases B with
  | none => rfl
  | some b => exact upd_ne h k (n.ne b rfl)

/-! ### Changes of blocks -/
inductive Chg : Hp → Nat → Blk → Hp → Prop where
  | here {h : Hp} {b : Nat} {k0 k : Blk} : Chg (upd h b k0) b k (upd h b k)
  | there {h h' : Hp} {b c : Nat} {k k0 : Blk} (hc : c ≠ b) (r : Chg h b k h') : Chg (upd h c k0) b k (upd h' c k0)
  | thereO {h h' : Hp} {b : Nat} {B : Option Nat} {k k0 : Blk} (hc : NeO b B) (r : Chg h b k h') : Chg (updO h B k0) b k (updO h' B k0)
  | base {h : Hp} {b : Nat} {k : Blk} : Chg h b k (upd h b k)
  | eqn {h h' : Hp} {b : Nat} {k : Blk} (e : chg h b k = h') : Chg h b k h'

theorem Chg.eq {h h' : Hp} {b : Nat} {k : Blk} (x : Chg h b k h') : chg h b k = h' := by
  induction x with
  | here => exact chg_same _ _ _ _
  | there hc r ih => rw [chg_ne _ hc, ih]
  | thereO hc r ih =>
    rename_i B k k0
    cases B with
    | none => exact ih
    | some c => exact (chg_ne _ (Ne.symm (hc.ne c rfl)) k0 k).trans (by rw [ih]; rfl)
  | eqn e => exact e
  | base => rfl

section
variable {P : Program} {n : Nat} {D : List Deferred} {o : Oper} {s : Sl} {h h' : Hp} {K : Sl → Hp → Prop} {Q : Exit → Sl → Hp → Prop}
theorem LO.store' {t : TypeId} {x y : Operand} {b off m : Nat} {T : TypeId} {xs xs' : List Value} {v : Value} {d' : TypeDesc} (ho : o.op = .store t x y) (ht : Sz P t d' 1) (hx : ev s x = some (.pointer (some ⟨b, off, none⟩))) (hy : ev s y = some v) (hv : v.oneCell' = true)
    (hb : h b = some (.own T xs m)) (hl : off < xs.length) (he : xs.set off v = xs') (hc : Chg h b (.own T xs' m) h') (d : (o.dst.all fun d => Nat.ble (d + 1) n) = true) (k : K (setS s o.dst undef) h') : LO P n D o s h K Q :=
  LO.store ho ht hx hy hv hb hl d (by rw [he, hc.eq]; exact k)
theorem LO.storeRow' {t : TypeId} {x y : Operand} {b off m : Nat} {T : TypeId} {xs xs' cs : List Value} {d' : TypeDesc} {z : Nat} (ho : o.op = .store t x y) (ht : Sz P t d' z) (hx : ev s x = some (.pointer (some ⟨b, off, none⟩))) (hy : ev s y = some (.agg cs.toArray)) (hv : One cs) (hz : cs.length = z)
    (hb : h b = some (.own T xs m)) (hl : off + cs.length ≤ xs.length) (he : splice xs off cs = xs') (hc : Chg h b (.own T xs' m) h') (d : (o.dst.all fun d => Nat.ble (d + 1) n) = true) (k : K (setS s o.dst undef) h') : LO P n D o s h K Q :=
  LO.storeRow ho ht hx hy hv hz hb hl d (by rw [he, hc.eq]; exact k)
end

theorem Le.under {h0 h : Hp} {b : Nat} {k : Blk} (l : Le h0 h) (hb : h0 b = none) : Le h0 (Abs.upd h b k) := fun c q hc => by
  rw [upd_ne h k (ne_of_fresh hb hc)]; exact l c q hc
theorem Le.upd_left {h g : Hp} {b : Nat} {k k' : Blk} (l : Le h g) (hg : g b = some k') (e : k' = k) : Le (Abs.upd h b k) g := fun c q hc => by
  unfold Abs.upd at hc
  by_cases e' : c = b
  · subst e'; simp only [if_true, Option.some.injEq] at hc; rw [hg, e, hc]
  · simp only [e', if_false] at hc; exact l c q hc
theorem rdAll {h : Hp} {b : Nat} {T : TypeId} {xs : List Value} {n : Nat} (e : h b = some (.own T xs n)) : ∀ i v, xs[i]? = some v → rd h b (0 + i) = some v := fun i v hv => by
  rw [Nat.zero_add, rd_own e]; exact hv

/-! ### Rows of numbers -/
def tabI (k : IntKind) (f : Nat → Int) (n : Nat) : List Value := (List.range n).map fun i => .int k (f i)
def fset {α : Type} (f : Nat → α) (i : Nat) (v : α) : Nat → α := fun j => if j = i then v else f j
theorem fset_ne {α : Type} (f : Nat → α) {i j : Nat} (v : α) (h : j ≠ i) : fset f i v j = f j := by simp [fset, h]
theorem tabI_length (k : IntKind) (f : Nat → Int) (n : Nat) : (tabI k f n).length = n := by simp [tabI]
theorem tabI_get {k : IntKind} {f : Nat → Int} {n i : Nat} (h : i < n) : (tabI k f n)[i]? = some (.int k (f i)) := by simp [tabI, h]
theorem tabI_set {k : IntKind} {f : Nat → Int} {n i : Nat} {v : Int} : (tabI k f n).set i (.int k v) = tabI k (fset f i v) n := by
  apply List.ext_getElem?
  intro j
  rw [List.getElem?_set]
  by_cases hj : j < n
  · rw [tabI_get hj, tabI_get hj, tabI_length]
    by_cases e : i = j
    · subst e; simp [hj, fset]
    · rw [if_neg e, fset_ne _ _ (Ne.symm e)]
  · rw [List.getElem?_eq_none (by rw [tabI_length]; omega), List.getElem?_eq_none (by rw [tabI_length]; omega), tabI_length]
    split
    · rw [if_neg (by omega)]
    · rfl
theorem tabI_one (k : IntKind) (f : Nat → Int) (n : Nat) : One (tabI k f n) := fun v hv => by
  simp only [tabI, List.mem_map] at hv
  obtain ⟨i, _, rfl⟩ := hv
  rfl
theorem tabI_congr {k : IntKind} {f g : Nat → Int} {n : Nat} (h : ∀ i, i < n → f i = g i) : tabI k f n = tabI k g n := by
  unfold tabI
  exact List.map_congr_left fun i hi => by rw [h i (List.mem_range.1 hi)]
def tabB (f : Nat → Bool) (n : Nat) : List Value := (List.range n).map fun i => .bool (f i)
theorem tabB_length (f : Nat → Bool) (n : Nat) : (tabB f n).length = n := by simp [tabB]
theorem tabB_get {f : Nat → Bool} {n i : Nat} (h : i < n) : (tabB f n)[i]? = some (.bool (f i)) := by simp [tabB, h]
theorem tabB_set {f : Nat → Bool} {n i : Nat} {v : Bool} : (tabB f n).set i (.bool v) = tabB (fset f i v) n := by
  apply List.ext_getElem?
  intro j
  rw [List.getElem?_set]
  by_cases hj : j < n
  · rw [tabB_get hj, tabB_get hj, tabB_length]
    by_cases e : i = j
    · subst e; simp [hj, fset]
    · rw [if_neg e, fset_ne _ _ (Ne.symm e)]
  · rw [List.getElem?_eq_none (by rw [tabB_length]; omega), List.getElem?_eq_none (by rw [tabB_length]; omega), tabB_length]
    split
    · rw [if_neg (by omega)]
    · rfl
theorem tabB_one (f : Nat → Bool) (n : Nat) : One (tabB f n) := fun v hv => by
  simp only [tabB, List.mem_map] at hv
  obtain ⟨i, _, rfl⟩ := hv
  rfl
/-- A list of numbers. -/
def ints (k : IntKind) (l : List Int) : List Value := l.map (.int k)
theorem ints_length (k : IntKind) (l : List Int) : (ints k l).length = l.length := by simp [ints]
theorem ints_get {k : IntKind} {l : List Int} {i : Nat} (h : i < l.length) : (ints k l)[i]? = some (.int k (l.getD i 0)) := by simp [ints, h]
theorem ints_set {k : IntKind} {l : List Int} {i : Nat} {v : Int} : (ints k l).set i (.int k v) = ints k (l.set i v) := by simp [ints, List.map_set]
theorem ints_one (k : IntKind) (l : List Int) : One (ints k l) := fun v hv => by
  simp only [ints, List.mem_map] at hv
  obtain ⟨i, _, rfl⟩ := hv
  rfl
end Go.Abs

/- Squares, places and tables as cells. -/
namespace Go.Abs
open Go

theorem tabI_get01 {k : IntKind} {f : Nat → Int} {n i : Nat} (h : i < n) : (tabI k f n)[0 + i * 1]? = some (.int k (f i)) := by
  rw [Nat.zero_add, Nat.mul_one]; exact tabI_get h
theorem tabB_get01 {f : Nat → Bool} {n i : Nat} (h : i < n) : (tabB f n)[0 + i * 1]? = some (.bool (f i)) := by
  rw [Nat.zero_add, Nat.mul_one]; exact tabB_get h
theorem ints_get01 {k : IntKind} {l : List Int} {i : Nat} (h : i < l.length) : (ints k l)[0 + i * 1]? = some (.int k (l.getD i 0)) := by
  rw [Nat.zero_add, Nat.mul_one]; exact ints_get h
theorem tabI_set01 {k : IntKind} {f : Nat → Int} {n i : Nat} {v : Int} : (tabI k f n).set (0 + i * 1) (.int k v) = tabI k (fset f i v) n := by
  rw [Nat.zero_add, Nat.mul_one]; exact tabI_set
theorem tabB_set01 {f : Nat → Bool} {n i : Nat} {v : Bool} : (tabB f n).set (0 + i * 1) (.bool v) = tabB (fset f i v) n := by
  rw [Nat.zero_add, Nat.mul_one]; exact tabB_set
theorem ints_set01 {k : IntKind} {l : List Int} {i : Nat} {v : Int} : (ints k l).set (0 + i * 1) (.int k v) = ints k (l.set i v) := by
  rw [Nat.zero_add, Nat.mul_one]; exact ints_set

theorem splice_all {xs cs : List Value} (h : cs.length = xs.length) : splice xs 0 cs = cs := by
  simp [splice, h]

/-- A table of ten rows. -/
def tbC (t : Nat → Nat → Int) : List Value := tabI .u8 (fun k => t (k / 10) (k % 10)) 100
theorem tbC_length (t : Nat → Nat → Int) : (tbC t).length = 100 := tabI_length _ _ _
theorem tbC_get {t : Nat → Nat → Int} {x y : Nat} (hx : x < 10) (hy : y < 10) : (tbC t)[0 + x * 10 + y * 1]? = some (.int .u8 (t x y)) := by
  have e : 0 + x * 10 + y * 1 = x * 10 + y := by omega
  rw [e, tbC, tabI_get (by omega)]
  have e1 : (x * 10 + y) / 10 = x := by omega
  have e2 : (x * 10 + y) % 10 = y := by omega
  rw [e1, e2]
theorem tbC_one (t : Nat → Nat → Int) : One (tbC t) := tabI_one _ _ _

/-- A square: an order and a table. -/
structure Sq where
  order : Int
  t : Nat → Nat → Int

def sqC (q : Sq) : List Value := .int .i64 q.order :: tbC q.t
theorem sqC_length (q : Sq) : (sqC q).length = 101 := by simp [sqC, tbC_length]
theorem sqC_get {q : Sq} {x y : Nat} (hx : x < 10) (hy : y < 10) : (sqC q)[0 + 1 + x * 10 + y * 1]? = some (.int .u8 (q.t x y)) := by
  have e : 0 + 1 + x * 10 + y * 1 = (0 + x * 10 + y * 1) + 1 := by omega
  rw [e, sqC, List.getElem?_cons_succ]
  exact tbC_get hx hy
theorem sqC_one (q : Sq) : One (sqC q) := fun v hv => by
  simp only [sqC, List.mem_cons] at hv
  rcases hv with rfl | hv
  · rfl
  · exact tbC_one _ v hv
/-- A row of the table. -/
theorem rdSqRow {h : Hp} {b : Nat} {T : TypeId} {q : Sq} {n x : Nat} (e : h b = some (.own T (sqC q) n)) (hx : x < 10) : ∀ i v, (tabI .u8 (q.t x) 10)[i]? = some v → rd h b (0 + 1 + x * 10 + i) = some v := fun i v hv => by
  have hi : i < 10 := by
    rcases Nat.lt_or_ge i 10 with h | h
    · exact h
    · rw [List.getElem?_eq_none (by rw [tabI_length]; exact h)] at hv; cases hv
  rw [rd_own e, ← hv, tabI_get hi]
  have := sqC_get (q := q) hx hi
  simpa using this
theorem rdSqTab {h : Hp} {b : Nat} {T : TypeId} {q : Sq} {n : Nat} (e : h b = some (.own T (sqC q) n)) : ∀ i v, (tbC q.t)[i]? = some v → rd h b (0 + 1 + i) = some v := fun i v hv => by
  rw [rd_own e, ← hv, Nat.zero_add, Nat.add_comm, sqC, List.getElem?_cons_succ]
/-- A store into the table. -/
def tset (t : Nat → Nat → Int) (x y : Nat) (v : Int) : Nat → Nat → Int := fun a b => if a = x ∧ b = y then v else t a b
theorem tbC_set {t : Nat → Nat → Int} {x y : Nat} {v : Int} (hx : x < 10) (hy : y < 10) : (tbC t).set (0 + x * 10 + y * 1) (.int .u8 v) = tbC (tset t x y v) := by
  have e : 0 + x * 10 + y * 1 = x * 10 + y := by omega
  rw [e, tbC, tabI_set, tbC]
  refine tabI_congr fun i hi => ?_
  unfold fset tset
  by_cases h : i = x * 10 + y
  · rw [if_pos h, if_pos (by omega)]
  · rw [if_neg h, if_neg (by omega)]
theorem sqC_set {q : Sq} {x y : Nat} {v : Int} (hx : x < 10) (hy : y < 10) : (sqC q).set (0 + 1 + x * 10 + y * 1) (.int .u8 v) = sqC ⟨q.order, tset q.t x y v⟩ := by
  have e : 0 + 1 + x * 10 + y * 1 = (0 + x * 10 + y * 1) + 1 := by omega
  rw [e, sqC, List.set_cons_succ, tbC_set hx hy]
  rfl
theorem sqC_setOrd {q : Sq} {v : Int} : (sqC q).set (0 + 0) (.int .i64 v) = sqC ⟨v, q.t⟩ := rfl

/-- Zeros. -/
def sq0 : Sq := ⟨0, fun _ _ => 0⟩
def pl0 : Nat → Int := fun _ => 0
end Go.Abs

/- Slices that a function makes: append, make, literals, in the form in which the printed walks ask them. -/
namespace Go.Abs
open Go

/-- A new slice of 'k' elements with these cells, beside what was known. -/
def NewSl (T : TypeId) (z : Nat) (xs : List Value) (k : Nat) (h : Hp) (v : Value) (h' : Hp) : Prop :=
  ∃ b cap, v = .slice (some ⟨b, 0, none⟩) k cap ∧ h b = none ∧ k ≤ cap ∧ cap ≤ maxLen ∧ h' = upd h b (.own T xs (cap * z))

theorem none_upd {h : Hp} {b c : Nat} {k : Blk} (n : c ≠ b) (e : h c = none) : upd h b k c = none := upd_none.2 ⟨n, e⟩

/-- 'h0' is 'h' without block 'b', which holds 'k', and perhaps without other blocks. -/
structure Del (h : Hp) (b : Nat) (k : Blk) (h0 : Hp) : Prop where
  none : h0 b = none
  le : Le (upd h0 b k) h

theorem Del.here {h : Hp} {b : Nat} {k : Blk} (hb : h b = .none) : Del (upd h b k) b k h := ⟨hb, Le.refl _⟩
theorem Del.there {h h0 : Hp} {b c : Nat} {k k0 : Blk} (hc : b ≠ c) (d : Del h b k h0) : Del (upd h c k0) b k (upd h0 c k0) :=
  ⟨none_upd hc d.none, by rw [upd_comm h0 (Ne.symm hc)]; exact d.le.upd_both c k0⟩
theorem Del.drop {h h0 : Hp} {b c : Nat} {k k0 : Blk} (hc : c ≠ b) (hn : h0 c = .none) (d : Del h b k h0) : Del (upd h c k0) b k h0 :=
  ⟨d.none, d.le.under (none_upd hc hn)⟩

section
variable {P : Program} {n : Nat} {D : List Deferred} {o : Oper} {s : Sl} {h : Hp} {K : Sl → Hp → Prop} {Q : Exit → Sl → Hp → Prop}

theorem LO.append' {t T : TypeId} {x y : Operand} {b cap k z by_ zt : Nat} {xs ys : List Value} {ad : Option Addr} {m c : Nat} {h0 : Hp} (ho : o.op = .call ⟨.builtin .append, #[x, y], #[t, t]⟩) (ht : Sz P t (.slice T) zt) (hT : El P T z by_)
    (hx : ev s x = some (.slice (some ⟨b, 0, none⟩) k cap)) (hy : ev s y = some (.slice ad m c)) (hd : Del h b (.own T xs (cap * z)) h0) (hk : k ≤ cap) (hc : cap ≤ maxLen) (hxl : xs.length = k * z)
    (hyl : ys.length = m * z) (hys : ∀ (i : Nat) (v : Value), ys[i]? = some v → ∃ b' off', ad = some ⟨b', off', none⟩ ∧ rd h b' (off' + i) = some v) (hone : One ys) (hm : 0 < m) (hsz : (k + m) * by_ ≤ 140737488355328) (hby : 0 < by_)
    (d : (o.dst.all fun d => Nat.ble (d + 1) n) = true)
    (K' : ∀ b' cap', h0 b' = none → k + m ≤ cap' → cap' ≤ maxLen → K (setS s o.dst (.slice (some ⟨b', 0, none⟩) (k + m) cap')) (upd h0 b' (.own T (xs ++ ys) (cap' * z)))) : LO P n D o s h K Q := by
  have h63 : k + m ≤ maxLen := by
    have : (k + m) * 1 ≤ (k + m) * by_ := Nat.mul_le_mul_left _ hby
    simp only [maxLen]; omega
  exact LO.append h0 ho ht hT hx hy hd.le hd.none hk hc hxl hyl hys hone hm hsz h63 d K'

theorem LO.slice' {t e : TypeId} {m : Nat} {parts : Array (Nat × Operand)} {z ze : Nat} {d' : TypeDesc} {zs : List Value} (vs : List (Nat × Value)) {r : List Value} (ho : o.op = .buildSlice t m parts) (ht : Sz P t (.slice e) z) (he : Sz P e d' ze) (hz : Zr P e zs) (hl : zs.length = ze) (hp : 0 < ze) (hm0 : 0 < m) (hp2 : m * ze ≤ 2 ^ 24)
    (hx : parts.toList.map (fun p => (p.1, ev s p.2)) = vs.map fun p => (p.1, some p.2)) (hv : fillL (rep zs m) (fun i => some (i * ze, ze)) (vs.map fun p => (p.1, p.2.cells.toList)) = some r) (hr : r.length = m * ze) (d : (o.dst.all fun d => Nat.ble (d + 1) n) = true)
    (k : ∀ b, h b = none → K (setS s o.dst (.slice (some ⟨b, 0, none⟩) m m)) (upd h b (.own e r (m * ze)))) : LO P n D o s h K Q :=
  LO.slice vs ho ht he hz hl hp hm0 hp2 hx hv d (fun b hb => by rw [hr]; exact k b hb)

/-- '[]T{x}' with one element, in the way that append's last argument is made. -/
theorem LO.slice1 {t e : TypeId} {x : Operand} {z ze : Nat} {d' : TypeDesc} {v : Value} {zs r : List Value} (ho : o.op = .buildSlice t 1 #[(0, x)]) (ht : Sz P t (.slice e) z) (he : Sz P e d' ze) (hz : Zr P e zs) (hl : zs.length = ze) (hp : 0 < ze) (hp2 : ze ≤ 2 ^ 24)
    (hx : ev s x = some v) (hv : v.cells = r.toArray) (hr : r.length = ze) (d : (o.dst.all fun d => Nat.ble (d + 1) n) = true)
    (k : ∀ b, h b = none → K (setS s o.dst (.slice (some ⟨b, 0, none⟩) 1 1)) (upd h b (.own e r (1 * ze)))) : LO P n D o s h K Q := by
  refine LO.slice' [(0, v)] ho ht he hz hl hp (by decide) (by omega) (by simp [hx]) (r := r) ?_ (by omega) d k
  simp only [List.map_cons, List.map_nil, fillL, hv, rep, List.append_nil, Nat.zero_mul, Nat.zero_add]
  rw [if_neg (by simp; omega)]
  congr 1
  simp only [splice, List.take_zero, List.nil_append, List.drop_eq_nil_iff, Nat.zero_add, List.append_right_eq_self]
  omega

end

theorem El.of {P : Program} {T : TypeId} {z by_ : Nat} (e : (P.info? T).map (fun i => (i.zero.map fun v => v.cells.size, i.size, i.bytes)) = some (some z, z, by_)) (hz : 0 < z) : El P T z by_ := by
  cases hi : P.info? T with
  | none => simp [hi] at e
  | some i =>
    simp only [hi, Option.map_some, Option.some.injEq, Prod.mk.injEq] at e
    obtain ⟨h1, h2, h3⟩ := e
    cases hv : i.zero with
    | none => simp [hv] at h1
    | some v => simp [hv] at h1; exact ⟨⟨i, v, hi, hv, h2, h3, h1⟩, hz⟩

end Go.Abs

/- Loops as functions; slices that came in. -/
namespace Go.Abs
open Go

/-- How a round of a loop ends: it goes on, it leaves by an exit, it returns. -/
inductive Out (σ ρ : Type) where
  | next (s : σ)
  | stop (s : σ) (id : Nat)
  | ret (r : ρ)

/-- So many rounds at most. -/
def loopW {σ ρ : Type} (step : σ → Option (Out σ ρ)) : Nat → σ → Option (Out σ ρ)
  | 0, _ => none
  | k + 1, s => (step s).bind fun
    | .next s' => loopW step k s'
    | r => some r

theorem loopW_mono {σ ρ : Type} {step : σ → Option (Out σ ρ)} {r : Out σ ρ} : ∀ {k : Nat} {s : σ} {j : Nat}, loopW step k s = some r → k ≤ j → loopW step j s = some r
  | 0, s, j, h, _ => by simp [loopW] at h
  | k + 1, s, 0, h, hj => by omega
  | k + 1, s, j + 1, h, hj => by
    simp only [loopW] at h ⊢
    cases hs : step s with
    | none => simp [hs] at h
    | some o =>
      simp only [hs, Option.bind_some] at h ⊢
      cases o with
      | next s' => exact loopW_mono h (by omega)
      | stop s' id => exact h
      | ret r' => exact h

open Classical in
/-- The loop's end, if it comes to one. -/
noncomputable def loopV {σ ρ : Type} (step : σ → Option (Out σ ρ)) (s : σ) : Option (Out σ ρ) :=
  if h : ∃ r k, loopW step k s = some r then some h.choose else none

theorem loopV_of {σ ρ : Type} {step : σ → Option (Out σ ρ)} {s : σ} {k : Nat} {r : Out σ ρ} (h : loopW step k s = some r) : loopV step s = some r := by
  have hex : ∃ r k, loopW step k s = some r := ⟨r, k, h⟩
  unfold loopV
  rw [dif_pos hex]
  obtain ⟨k', hk'⟩ := hex.choose_spec
  have h1 := loopW_mono h (Nat.le_max_left k k')
  have h2 := loopW_mono hk' (Nat.le_max_right k k')
  rw [h1] at h2
  exact h2.symm

theorem loopV_some {σ ρ : Type} {step : σ → Option (Out σ ρ)} {s : σ} {r : Out σ ρ} (h : loopV step s = some r) : ∃ k, loopW step k s = some r := by
  unfold loopV at h
  split at h
  · rename_i hex
    simp only [Option.some.injEq] at h
    obtain ⟨k, hk⟩ := hex.choose_spec
    exact ⟨k, h ▸ hk⟩
  · cases h

theorem loopV_eq {σ ρ : Type} (step : σ → Option (Out σ ρ)) (s : σ) : loopV step s = (step s).bind fun
    | .next s' => loopV step s'
    | r => some r := by
  cases hs : step s with
  | none =>
    unfold loopV
    rw [dif_neg]
    · rfl
    · rintro ⟨r, k, hk⟩
      cases k with
      | zero => simp [loopW] at hk
      | succ k => simp [loopW, hs] at hk
  | some o =>
    cases o with
    | next s' =>
      simp only [Option.bind_some]
      cases hv : loopV step s' with
      | some r =>
        obtain ⟨k, hk⟩ := loopV_some hv
        exact loopV_of (k := k + 1) (by simp [loopW, hs, hk])
      | none =>
        unfold loopV at hv ⊢
        split at hv
        · cases hv
        · rename_i hno
          rw [dif_neg]
          rintro ⟨r, k, hk⟩
          cases k with
          | zero => simp [loopW] at hk
          | succ k => exact hno ⟨r, k, by simpa [loopW, hs] using hk⟩
    | stop s' id => exact loopV_of (k := 1) (by simp [loopW, hs])
    | ret r => exact loopV_of (k := 1) (by simp [loopW, hs])

/-- A loop with an invariant and a number that goes down. -/
theorem loopV_inv {σ ρ : Type} {step : σ → Option (Out σ ρ)} (I : σ → Prop) (m : σ → Nat) (R : Out σ ρ → Prop)
    (h : ∀ s, I s → (∃ s', step s = some (.next s') ∧ I s' ∧ m s' < m s) ∨ (∃ r, step s = some r ∧ (∀ s', r ≠ .next s') ∧ R r)) {s : σ} (hi : I s) : ∃ r, loopV step s = some r ∧ R r := by
  induction hm : m s using Nat.strongRecOn generalizing s with
  | _ n ih =>
    subst hm
    rcases h s hi with ⟨s', hs, hi', hlt⟩ | ⟨r, hs, hn, hr⟩
    · obtain ⟨r, h1, h2⟩ := ih _ hlt hi' rfl
      exact ⟨r, by rw [loopV_eq, hs]; exact h1, h2⟩
    · refine ⟨r, ?_, hr⟩
      rw [loopV_eq, hs]
      cases r with
      | next s' => exact absurd rfl (hn s')
      | _ => rfl

theorem loopW_succ {σ ρ : Type} {step : σ → Option (Out σ ρ)} {k : Nat} {s : σ} {r : Out σ ρ} (h : loopW step (k + 1) s = some r) : ∃ o, step s = some o ∧ (match o with | .next s' => loopW step k s' | o => some o) = some r := by
  simp only [loopW] at h
  exact Option.bind_eq_some_iff.1 h

theorem chk {α : Type} {p : Prop} [Decidable p] {x : Option α} {r : α} (h : (if p then x else none) = some r) : p ∧ x = some r := by
  split at h
  · exact ⟨‹_›, h⟩
  · cases h
theorem cond_t {α : Type} {b : Bool} {x y : α} {r : α} (h : (cond b x y) = r) (hb : b = true) : x = r := by subst hb; exact h
theorem cond_f {α : Type} {b : Bool} {x y : α} {r : α} (h : (cond b x y) = r) (hb : b = false) : y = r := by subst hb; exact h

/-! ### Slices that came in, or are only read -/
def ad (A : Option Addr) : Addr := A.getD ⟨0, 0, none⟩

/-- From 'A' on, the cells 'xs' can be read. -/
def RdS (h : Hp) (A : Option Addr) (xs : List Value) : Prop :=
  ∀ (i : Nat) (v : Value), xs[i]? = some v → ∃ b off, A = some ⟨b, off, none⟩ ∧ rd h b (off + i) = some v

theorem rd_le {h h' : Hp} (l : Le h h') {b i : Nat} {v : Value} (e : rd h b i = some v) : rd h' b i = some v := by
  unfold rd at *
  cases hb : h b with
  | none => simp [hb] at e
  | some k => rw [l b k hb]; rw [hb] at e; exact e
theorem RdS.le {h h' : Hp} {A : Option Addr} {xs : List Value} (r : RdS h A xs) (l : Le h h') : RdS h' A xs := fun i v hv =>
  let ⟨b, off, e, hr⟩ := r i v hv
  ⟨b, off, e, rd_le l hr⟩
theorem RdS.ad {h : Hp} {A : Option Addr} {xs : List Value} (r : RdS h A xs) {i : Nat} (hi : i < xs.length) : A = some ⟨(ad A).block, (ad A).off, none⟩ := by
  obtain ⟨b, off, e, _⟩ := r i _ (List.getElem?_eq_getElem hi)
  subst e
  rfl
theorem RdS.rd {h : Hp} {A : Option Addr} {xs : List Value} (r : RdS h A xs) {i : Nat} {v : Value} (hv : xs[i]? = some v) : rd h (Abs.ad A).block ((Abs.ad A).off + i) = some v := by
  obtain ⟨b, off, e, h1⟩ := r i v hv
  subst e
  exact h1
theorem RdS.own {h : Hp} {b : Nat} {T : TypeId} {xs : List Value} {n : Nat} (e : h b = some (.own T xs n)) : RdS h (some ⟨b, 0, none⟩) xs := fun i v hv =>
  ⟨b, 0, rfl, by rw [Nat.zero_add, rd_own e]; exact hv⟩
theorem RdS.nil {h : Hp} {A : Option Addr} : RdS h A [] := fun i v hv => by simp at hv

section
variable {P : Program} {n : Nat} {D : List Deferred} {o : Oper} {s : Sl} {h : Hp} {K : Sl → Hp → Prop} {Q : Exit → Sl → Hp → Prop}
theorem LO.append2 {t T : TypeId} {x y : Operand} {b cap k z by_ zt k' : Nat} {xs ys xs' : List Value} {ad : Option Addr} {m c : Nat} {h0 : Hp} (ho : o.op = .call ⟨.builtin .append, #[x, y], #[t, t]⟩) (ht : Sz P t (.slice T) zt) (hT : El P T z by_)
    (hx : ev s x = some (.slice (some ⟨b, 0, none⟩) k cap)) (hy : ev s y = some (.slice ad m c)) (hd : Del h b (.own T xs (cap * z)) h0) (hk : k ≤ cap) (hc : cap ≤ maxLen) (hxl : xs.length = k * z)
    (hyl : ys.length = m * z) (hys : RdS h ad ys) (hone : One ys) (hm : 0 < m) (hsz : k + m ≤ 1099511627776) (hby : 0 < by_) (hby2 : by_ ≤ 128)
    (d : (o.dst.all fun d => Nat.ble (d + 1) n) = true) (ek : k + m = k') (ex : xs ++ ys = xs')
    (K' : ∀ b' cap', h0 b' = none → k' ≤ cap' → cap' ≤ maxLen → K (setS s o.dst (.slice (some ⟨b', 0, none⟩) k' cap')) (upd h0 b' (.own T xs' (cap' * z)))) : LO P n D o s h K Q := by
  subst ek; subst ex
  have : (k + m) * by_ ≤ 1099511627776 * 128 := Nat.mul_le_mul hsz hby2
  exact LO.append' ho ht hT hx hy hd hk hc hxl hyl hys hone hm (by omega) hby d K'

end

section
variable {P : Program} {n : Nat} {o : Oper} {s : Sl} {h : Hp}
end
end Go.Abs

/- What sim.py's walks lean on beside the rest. -/
namespace Go.Abs
open Go

/-- Two blocks are apart (kept out of arithmetic's sight). -/
structure Ap (a b : Nat) : Prop where
  ne : a ≠ b
theorem upd_noneA {h : Hp} {b c : Nat} {k : Blk} : upd h b k c = none ↔ Ap c b ∧ h c = none :=
  ⟨fun e => ⟨⟨(upd_none.1 e).1⟩, (upd_none.1 e).2⟩, fun e => upd_none.2 ⟨e.1.ne, e.2⟩⟩

theorem Sub.of {s : Sl} : ∀ {s' : Sl}, (∀ t v, lk s' t = some v → lk s t = some v) → Sub s s' → Sub s s' := fun _ x => x
theorem Sub.trans {s s1 s2 : Sl} (a : Sub s s1) (b : Sub s1 s2) : Sub s s2 := by
  induction b with
  | nil => exact .nil
  | cons e x ih => exact .cons (a.ok _ _ e) ih

theorem retA_sub {P : Program} {n : Nat} {fn : Func} {K : Value → Hp → Prop} {s s1 : Sl} {h h1 : Hp} {e : Exit} (hs : ∀ t v, lk s1 t = some v → lk s t = some v) (hl : Le h1 h) (x : retA P n fn K e s1 h1) : retA P n fn K e s h := by
  have key : (∃ v, Res P n fn s1 h1 v ∧ ∃ h2, Le h2 h1 ∧ K v h2) → ∃ v, Res P n fn s h v ∧ ∃ h2, Le h2 h ∧ K v h2 := by
    rintro ⟨v, r, h2, l, k⟩
    exact ⟨v, fun a w kn H => r a w (kn.sub hs) (H.le hl), h2, l.trans hl, k⟩
  cases e with
  | normal => exact key x
  | ret => exact key x
  | _ => exact x

section
variable {P : Program} {n : Nat} {o : Oper} {s : Sl} {h : Hp}
theorem QO.build0 {t : TypeId} {xs : List Value} (ho : o.op = .build t #[]) (hb : P.built t [] = some xs.toArray) : QO P n o s h (.agg xs.toArray) := fun a w kn H => by
  simp only [execOp, ho]
  simp [run_build w t #[] xs.toArray hb]
theorem QO.build1 {t : TypeId} {i : Nat} {x : Operand} {v : Value} {xs : List Value} (ho : o.op = .build t #[(i, x)]) (hx : ev s x = some v) (hb : P.built t [(i, v)] = some xs.toArray) : QO P n o s h (.agg xs.toArray) := fun a w kn H => by
  simp only [execOp, ho]
  simp [kn.eval hx, run_build w t #[(i, v)] xs.toArray hb]
theorem QO.build2 {t : TypeId} {i j : Nat} {x y : Operand} {u v : Value} {xs : List Value} (ho : o.op = .build t #[(i, x), (j, y)]) (hx : ev s x = some u) (hy : ev s y = some v) (hb : P.built t [(i, u), (j, v)] = some xs.toArray) : QO P n o s h (.agg xs.toArray) := fun a w kn H => by
  simp only [execOp, ho]
  simp [kn.eval hx, kn.eval hy, run_build w t #[(i, u), (j, v)] xs.toArray hb]
end

/-! ### More rows -/
theorem ints_get1 {k : IntKind} {l : List Int} {i : Nat} (h : i < l.length) : (ints k l)[i * 1]? = some (.int k (l.getD i 0)) := by
  rw [Nat.mul_one]; exact ints_get h
def tb0 : Nat → Nat → Int := fun _ _ => 0
def bl0 : Nat → Bool := fun _ => false
/-- A table of ten rows of bools. -/
def tbB (t : Nat → Nat → Bool) : List Value := tabB (fun k => t (k / 10) (k % 10)) 100
theorem tbB_length (t : Nat → Nat → Bool) : (tbB t).length = 100 := tabB_length _ _
theorem tbB_get {t : Nat → Nat → Bool} {x y : Nat} (hx : x < 10) (hy : y < 10) : (tbB t)[0 + x * 10 + y * 1]? = some (.bool (t x y)) := by
  have e : 0 + x * 10 + y * 1 = x * 10 + y := by omega
  rw [e, tbB, tabB_get (by omega)]
  have e1 : (x * 10 + y) / 10 = x := by omega
  have e2 : (x * 10 + y) % 10 = y := by omega
  rw [e1, e2]
/-- Bools. -/
def boolsC (l : List Bool) : List Value := l.map .bool
theorem boolsC_length (l : List Bool) : (boolsC l).length = l.length := by simp [boolsC]
theorem boolsC_get01 {l : List Bool} {i : Nat} (h : i < l.length) : (boolsC l)[0 + i * 1]? = some (.bool (l.getD i false)) := by
  rw [Nat.zero_add, Nat.mul_one]; simp [boolsC, h]
/-- Rows of equal length, one behind the other. -/
theorem flat_get {α : Type} (f : α → List Value) (z : Nat) : ∀ (l : List α) (i j : Nat), (∀ a ∈ l, (f a).length = z) → (h : i < l.length) → j < z → (l.flatMap f)[i * z + j]? = (f l[i])[j]?
  | a :: l, 0, j, hl, _, hj => by
    simp only [List.flatMap_cons, Nat.zero_mul, Nat.zero_add, List.getElem_cons_zero]
    rw [List.getElem?_append_left (by rw [hl a (by simp)]; exact hj)]
  | a :: l, i + 1, j, hl, h, hj => by
    simp only [List.flatMap_cons, List.getElem_cons_succ]
    have ha := hl a (by simp)
    rw [List.getElem?_append_right (by rw [ha, Nat.add_mul]; omega), ha]
    have := flat_get f z l i j (fun b hb => hl b (by simp [hb])) (by simpa using h) hj
    rw [← this]
    congr 1
    rw [Nat.add_mul]; omega
theorem flat_length {α : Type} (f : α → List Value) (z : Nat) : ∀ (l : List α), (∀ a ∈ l, (f a).length = z) → (l.flatMap f).length = l.length * z
  | [], _ => by simp
  | a :: l, hl => by
    simp only [List.flatMap_cons, List.length_append, List.length_cons]
    rw [hl a (by simp), flat_length f z l (fun b hb => hl b (by simp [hb])), Nat.add_mul]; omega

/-- Places, squares, triples in a row. -/
def plsC (l : List (Nat → Int)) : List Value := l.flatMap fun p => tabI .u8 p 10
theorem plsC_length (l : List (Nat → Int)) : (plsC l).length = l.length * 10 := flat_length _ 10 l fun _ _ => tabI_length _ _ _
theorem plsC_get {l : List (Nat → Int)} {i j : Nat} (h : i < l.length) (hj : j < 10) : (plsC l)[i * 10 + j * 1]? = some (.int .u8 ((l.getD i pl0) j)) := by
  rw [Nat.mul_one, plsC, flat_get _ 10 l i j (fun _ _ => tabI_length _ _ _) h hj, tabI_get hj]
  simp [List.getD_eq_getElem?_getD, h]
theorem plsC_one (l : List (Nat → Int)) : One (plsC l) := fun v hv => by
  simp only [plsC, List.mem_flatMap] at hv
  obtain ⟨p, _, hp⟩ := hv
  exact tabI_one _ _ _ v hp
def sqsC (l : List Sq) : List Value := l.flatMap sqC
theorem sqsC_length (l : List Sq) : (sqsC l).length = l.length * 101 := flat_length _ 101 l fun q _ => sqC_length q
theorem sqsC_get {l : List Sq} {i x y : Nat} (h : i < l.length) (hx : x < 10) (hy : y < 10) : (sqsC l)[i * 101 + 1 + x * 10 + y * 1]? = some (.int .u8 ((l.getD i sq0).t x y)) := by
  have e : i * 101 + 1 + x * 10 + y * 1 = i * 101 + (0 + 1 + x * 10 + y * 1) := by omega
  rw [e, sqsC, flat_get _ 101 l i _ (fun q _ => sqC_length q) h (by omega), sqC_get hx hy]
  simp [List.getD_eq_getElem?_getD, h]
theorem sqsC_ord {l : List Sq} {i : Nat} (h : i < l.length) : (sqsC l)[i * 101 + 0]? = some (.int .i64 (l.getD i sq0).order) := by
  rw [sqsC, flat_get _ 101 l i 0 (fun q _ => sqC_length q) h (by omega)]
  simp [List.getD_eq_getElem?_getD, h, sqC]

structure Tr where
  a : Nat → Int
  b : Nat → Int
  c : Nat → Int
def tr0 : Tr := ⟨pl0, pl0, pl0⟩
def trC (t : Tr) : List Value := tabI .u8 t.a 10 ++ tabI .u8 t.b 10 ++ tabI .u8 t.c 10
theorem trC_length (t : Tr) : (trC t).length = 30 := by simp [trC, tabI_length]
theorem trC_a {t : Tr} {i : Nat} (h : i < 10) : (trC t)[0 + 0 + i * 1]? = some (.int .u8 (t.a i)) := by
  have e : 0 + 0 + i * 1 = i := by omega
  rw [e, trC, List.append_assoc, List.getElem?_append_left (by rw [tabI_length]; exact h), tabI_get h]
theorem trC_b {t : Tr} {i : Nat} (h : i < 10) : (trC t)[0 + 10 + i * 1]? = some (.int .u8 (t.b i)) := by
  have e : 0 + 10 + i * 1 = 10 + i := by omega
  rw [e, trC, List.append_assoc, List.getElem?_append_right (by rw [tabI_length]; omega), tabI_length, Nat.add_sub_cancel_left, List.getElem?_append_left (by rw [tabI_length]; exact h), tabI_get h]
theorem trC_c {t : Tr} {i : Nat} (h : i < 10) : (trC t)[0 + 20 + i * 1]? = some (.int .u8 (t.c i)) := by
  have e : 0 + 20 + i * 1 = 20 + i := by omega
  rw [e, trC, List.getElem?_append_right (by simp [tabI_length]), List.length_append, tabI_length, tabI_length]
  rw [show 20 + i - (10 + 10) = i by omega, tabI_get h]
/-! ### Reading of rows within blocks -/
theorem tabI_some {k : IntKind} {f : Nat → Int} {n i : Nat} {v : Value} (h : (tabI k f n)[i]? = some v) : i < n ∧ v = .int k (f i) := by
  rcases Nat.lt_or_ge i n with hi | hi
  · rw [tabI_get hi] at h; exact ⟨hi, by simpa using h.symm⟩
  · rw [List.getElem?_eq_none (by rw [tabI_length]; exact hi)] at h; cases h
theorem rdTbRow {h : Hp} {b : Nat} {T : TypeId} {t : Nat → Nat → Int} {n x : Nat} (e : h b = some (.own T (tbC t) n)) (hx : x < 10) : ∀ i v, (tabI .u8 (t x) 10)[i]? = some v → rd h b (0 + x * 10 + i) = some v := fun i v hv => by
  obtain ⟨hi, rfl⟩ := tabI_some hv
  rw [rd_own e]
  have := tbC_get (t := t) hx hi
  simpa using this
theorem RdS.rd2 {h : Hp} {A : Option Addr} {xs : List Value} (r : RdS h A xs) {i j : Nat} {v : Value} (hv : xs[i + j]? = some v) : Abs.rd h (Abs.ad A).block ((Abs.ad A).off + i + j) = some v := by
  rw [Nat.add_assoc]; exact r.rd hv
theorem RdS.rd3 {h : Hp} {A : Option Addr} {xs : List Value} (r : RdS h A xs) {i j k l : Nat} {v : Value} (hv : xs[i + j + k + l]? = some v) : Abs.rd h (Abs.ad A).block ((Abs.ad A).off + i + j + k + l) = some v := by
  rw [show (Abs.ad A).off + i + j + k + l = (Abs.ad A).off + (i + j + k + l) by omega]; exact r.rd hv
/-- A byte of a string. -/
def bt (s : ByteArray) (i : Nat) : Int := ((s[i]?).getD 0).toNat
theorem bt_some {s : ByteArray} {i : Nat} (h : i < s.size) : s[i]? = some ((s[i]?).getD 0) := by
  simp [h]
end Go.Abs

/- Regions that draw their order and hold operations that make or write memory. -/
namespace Go.Abs
open Go

section
variable {P : Program} {n : Nat} {D : List Deferred} {ops : List Oper} {kp : Hp}

/-- What an operation keeps: all, if it is not hard; and what 'kp' knows. -/
def HR (kp : Hp) (hard wild : Bool) (h h' : Hp) : Prop := (hard = false → Le h h') ∧ (wild = false → Le kp h → Le kp h')
theorem HR.refl {hard wild : Bool} (h : Hp) : HR kp hard wild h h := ⟨fun _ => Le.refl _, fun _ x => x⟩

/-- Operation 'o' is done; 'hard': what was known before need not be known behind it. -/
def DOp (P : Program) (n : Nat) (D : List Deferred) (ops : List Oper) (kp : Hp) (o : Oper) (hard wild : Bool) (s : Sl) (h : Hp) (K : Sl → Hp → Prop) : Prop :=
  (wants ops s o = some false ∧ K (setS s o.dst undef) h) ∨
  (wants ops s o = some true ∧ (
    (∃ v, QO P n o s h v ∧ K (setS s o.dst v) h) ∨
    (∃ f args, EO P n o s h f args ∧ CC P f args h fun v h' => HR kp hard wild h h' ∧ K (setS s o.dst v) h') ∨
    LO P n D o s h (fun s' h' => HR kp hard wild h h' ∧ ∃ v, s' = setS s o.dst v ∧ K s' h') (fun _ _ _ => False)))

theorem DOp.mono {o : Oper} {hard wild : Bool} {s : Sl} {h : Hp} {K K' : Sl → Hp → Prop} (x : DOp P n D ops kp o hard wild s h K) (hk : ∀ s h, K s h → K' s h) : DOp P n D ops kp o hard wild s h K' := by
  rcases x with ⟨w, k⟩ | ⟨w, ⟨v, q, k⟩ | ⟨f, args, e, c⟩ | ⟨d, l⟩⟩
  · exact .inl ⟨w, hk _ _ k⟩
  · exact .inr ⟨w, .inl ⟨v, q, hk _ _ k⟩⟩
  · exact .inr ⟨w, .inr (.inl ⟨f, args, e, c.mono fun v h' ⟨a, b⟩ => ⟨a, hk _ _ b⟩⟩)⟩
  · refine .inr ⟨w, .inr (.inr ⟨d, fun a w kn H => ?_⟩)⟩
    obtain ⟨u, w', h', r, H', E, k1, v, e, k2⟩ := l a w kn H
    exact ⟨u, w', h', r, H', E, k1, v, e, hk _ _ k2⟩

/-- Knowing more of slots. -/
def Kmore (s s' : Sl) : Prop := ∀ t v, lk s t = some v → lk s' t = some v

theorem Kmore.kn {s s' : Sl} (m : Kmore s s') {a : Act} (kn : Kn n s' a) : Kn n s a := kn.sub m
theorem Kmore.setS {s s' : Sl} (m : Kmore s s') (d : Option Nat) (v : Value) : Kmore (setS s d v) (setS s' d v) := by
  intro t u h
  cases d with
  | none => exact m t u h
  | some d =>
    simp only [Abs.setS, lk_cons] at h ⊢
    split
    · rename_i e; rw [if_pos e] at h; exact h
    · rename_i e; rw [if_neg e] at h; exact m t u h

theorem wants_more {s s' : Sl} (m : Kmore s s') {o : Oper} {b : Bool} (h : wants ops s o = some b) : wants ops s' o = some b := by
  unfold wants at *
  cases hg : o.guard with
  | none => simpa [hg] using h
  | some jw =>
    obtain ⟨j, want⟩ := jw
    simp only [hg] at h ⊢
    cases ht : (ops[j]?).bind (·.dst) with
    | none => simp [ht] at h
    | some t =>
      simp only [ht, Option.bind_some] at h ⊢
      cases hv : lk s t with
      | none => simp [hv] at h
      | some v => rw [m t v hv]; simpa [hv] using h

theorem DOp.more {o : Oper} {hard wild : Bool} {s s' : Sl} {h : Hp} {K : Sl → Hp → Prop} (hK : ∀ s s' h, Kmore s s' → K s h → K s' h) (m : Kmore s s') (x : DOp P n D ops kp o hard wild s h K) : DOp P n D ops kp o hard wild s' h K := by
  rcases x with ⟨w, k⟩ | ⟨w, ⟨v, q, k⟩ | ⟨f, args, e, c⟩ | ⟨d, l⟩⟩
  · exact .inl ⟨wants_more m w, hK _ _ _ (m.setS _ _) k⟩
  · exact .inr ⟨wants_more m w, .inl ⟨v, fun a w kn H => q a w (m.kn kn) H, hK _ _ _ (m.setS _ _) k⟩⟩
  · exact .inr ⟨wants_more m w, .inr (.inl ⟨f, args, fun a w kn H => e a w (m.kn kn) H, c.mono fun v h' ⟨a, b⟩ => ⟨a, hK _ _ _ (m.setS _ _) b⟩⟩)⟩
  · refine .inr ⟨wants_more m w, .inr (.inr ⟨d, fun a w kn H => ?_⟩)⟩
    obtain ⟨u, w', h', r, H', E, k1, v, e, k2⟩ := l a w (m.kn kn) H
    have k3 : K (setS s o.dst u) h' := k2
    have k4 : K (setS s' o.dst u) h' := hK _ _ _ (m.setS _ _) k3
    exact ⟨u, w', h', r, H', E, k1, u, rfl, k4⟩

/-- Whatever order is picked. -/
def DAny (P : Program) (n : Nat) (D : List Deferred) (ops : List Oper) (kp : Hp) (hard wild : List Nat) (Q : Sl → Hp → Prop) : Nat → Array Bool → Sl → Hp → Prop
  | 0, listed, s, h => Region.ready .any ops.toArray listed = [] ∧ Q s h
  | f + 1, listed, s, h => (Region.ready .any ops.toArray listed = [] → Q s h) ∧
    ∀ i ∈ Region.ready .any ops.toArray listed, ∃ o, ops[i]? = some o ∧ DOp P n D ops kp o (hard.contains i) (wild.contains i) s h (DAny P n D ops kp hard wild Q f (listed.setIfInBounds i true))

theorem DAny.more {hard wild : List Nat} {Q : Sl → Hp → Prop} (hQ : ∀ s s' h, Kmore s s' → Q s h → Q s' h) : ∀ (f : Nat) (listed : Array Bool) (s s' : Sl) (h : Hp), Kmore s s' → DAny P n D ops kp hard wild Q f listed s h → DAny P n D ops kp hard wild Q f listed s' h
  | 0, _, _, _, _, m, x => ⟨x.1, hQ _ _ _ m x.2⟩
  | f + 1, listed, s, s', h, m, x => ⟨fun e => hQ _ _ _ m (x.1 e), fun i hi => by
    obtain ⟨o, ho, d⟩ := x.2 i hi
    exact ⟨o, ho, d.more (fun s s' h m k => DAny.more hQ f _ s s' h m k) m⟩⟩

def okDst (n : Nat) (ops : List Oper) : Bool := ops.all fun o => o.dst.all fun d => Nat.ble (d + 1) n

theorem DAny.sound {hard wild : List Nat} {Q : Sl → Hp → Prop} {Q' : Exit → Act → World → Prop} {h0 : Hp} {w0 : World} (hok : okDst n ops = true)
    (hQ : ∀ s h a w, St n D s h h0 w0 a w → Q s h → Q' .normal a w) : ∀ (f : Nat) (listed : Array Bool) (s : Sl) (h : Hp) (a : Act) (w : World), St n D s h h0 w0 a w → DAny P n D ops kp hard wild Q f listed s h → wpAny P .any ops.toArray Q' f listed a w
  | 0, _, _, _, _, _, st, x => ⟨x.1, hQ _ _ _ _ st x.2⟩
  | f + 1, listed, s, h, a, w, st, x => ⟨fun e => hQ _ _ _ _ st (x.1 e), fun i hi => by
    obtain ⟨o, ho, d⟩ := x.2 i hi
    have hd : (o.dst.all fun d => Nat.ble (d + 1) n) = true := List.all_eq_true.1 hok o (List.mem_of_getElem? ho)
    have ih := fun (s : Sl) (h : Hp) (a : Act) (w : World) (st : St n D s h h0 w0 a w) k => DAny.sound (hard := hard) (wild := wild) (Q := Q) (Q' := Q') hok hQ f (listed.setIfInBounds i true) s h a w st k
    obtain ⟨kn, hdf, H, E⟩ := st
    unfold wpOp
    rw [show ops.toArray[i]? = some o by simpa using ho]
    dsimp only
    rcases d with ⟨wt, k⟩ | ⟨wt, d⟩
    · rw [if_neg (by rw [wants_wanted kn wt]; simp)]
      exact ih _ _ _ _ ⟨kn.setS hd undef, by rw [put_defers]; exact hdf, H, E⟩ k
    · rw [if_pos (wants_wanted kn wt)]
      refine .inl ?_
      unfold Oper.wp
      rcases d with ⟨v, q, k⟩ | ⟨g, args, e, c⟩ | ⟨_, l⟩
      · rw [q a w kn H]
        exact ih _ _ _ _ ⟨kn.setS hd v, by rw [put_defers]; exact hdf, H, E⟩ k
      · rw [e a w kn H]
        refine (c w H).mono fun e1 w' ⟨v, h', he, H', E', _, k⟩ => ?_
        subst he
        exact ih _ _ _ _ ⟨kn.setS hd v, by rw [put_defers]; exact hdf, H', E.trans E'⟩ k
      · obtain ⟨u, w', h', r, H', E', _, v, e, k⟩ := l a w kn H
        have st' : St n D (match o.dst with | some d => (d, u) :: s | none => s) h' h0 w0 (a.put o.dst u) w' := ⟨kn.setS hd u, by rw [put_defers]; exact hdf, H', E.trans E'⟩
        rcases r with r | ⟨r, rfl⟩
        · rw [r]; exact ih _ _ _ _ st' k
        · rw [r]; exact ih _ _ _ _ st' k⟩

/-! ### Taking an operation first -/
/-- In (s, h) operation 'o' yields 'v', and what is known stays. -/
def QY (P : Program) (n : Nat) (ops : List Oper) (o : Oper) (s : Sl) (h : Hp) (v : Value) : Prop :=
  (wants ops s o = some false ∧ v = undef) ∨ (wants ops s o = some true ∧ (QO P n o s h v ∨ ∃ f args, EO P n o s h f args ∧ QC P f args h v))

theorem QC.frame {f : FuncId} {args : Array Value} {h h' : Hp} {v : Value} (l : Le h h') (c : QC P f args h v) : QC P f args h' v := fun w H' =>
  (c w (H'.le l)).mono fun e w' ⟨v', h1, he, H1, E, e1, e2⟩ => by
    subst e1; subst e2
    refine ⟨_, h', he, fun b k hb => ?_, ⟨E.size, fun b hb hn => ?_, E.tape, E.os, E.output⟩, rfl, rfl⟩
    · cases hc : h1 b with
      | some k' =>
        have := l b k' hc
        rw [hb] at this
        cases this
        exact H1 b _ hc
      | none => exact (H' b k hb).congr (E.same b (H' b k hb).lt hc).1
    · have hnone : h1 b = none := by
        cases hc : h1 b with
        | none => rfl
        | some k' => have := l b k' hc; rw [hn] at this; cases this
      exact ⟨(E.same b hb hnone).1, hn⟩

theorem QY.le {o : Oper} {s : Sl} {h h' : Hp} {v : Value} (l : Le h h') (q : QY P n ops o s h v) : QY P n ops o s h' v := by
  rcases q with q | ⟨w, q | ⟨f, args, e, c⟩⟩
  · exact .inl q
  · exact .inr ⟨w, .inl fun a w kn H => q a w kn (H.le l)⟩
  · exact .inr ⟨w, .inr ⟨f, args, fun a w kn H => e a w kn (H.le l), c.frame l⟩⟩

theorem wants_put {s : Sl} {o : Oper} {d : Option Nat} {v : Value} (h : ∀ t, d = some t → t ∉ o.looksAt ops.toArray) : wants ops (setS s d v) o = wants ops s o := by
  cases d with
  | none => rfl
  | some t =>
    unfold wants
    cases hg : o.guard with
    | none => rfl
    | some jw =>
      obtain ⟨j, want⟩ := jw
      simp only []
      cases ht : (ops[j]?).bind (·.dst) with
      | none => rfl
      | some t' =>
        have hne : t ≠ t' := fun e => h t rfl (by subst e; simp [Oper.looksAt, hg, ht])
        simp only [Option.bind_some, setS, lk_cons, if_neg hne]

theorem Kn.unset {s : Sl} {d : Option Nat} {u : Value} {a : Act} (kn : Kn n (Abs.setS s d u) a) (hd : (d.all fun d => Nat.ble (d + 1) n) = true) : ∃ w, Kn n s (a.put d w) := by
  cases d with
  | none => exact ⟨undef, kn⟩
  | some d =>
    have hlt : d < n := Nat.le_of_ble_eq_true (by simpa using hd)
    refine ⟨(lk s d).getD undef, ⟨by simp [Act.put, kn.size], fun t v hv => ?_⟩⟩
    by_cases e : d = t
    · subst e
      simp [Act.put, kn.size, hlt, hv]
    · have := kn.known t v (by simp only [Abs.setS, lk_cons, if_neg e]; exact hv)
      simpa [Act.put, Array.getElem?_setIfInBounds_ne e] using this

theorem QY.put {oi oj : Oper} {s : Sl} {h : Hp} {v u : Value} (hs : ∀ cs b, oi.op ≠ .select cs b) (hl : ∀ t, oj.dst = some t → t ∉ oi.looksAt ops.toArray) (hd : (oj.dst.all fun d => Nat.ble (d + 1) n) = true)
    (q : QY P n ops oi s h v) : QY P n ops oi (setS s oj.dst u) h v := by
  have key : ∀ {R : Sem Next → World → Prop}, (∀ a w, Kn n s a → Has h w → R (execOp a.eval oi) w) → ∀ a w, Kn n (setS s oj.dst u) a → Has h w → R (execOp a.eval oi) w := fun hR a w kn H => by
    obtain ⟨x, kn'⟩ := kn.unset hd
    have := hR _ w kn' H
    rwa [execOp_put (ops := ops.toArray) oi hs a oj.dst x hl] at this
  rcases q with ⟨w, e⟩ | ⟨w, q | ⟨f, args, e, c⟩⟩
  · exact .inl ⟨by rw [wants_put hl]; exact w, e⟩
  · exact .inr ⟨by rw [wants_put hl]; exact w, .inl fun a w kn H => key (R := fun x w => x.run P w = .ok (.value v) w) q a w kn H⟩
  · exact .inr ⟨by rw [wants_put hl]; exact w, .inr ⟨f, args, fun a w kn H => key (R := fun x w => x.run P w = .ok (.enter f args) w) e a w kn H, c⟩⟩

/-- What is done after 'oi' may be done before it. -/
theorem DOp.unput {oi oj : Oper} {hard wild : Bool} {s : Sl} {h : Hp} {v : Value} {K : Sl → Hp → Prop} (hs : ∀ cs b, oj.op ≠ .select cs b) (hl : ∀ t, oi.dst = some t → t ∉ oj.looksAt ops.toArray) (hd : (oi.dst.all fun d => Nat.ble (d + 1) n) = true)
    (x : DOp P n D ops kp oj hard wild (setS s oi.dst v) h K) : DOp P n D ops kp oj hard wild s h (fun s2 h2 => HR kp hard wild h h2 ∧ ∃ u, s2 = setS s oj.dst u ∧ K (setS (setS s oi.dst v) oj.dst u) h2) := by
  have key : ∀ {R : Sem Next → World → Prop}, (∀ a w, Kn n (setS s oi.dst v) a → Has h w → R (execOp a.eval oj) w) → ∀ a w, Kn n s a → Has h w → R (execOp a.eval oj) w := fun hR a w kn H => by
    have := hR _ w (kn.setS hd v) H
    rwa [execOp_put (ops := ops.toArray) oj hs a oi.dst v hl] at this
  rcases x with ⟨w, k⟩ | ⟨w, ⟨u, q, k⟩ | ⟨f, args, e, c⟩ | ⟨d, l⟩⟩
  · exact .inl ⟨by rw [← wants_put (v := v) hl]; exact w, HR.refl _, _, rfl, k⟩
  · exact .inr ⟨by rw [← wants_put (v := v) hl]; exact w, .inl ⟨u, key (R := fun x w => x.run P w = .ok (.value u) w) q, HR.refl _, _, rfl, k⟩⟩
  · exact .inr ⟨by rw [← wants_put (v := v) hl]; exact w, .inr (.inl ⟨f, args, key (R := fun x w => x.run P w = .ok (.enter f args) w) e, c.mono fun u h' ⟨a, b⟩ => ⟨a, a, _, rfl, b⟩⟩)⟩
  · refine .inr ⟨by rw [← wants_put (v := v) hl]; exact w, .inr (.inr ⟨d, fun a w kn H => ?_⟩)⟩
    obtain ⟨u, w', h', r, H', E, k1, v', e, k2⟩ := l _ w (kn.setS hd v) H
    rw [execOp_put (ops := ops.toArray) oj hs a oi.dst v hl] at r
    exact ⟨u, w', h', r, H', E, k1, u, rfl, k1, u, rfl, k2⟩

/-- j waits for i. -/
def waits (ops : List Oper) (i : Nat) : Nat → Nat → Bool
  | 0, _ => false
  | f + 1, j => match ops[j]? with
    | none => false
    | some o => o.after.any fun e => Region.binds .any e && (e.on == i || waits ops i f e.on)

/-- What has been done has all done that it waited for. -/
def Closed (ops : List Oper) (listed : Array Bool) : Prop :=
  ∀ (j : Nat) (o : Oper), ops[j]? = some o → listed.getD j false = true → ∀ e ∈ o.after, Region.binds .any e = true → listed.getD e.on false = true

theorem waits_listed {listed : Array Bool} (hc : Closed ops listed) {i : Nat} : ∀ (f j : Nat) (o : Oper), ops[j]? = some o → (∀ e ∈ o.after, Region.binds .any e = true → listed.getD e.on false = true) → waits ops i f j = true → listed.getD i false = true
  | 0, _, _, _, _, hw => by simp [waits] at hw
  | f + 1, j, o, ho, hp, hw => by
    simp only [waits, ho] at hw
    obtain ⟨e, he, hb⟩ := Array.any_eq_true'.1 hw
    simp only [Bool.and_eq_true, Bool.or_eq_true, beq_iff_eq] at hb
    have hl := hp e he hb.1
    rcases hb.2 with h | h
    · rw [← h]; exact hl
    · cases ho' : ops[e.on]? with
      | none =>
        exfalso
        cases f with
        | zero => simp [waits] at h
        | succ f => simp [waits, ho'] at h
      | some o' => exact waits_listed hc f e.on o' ho' (fun e' he' hb' => hc e.on o' ho' hl e' he' hb') h

theorem Closed.set {listed : Array Bool} (hc : Closed ops listed) {i : Nat} (hi : i ∈ Region.ready .any ops.toArray listed) : Closed ops (listed.setIfInBounds i true) := by
  intro j o ho hj e he hb
  obtain ⟨_, o', ho', hall⟩ := mem_ready.1 hi
  by_cases hij : i = j
  · subst hij
    have : o' = o := by
      have h1 : ops[i]? = some o' := by simpa using ho'
      rw [ho] at h1; exact (Option.some.inj h1).symm
    subst this
    exact getD_set_true (hall e he hb)
  · rw [getD_set_ne false hij] at hj
    exact getD_set_true (hc j o ho hj e he hb)

theorem setS_swap {s : Sl} {x y : Option Nat} {v u : Value} (h : ∀ d, x = some d → y ≠ some d) : Kmore (setS (setS s x v) y u) (setS (setS s y u) x v) := by
  intro t w hw
  cases x with
  | none => exact hw
  | some d =>
    cases y with
    | none => exact hw
    | some e =>
      have hne : d ≠ e := fun he => h d rfl (by rw [he])
      simp only [setS, lk_cons] at hw ⊢
      by_cases h1 : e = t
      · subst h1
        rw [if_pos rfl] at hw
        rw [if_neg hne, if_pos rfl]; exact hw
      · rw [if_neg h1] at hw
        rw [if_neg h1]; exact hw

/-- An operation that may come up now may be taken first. -/
theorem DAny.first {hard wild : List Nat} {Q : Sl → Hp → Prop} (hQ : ∀ s s' h, Kmore s s' → Q s h → Q s' h) (hok : okDst n ops = true) {i : Nat} {oi : Oper} {v : Value} (hi : ops[i]? = some oi) (hsel : Region.noSelect ops.toArray = true) (L : List Nat) (F : Nat) (G : Hp → Prop) (hG : ∀ j h1 h2, L.contains j = false → HR kp (hard.contains j) (wild.contains j) h1 h2 → G h1 → G h2) :
    ∀ (fuel : Nat) (listed : Array Bool) (s : Sl) (h : Hp), Closed ops listed →
      (∀ j oj, ops[j]? = some oj → j ≠ i → listed.getD j true = false → (∀ e ∈ oj.after, Region.binds .any e = true → e.on ≠ i) → oi.apart ops.toArray oj = true) →
      (∀ j ∈ L, j ≠ i → listed.getD j true = false → waits ops i F j = true) →
      i ∈ Region.ready .any ops.toArray listed → G h → (∀ h', G h' → QY P n ops oi s h' v) →
      DAny P n D ops kp hard wild Q fuel (listed.setIfInBounds i true) (setS s oi.dst v) h → DAny P n D ops kp hard wild Q (fuel + 1) listed s h := by
  have hsi := Region.noSelect_spec hsel
  have hdi : (oi.dst.all fun d => Nat.ble (d + 1) n) = true := List.all_eq_true.1 hok oi (List.mem_of_getElem? hi)
  have doI : ∀ {s h} {K : Sl → Hp → Prop} {hd wd : Bool}, QY P n ops oi s h v → K (setS s oi.dst v) h → DOp P n D ops kp oi hd wd s h K := by
    intro s h K hd wd q k
    rcases q with ⟨w, e⟩ | ⟨w, q | ⟨f, args, e, c⟩⟩
    · subst e; exact .inl ⟨w, k⟩
    · exact .inr ⟨w, .inl ⟨v, q, k⟩⟩
    · exact .inr ⟨w, .inr (.inl ⟨f, args, e, QC.cc c ⟨HR.refl _, k⟩⟩)⟩
  intro fuel
  induction fuel with
  | zero =>
    intro listed s h _ _ _ hr g hq H
    have q := hq h g
    refine ⟨fun e => (by rw [e] at hr; cases hr), fun j hj => ?_⟩
    by_cases hji : j = i
    · subst hji; exact ⟨oi, hi, doI q H⟩
    · have := ready_mono hj hji
      rw [H.1] at this; cases this
  | succ fuel ih =>
    intro listed s h hc hfree hwait hr g hq H
    have q := hq h g
    refine ⟨fun e => (by rw [e] at hr; cases hr), fun j hj => ?_⟩
    by_cases hji : j = i
    · subst hji; exact ⟨oi, hi, doI q H⟩
    · obtain ⟨oj, hoj, hd⟩ := H.2 j (ready_mono hj hji)
      obtain ⟨hjun, oj', hoj', hall⟩ := mem_ready.1 hj
      have e' : oj' = oj := by
        have h1 : ops[j]? = some oj' := by simpa using hoj'
        rw [hoj] at h1; exact (Option.some.inj h1).symm
      subst e'
      have hiun : listed.getD i true = false := (mem_ready.1 hr).1
      have hifalse : listed.getD i false ≠ true := fun h1 => by
        rcases Nat.lt_or_ge i listed.size with h' | h'
        · simp [h'] at hiun h1; rw [hiun] at h1; cases h1
        · simp [Array.getElem?_eq_none h'] at h1
      have hnot : ∀ e ∈ oj'.after, Region.binds .any e = true → e.on ≠ i := fun e he hb heq => hifalse (by rw [← heq]; exact hall e he hb)
      obtain ⟨h1, h2, h3⟩ := Oper.apart_spec (hfree j oj' hoj hji hjun hnot)
      have hdj : (oj'.dst.all fun d => Nat.ble (d + 1) n) = true := List.all_eq_true.1 hok oj' (List.mem_of_getElem? hoj)
      refine ⟨oj', hoj, (hd.unput (fun cs b => hsi j oj' cs b (by simpa using hoj)) h1 hdi).mono ?_⟩
      rintro s2 h2' ⟨hle, u, rfl, hk⟩
      have hfree' : ∀ k ok, ops[k]? = some ok → k ≠ i → (listed.setIfInBounds j true).getD k true = false → (∀ e ∈ ok.after, Region.binds .any e = true → e.on ≠ i) → oi.apart ops.toArray ok = true := fun k ok hk hki hun hno => by
        refine hfree k ok hk hki ?_ hno
        by_cases hjk : j = k
        · subst hjk; exact hjun
        · rw [getD_set_ne true hjk] at hun; exact hun
      have hwait' : ∀ k ∈ L, k ≠ i → (listed.setIfInBounds j true).getD k true = false → waits ops i F k = true := fun k hk hki hun => by
        refine hwait k hk hki ?_
        by_cases hjk : j = k
        · subst hjk; exact hjun
        · rw [getD_set_ne true hjk] at hun; exact hun
      have g2 : G h2' := by
        refine hG j _ _ ?_ hle g
        cases hh : L.contains j with
        | false => rfl
        | true =>
          exfalso
          have hmem : j ∈ L := by simpa using hh
          exact hifalse (waits_listed hc F j oj' hoj hall (hwait j hmem hji hjun))
      refine ih (listed.setIfInBounds j true) _ h2' (hc.set hj) hfree' hwait' (ready_mono hr (Ne.symm hji)) g2 (fun h' g' => (hq h' g').put (fun cs b => hsi i oi cs b (by simpa using hi)) h3 hdj) ?_
      rw [Array.setIfInBounds_comm _ _ hji]
      exact DAny.more hQ _ _ _ _ _ (setS_swap h2) hk

/-! ### The moves -/
def mono (Q : Sl → Hp → Prop) : Sl → Hp → Prop := fun s h => ∃ s1, Kmore s1 s ∧ Q s1 h
theorem mono.more {Q : Sl → Hp → Prop} : ∀ s s' h, Kmore s s' → mono Q s h → mono Q s' h := fun _ _ _ m ⟨s1, m1, q⟩ => ⟨s1, fun t v e => m t v (m1 t v e), q⟩

/-- Begin. -/
theorem wpA_any {id : Nat} {Q : Exit → Sl → Hp → Prop} {s : Sl} {h : Hp} (kp : Hp) (hard wild : List Nat) (hm : P.follows .mixedOrders = true) (hok : okDst n ops = true)
    (x : DAny P n D ops kp hard wild (mono fun s' h' => Q .normal s' h') ops.length (Array.replicate ops.length false) s h) : wpA P n D (.region id ops.toArray true) s h Q := by
  rintro h0 w0 a w ⟨kn, hd, H, e⟩
  refine wp_region_any hm ?_
  have := DAny.sound (D := D) (Q' := fun e a' w' => ∃ s' h', Q e s' h' ∧ St n D s' h' h0 w0 a' w') (h0 := h0) (w0 := w0) hok ?_ ops.length (Array.replicate ops.length false) s h a { w with drawn := w.drawn + 1 }
    ⟨kn, hd, fun b k hb => HasB.congr (w := w) (w' := { w with drawn := w.drawn + 1 }) rfl (H b k hb), ⟨e.size, e.same, e.tape, e.os, e.output⟩⟩ x
  · simpa using this
  · rintro s' h' a' w' ⟨kn', hd', H', e'⟩ ⟨s1, m1, q⟩
    exact ⟨s1, h', q, kn'.sub m1, hd', H', e'⟩

theorem Closed.start : Closed ops (Array.replicate ops.length false) := fun j o ho hj => by
  exfalso
  have hlt : j < ops.length := (List.getElem?_eq_some_iff.1 ho).1
  simp [hlt] at hj

/-- Which operations wait, as one Bool. -/
def waitsB (ops : List Oper) (hard : List Nat) (listed : Array Bool) (i : Nat) : Bool :=
  hard.all fun j => j == i || listed.getD j true || waits ops i ops.length j

theorem waitsB_spec {hard : List Nat} {listed : Array Bool} {i : Nat} (h : waitsB ops hard listed i = true) : ∀ j ∈ hard, j ≠ i → listed.getD j true = false → waits ops i ops.length j = true := fun j hj hji hl => by
  have := List.all_eq_true.1 h j hj
  simp only [Bool.or_eq_true, beq_iff_eq, hji, false_or, hl, Bool.false_eq_true] at this
  exact this

/-- The state of the walk through such a region: what has been done is closed. -/
def DW (P : Program) (n : Nat) (D : List Deferred) (ops : List Oper) (kp : Hp) (hard wild : List Nat) (Q : Sl → Hp → Prop) (f : Nat) (listed : Array Bool) (s : Sl) (h : Hp) : Prop :=
  Closed ops listed → DAny P n D ops kp hard wild (mono Q) f listed s h

theorem DW.start {hard wild : List Nat} {Q : Sl → Hp → Prop} {s : Sl} {h : Hp} (x : DW P n D ops kp hard wild Q ops.length (Array.replicate ops.length false) s h) : DAny P n D ops kp hard wild (mono Q) ops.length (Array.replicate ops.length false) s h := x Closed.start

/-- One that is pure (it looks at no memory) is taken first. -/
theorem DW.pure {hard wild : List Nat} {Q : Sl → Hp → Prop} {f : Nat} {listed : Array Bool} {s : Sl} {h : Hp} (i : Nat) {oi : Oper} (v : Value) (hi : ops[i]? = some oi) (hok : okDst n ops = true) (hsel : Region.noSelect ops.toArray = true) (hfree : Region.free .any ops.toArray listed i = true) (hr : (Region.ready .any ops.toArray listed).contains i = true)
    (g : wants ops s oi = some true) (q : ∀ h', QO P n oi s h' v) (x : DW P n D ops kp hard wild Q f (listed.setIfInBounds i true) (setS s oi.dst v) h) : DW P n D ops kp hard wild Q (f + 1) listed s h := fun hc => by
  have hr' : i ∈ Region.ready .any ops.toArray listed := by simpa using hr
  exact DAny.first mono.more hok hi hsel [] 0 (fun _ => True) (fun _ _ _ _ _ _ => trivial) f listed s h hc (fun j oj hj => Region.free_spec (by simpa using hi) hfree j oj (by simpa using hj)) (by simp) hr' trivial (fun h' _ => .inr ⟨g, .inl (q h')⟩) (x (hc.set hr'))
/-- One whose guard says no. -/
theorem DW.skip {hard wild : List Nat} {Q : Sl → Hp → Prop} {f : Nat} {listed : Array Bool} {s : Sl} {h : Hp} (i : Nat) {oi : Oper} (hi : ops[i]? = some oi) (hok : okDst n ops = true) (hsel : Region.noSelect ops.toArray = true) (hfree : Region.free .any ops.toArray listed i = true) (hr : (Region.ready .any ops.toArray listed).contains i = true)
    (g : wants ops s oi = some false) (x : DW P n D ops kp hard wild Q f (listed.setIfInBounds i true) (setS s oi.dst undef) h) : DW P n D ops kp hard wild Q (f + 1) listed s h := fun hc => by
  have hr' : i ∈ Region.ready .any ops.toArray listed := by simpa using hr
  exact DAny.first mono.more hok hi hsel [] 0 (fun _ => True) (fun _ _ _ _ _ _ => trivial) f listed s h hc (fun j oj hj => Region.free_spec (by simpa using hi) hfree j oj (by simpa using hj)) (by simp) hr' trivial (fun h' _ => .inl ⟨g, rfl⟩) (x (hc.set hr'))
/-- One that reads. -/
theorem DW.read {hard wild : List Nat} {Q : Sl → Hp → Prop} {f : Nat} {listed : Array Bool} {s : Sl} {h : Hp} (i : Nat) {oi : Oper} (v : Value) (hi : ops[i]? = some oi) (hok : okDst n ops = true) (hsel : Region.noSelect ops.toArray = true) (hfree : Region.free .any ops.toArray listed i = true) (hr : (Region.ready .any ops.toArray listed).contains i = true)
    (hw : waitsB ops hard listed i = true) (g : wants ops s oi = some true) (q : QO P n oi s h v) (x : DW P n D ops kp hard wild Q f (listed.setIfInBounds i true) (setS s oi.dst v) h) : DW P n D ops kp hard wild Q (f + 1) listed s h := fun hc => by
  have hr' : i ∈ Region.ready .any ops.toArray listed := by simpa using hr
  exact DAny.first mono.more hok hi hsel hard ops.length (fun h' => Le h h') (fun _ _ _ e r g => g.trans (r.1 e)) f listed s h hc (fun j oj hj => Region.free_spec (by simpa using hi) hfree j oj (by simpa using hj)) (waitsB_spec hw) hr' (Le.refl _) (fun h' l => QY.le l (.inr ⟨g, .inl q⟩)) (x (hc.set hr'))
/-- A call that leaves alone what is known. -/
theorem DW.qcall {hard wild : List Nat} {Q : Sl → Hp → Prop} {f : Nat} {listed : Array Bool} {s : Sl} {h : Hp} (i : Nat) {oi : Oper} (g : FuncId) (args : Array Value) (v : Value) (hi : ops[i]? = some oi) (hok : okDst n ops = true) (hsel : Region.noSelect ops.toArray = true) (hfree : Region.free .any ops.toArray listed i = true) (hr : (Region.ready .any ops.toArray listed).contains i = true)
    (hw : waitsB ops hard listed i = true) (gd : wants ops s oi = some true) (e : EO P n oi s h g args) (c : QC P g args h v) (x : DW P n D ops kp hard wild Q f (listed.setIfInBounds i true) (setS s oi.dst v) h) : DW P n D ops kp hard wild Q (f + 1) listed s h := fun hc => by
  have hr' : i ∈ Region.ready .any ops.toArray listed := by simpa using hr
  exact DAny.first mono.more hok hi hsel hard ops.length (fun h' => Le h h') (fun _ _ _ e r g => g.trans (r.1 e)) f listed s h hc (fun j oj hj => Region.free_spec (by simpa using hi) hfree j oj (by simpa using hj)) (waitsB_spec hw) hr' (Le.refl _) (fun h' l => QY.le l (.inr ⟨gd, .inr ⟨g, args, e, c⟩⟩)) (x (hc.set hr'))
/-- One that reads what no operation of the region changes. -/
theorem DW.readK {hard wild : List Nat} {Q : Sl → Hp → Prop} {f : Nat} {listed : Array Bool} {s : Sl} {h : Hp} (i : Nat) {oi : Oper} (v : Value) (hi : ops[i]? = some oi) (hok : okDst n ops = true) (hsel : Region.noSelect ops.toArray = true) (hfree : Region.free .any ops.toArray listed i = true) (hr : (Region.ready .any ops.toArray listed).contains i = true)
    (hw : waitsB ops wild listed i = true) (g : wants ops s oi = some true) (l : Le kp h) (q : QO P n oi s kp v) (x : DW P n D ops kp hard wild Q f (listed.setIfInBounds i true) (setS s oi.dst v) h) : DW P n D ops kp hard wild Q (f + 1) listed s h := fun hc => by
  have hr' : i ∈ Region.ready .any ops.toArray listed := by simpa using hr
  exact DAny.first mono.more hok hi hsel wild ops.length (fun h' => Le kp h') (fun _ _ _ e r g => r.2 e g) f listed s h hc (fun j oj hj => Region.free_spec (by simpa using hi) hfree j oj (by simpa using hj)) (waitsB_spec hw) hr' l (fun h' l => QY.le l (.inr ⟨g, .inl q⟩)) (x (hc.set hr'))
/-- The only one that may come up: it makes or writes memory. -/
theorem DW.loud {hard wild : List Nat} {Q : Sl → Hp → Prop} {f : Nat} {listed : Array Bool} {s : Sl} {h : Hp} (i : Nat) {oi : Oper} (hi : ops[i]? = some oi) (hr : Region.ready .any ops.toArray listed = [i]) (hh : hard.contains i = true)
    (g : wants ops s oi = some true) (l : LO P n D oi s h (fun s' h' => (wild.contains i = false → Le kp h') ∧ DW P n D ops kp hard wild Q f (listed.setIfInBounds i true) s' h') (fun _ _ _ => False)) : DW P n D ops kp hard wild Q (f + 1) listed s h := fun hc => by
  refine ⟨fun e => (by rw [hr] at e; cases e), fun j hj => ?_⟩
  have hi' : i ∈ Region.ready .any ops.toArray listed := by rw [hr]; simp
  rw [hr] at hj
  obtain rfl : j = i := by simpa using hj
  refine ⟨oi, hi, .inr ⟨g, .inr (.inr ⟨l.1, fun a w kn H => ?_⟩)⟩⟩
  obtain ⟨u, w', h', r, H', E, kl, k⟩ := l.2 a w kn H
  exact ⟨u, w', h', r, H', E, ⟨fun e => absurd (hh.symm.trans e) (by decide), fun e _ => kl e⟩, u, rfl, k (hc.set hi')⟩
/-- The only one that may come up: a call. -/
theorem DW.call {hard wild : List Nat} {Q : Sl → Hp → Prop} {f : Nat} {listed : Array Bool} {s : Sl} {h : Hp} (i : Nat) {oi : Oper} (fn : FuncId) (args : Array Value) (hi : ops[i]? = some oi) (hr : Region.ready .any ops.toArray listed = [i]) (hh : hard.contains i = true)
    (g : wants ops s oi = some true) (e : EO P n oi s h fn args) (c : CC P fn args h fun v h' => (wild.contains i = false → Le kp h') ∧ DW P n D ops kp hard wild Q f (listed.setIfInBounds i true) (setS s oi.dst v) h') : DW P n D ops kp hard wild Q (f + 1) listed s h := fun hc => by
  refine ⟨fun e => (by rw [hr] at e; cases e), fun j hj => ?_⟩
  have hi' : i ∈ Region.ready .any ops.toArray listed := by rw [hr]; simp
  rw [hr] at hj
  obtain rfl : j = i := by simpa using hj
  exact ⟨oi, hi, .inr ⟨g, .inr (.inl ⟨fn, args, e, c.mono fun v h' ⟨kl, k⟩ => ⟨⟨fun e => absurd (hh.symm.trans e) (by decide), fun e _ => kl e⟩, k (hc.set hi')⟩⟩)⟩⟩
theorem DW.done {hard wild : List Nat} {Q : Sl → Hp → Prop} {listed : Array Bool} {s : Sl} {h : Hp} (hr : Region.ready .any ops.toArray listed = []) (q : Q s h) (f : Nat) : DW P n D ops kp hard wild Q f listed s h := fun _ => by
  cases f with
  | zero => exact ⟨hr, s, fun _ _ e => e, q⟩
  | succ f => exact ⟨fun _ => ⟨s, fun _ _ e => e, q⟩, by rw [hr]; simp⟩
end
end Go.Abs

/- More laws of operations: parts of values, texts, function values, blocks that a call changes. -/
namespace Go.Abs
open Go

theorem Ext.fromLe {h hs h' : Hp} {w w' : World} (e : Ext hs w h' w') (l : Le hs h) : Ext h w h' w' :=
  ⟨e.size, fun b hb hn => e.same b hb (by
    cases hc : hs b with
    | none => rfl
    | some k => rw [l b k hc] at hn; exact absurd hn (by simp)), e.tape, e.os, e.output⟩

theorem CC.atLe {P : Program} {f : FuncId} {args : Array Value} {h hs : Hp} {K : Value → Hp → Prop} (c : CC P f args hs K) (l : Le hs h) : CC P f args h K :=
  fun w H => (c w (H.le l)).mono fun _ _ ⟨v, h', a, b, e, k⟩ => ⟨v, h', a, b, e.fromLe l, k⟩

section
variable {P : Program} {n : Nat} {D : List Deferred} {o : Oper} {s : Sl} {h : Hp}

theorem QO.concat {t t' : TypeId} {x y : Operand} {a b : ByteArray} (ho : o.op = .binOp .add t x y t') (hx : ev s x = some (.string a)) (hy : ev s y = some (.string b)) (hl : a.size + b.size ≤ 9223372036854775807) :
    QO P n o s h (.string (a ++ b)) := fun ac w kn H => by
  simp only [execOp, ho, kn.eval hx, kn.eval hy]
  have : ¬ (9223372036854775807 < (a.size : Int) + (b.size : Int)) := by omega
  simp [eqGuard_at_string, binOp, Op.stringOp, this]

theorem QO.strSlice {t : TypeId} {x lo hi : Operand} {a : ByteArray} {k k' : IntKind} {i j : Int} {z : Nat} (ho : o.op = .slice t x (some lo) (some hi) none) (ht : Sz P t .string z) (hx : ev s x = some (.string a)) (hi1 : ev s lo = some (.int k i)) (hj1 : ev s hi = some (.int k' j))
    (h0 : 0 ≤ i) (h1 : i ≤ j) (h2 : j ≤ a.size) : QO P n o s h (.string (a.extract i.toNat j.toNat)) := fun ac w kn H => by
  simp only [execOp, ho]
  have : 0 ≤ j := by omega
  obtain ⟨j, rfl⟩ : ∃ m : Nat, j = m := ⟨j.toNat, by omega⟩
  have h4 : j ≤ a.size := by omega
  simp [kn.eval hx, kn.eval hi1, kn.eval hj1, Instr.sliceAt, Instr.slice, run_underlying ht.1, Instr.sliceBounds, Instr.sliceBound, asIntOf, h0, h1, h4]
theorem QO.strFrom {t : TypeId} {x lo : Operand} {a : ByteArray} {k : IntKind} {i : Int} {z : Nat} (ho : o.op = .slice t x (some lo) none none) (ht : Sz P t .string z) (hx : ev s x = some (.string a)) (hi1 : ev s lo = some (.int k i))
    (h0 : 0 ≤ i) (h1 : i ≤ a.size) : QO P n o s h (.string (a.extract i.toNat a.size)) := fun ac w kn H => by
  simp only [execOp, ho]
  simp [kn.eval hx, kn.eval hi1, Instr.sliceAt, Instr.slice, run_underlying ht.1, Instr.sliceBounds, Instr.sliceBound, asIntOf, h0, h1]
theorem QO.strTo {t : TypeId} {x hi : Operand} {a : ByteArray} {k : IntKind} {j : Int} {z : Nat} (ho : o.op = .slice t x none (some hi) none) (ht : Sz P t .string z) (hx : ev s x = some (.string a)) (hi1 : ev s hi = some (.int k j))
    (h0 : 0 ≤ j) (h1 : j ≤ a.size) : QO P n o s h (.string (a.extract 0 j.toNat)) := fun ac w kn H => by
  simp only [execOp, ho]
  simp [kn.eval hx, kn.eval hi1, Instr.sliceAt, Instr.slice, run_underlying ht.1, Instr.sliceBounds, Instr.sliceBound, asIntOf, h0, h1]

/-- The text of some bytes. -/
def strOf (l : List Int) : ByteArray := l.foldl (fun r n => r.push (UInt8.ofNat n.toNat)) ByteArray.empty

theorem QO.bytesStr {t t' e : TypeId} {x : Operand} {A : Option Addr} {l : List Int} {m c z z' z2 : Nat} (ho : o.op = .convert t t' x) (ht : Sz P t (.slice e) z) (he : Sz P e (.int .u8) z2) (ht' : Sz P t' .string z') (hx : ev s x = some (.slice A m c))
    (hm : l.length = m) (r : RdS h A (ints .u8 l)) : QO P n o s h (.string (strOf l)) := fun ac w kn H => by
  simp only [execOp, ho, kn.eval hx]
  have hc := run_convert_bytes_string (P := P) w t t' e A m c ht.1 he.1 ht'.1
  cases l with
  | nil =>
    subst hm
    cases A with
    | none => simp only [Sem.run_bind, hc, Result.andThen]; rfl
    | some a =>
      have := run_bytesToString (P := P) w a 0 c [] (by simp [loadCells, loadCellsFrom])
      simp only [List.length_nil] at hc ⊢
      simp only [Sem.run_bind, hc, this, Result.andThen]; rfl
  | cons y ys =>
    obtain ⟨b, off, rfl, _⟩ := r 0 (.int .u8 y) (by simp [ints])
    have h1 := run_loadCells_list (P := P) w ⟨b, off, none⟩ (ints .u8 (y :: ys)) (fun j v hv => by
      obtain ⟨b', off', e', hr⟩ := r j v hv
      cases e'
      rw [Addr.add_mid]
      exact H.rd hr)
    have hl : (ints .u8 (y :: ys)).length = m := by rw [← hm]; simp [ints]
    rw [hl] at h1
    have := run_bytesToString (P := P) w ⟨b, off, none⟩ m c (y :: ys) (by rw [h1]; rfl)
    simp only [Sem.run_bind, hc, this, Result.andThen]; rfl
end

/-- Two ways by a bool. -/
theorem DW.split {P : Program} {n : Nat} {D : List Deferred} {ops : List Oper} {kp : Hp} {hard wild : List Nat} {Q : Sl → Hp → Prop} {f : Nat} {listed : Array Bool} {s : Sl} {h : Hp} {b : Bool} (t : Nat) (e : lk s t = some (.bool b))
    (ht : b = true → DW P n D ops kp hard wild Q f listed ((t, .bool true) :: s) h) (hf : b = false → DW P n D ops kp hard wild Q f listed ((t, .bool false) :: s) h) : DW P n D ops kp hard wild Q f listed s h := fun hc => by
  have m : Kmore ((t, .bool b) :: s) s := fun t' v hv => by
    rw [lk_cons] at hv
    by_cases ht' : t = t'
    · subst ht'; simp only [if_true, Option.some.injEq] at hv; rw [e, hv]
    · rw [if_neg ht'] at hv; exact hv
  cases b with
  | true => exact DAny.more mono.more _ _ _ _ _ m (ht rfl hc)
  | false => exact DAny.more mono.more _ _ _ _ _ m (hf rfl hc)

/-- What a step first in a drawn region asks of the region's text. -/
def fstB (n : Nat) (ops : List Oper) (listed : Array Bool) (i : Nat) : Bool :=
  okDst n ops && Region.noSelect ops.toArray && Region.free .any ops.toArray listed i && (Region.ready .any ops.toArray listed).contains i

section
variable {P : Program} {n : Nat} {D : List Deferred} {ops : List Oper} {kp : Hp} {hard wild : List Nat} {Q : Sl → Hp → Prop} {f : Nat} {listed : Array Bool} {s : Sl} {h : Hp}
theorem fstB_spec {i : Nat} (c : fstB n ops listed i = true) : okDst n ops = true ∧ Region.noSelect ops.toArray = true ∧ Region.free .any ops.toArray listed i = true ∧ (Region.ready .any ops.toArray listed).contains i = true := by
  simp only [fstB, Bool.and_eq_true] at c
  exact ⟨c.1.1.1, c.1.1.2, c.1.2, c.2⟩
theorem DW.pure' (i : Nat) {oi : Oper} (v : Value) (hi : ops[i]? = some oi) (c : fstB n ops listed i = true) (g : wants ops s oi = some true) (q : ∀ h', QO P n oi s h' v)
    (x : DW P n D ops kp hard wild Q f (listed.setIfInBounds i true) (setS s oi.dst v) h) : DW P n D ops kp hard wild Q (f + 1) listed s h :=
  let ⟨a, b, d, e⟩ := fstB_spec c; DW.pure i v hi a b d e g q x
theorem DW.read' (i : Nat) {oi : Oper} (v : Value) (hi : ops[i]? = some oi) (c : (fstB n ops listed i && waitsB ops hard listed i) = true) (g : wants ops s oi = some true) (q : QO P n oi s h v)
    (x : DW P n D ops kp hard wild Q f (listed.setIfInBounds i true) (setS s oi.dst v) h) : DW P n D ops kp hard wild Q (f + 1) listed s h := by
  rw [Bool.and_eq_true] at c
  obtain ⟨a, b, d, e⟩ := fstB_spec c.1
  exact DW.read i v hi a b d e c.2 g q x
theorem DW.qcall' (i : Nat) {oi : Oper} (g : FuncId) (args : Array Value) (v : Value) (hi : ops[i]? = some oi) (c : (fstB n ops listed i && waitsB ops hard listed i) = true) (gd : wants ops s oi = some true) (e : EO P n oi s h g args) (q : QC P g args h v)
    (x : DW P n D ops kp hard wild Q f (listed.setIfInBounds i true) (setS s oi.dst v) h) : DW P n D ops kp hard wild Q (f + 1) listed s h := by
  rw [Bool.and_eq_true] at c
  obtain ⟨a, b, d, e'⟩ := fstB_spec c.1
  exact DW.qcall i g args v hi a b d e' c.2 gd e q x
theorem DW.readK' (i : Nat) {oi : Oper} (v : Value) (hi : ops[i]? = some oi) (c : (fstB n ops listed i && waitsB ops wild listed i) = true) (g : wants ops s oi = some true) (l : Le kp h) (q : QO P n oi s kp v)
    (x : DW P n D ops kp hard wild Q f (listed.setIfInBounds i true) (setS s oi.dst v) h) : DW P n D ops kp hard wild Q (f + 1) listed s h :=
  let ⟨c1, c2⟩ := Bool.and_eq_true_iff.1 c; let ⟨a, b, d, e⟩ := fstB_spec c1; DW.readK i v hi a b d e c2 g l q x
end

/-- A function with a body that can be called through a value. -/
def FnOk (P : Program) (f : FuncId) : Prop := ∃ fn c, P.funcs[f]? = some fn ∧ fn.body = some c ∧ (fn.name == "runtime.NumGoroutine") = false

theorem EO.par {P : Program} {n : Nat} {o : Oper} {s : Sl} {h : Hp} {f : FuncId} {x : Operand} {xs : List Operand} {ts : Array TypeId} {vs cap : List Value} (ho : o.op = .call ⟨.value x, xs.toArray, ts⟩) (hx : ev s x = some (.func (.func f) #[] cap.toArray)) (hf : FnOk P f)
    (ha : Evs s xs vs) : EO P n o s h f (vs ++ cap).toArray :=
  let ⟨_, _, a, b, c⟩ := hf; EO.clo ho hx a b c ha

/-- The state of a source of numbers. -/
structure Rng where
  at_ : Int
  hash : Int
def srcC (A : Option Addr) (n c : Nat) (x : Rng) : List Value := [.slice A n c, .int .i64 x.at_, .int .u64 x.hash]
theorem srcC_one (A : Option Addr) (n c : Nat) (x : Rng) : One (srcC A n c x) := by
  intro v hv
  simp only [srcC, List.mem_cons, List.not_mem_nil, or_false] at hv
  rcases hv with rfl | rfl | rfl <;> rfl
section
variable {P : Program} {n : Nat} {o : Oper} {s : Sl} {h : Hp}
end

/-- The byte at a place of a text. -/
theorem bt_get' {c : ByteArray} {j : Nat} (hj : j < c.size) : c[j]? = some c[j] := by simp [hj]

theorem QO.idxRd2 {P : Program} {n : Nat} {o : Oper} {s : Sl} {h hR : Hp} {t e : TypeId} {x i : Operand} {z ze len cap : Nat} {k : IntKind} {j : Int} {d : TypeDesc} {A : Option Addr} {xs : List Value} (ho : o.op = .indexAddr t x i) (ht : Sz P t (.slice e) z) (he : Sz P e d ze)
    (hx : ev s x = some (.slice A len cap)) (hi : ev s i = some (.int k j)) (h0 : 0 ≤ j) (h1 : j < len) (hr : RdS hR A xs) (hl : xs.length = len * ze) (hz : 0 < ze) :
    QO P n o s h (.pointer (some ⟨(ad A).block, (ad A).off + j.toNat * ze, none⟩)) := by
  have hp : 0 < xs.length := by
    rw [hl]; exact Nat.mul_pos (by omega) hz
  have e := hr.ad hp
  exact QO.idxSl ho ht he (by rw [← e]; exact hx) hi h0 h1
def strsC (l : List ByteArray) : List Value := l.map .string

/-! ### Literals of slices of rows -/
theorem strsC_length (l : List ByteArray) : (strsC l).length = l.length := by simp [strsC]
theorem strsC_get01 {l : List ByteArray} {i : Nat} (h : i < l.length) : (strsC l)[0 + i * 1]? = some (.string (l.getD i ⟨#[]⟩)) := by
  rw [Nat.zero_add, Nat.mul_one]; simp [strsC, h]
theorem strsC_get1 {l : List ByteArray} {i : Nat} (h : i < l.length) : (strsC l)[i * 1]? = some (.string (l.getD i ⟨#[]⟩)) := by
  rw [Nat.mul_one]; simp [strsC, h]
theorem strsC_one (l : List ByteArray) : One (strsC l) := by
  intro v hv
  simp only [strsC, List.mem_map] at hv
  obtain ⟨x, _, rfl⟩ := hv
  rfl
theorem QO.fieldAt {P : Program} {n : Nat} {o : Oper} {s : Sl} {h : Hp} {t : TypeId} {x : Operand} {i b off fo z zf : Nat} {fs : Array Field} {f : Field} {d : TypeDesc} (ho : o.op = .fieldAddr t x i) (ht : Sz P t (.struct fs) z) (hf : fs[i]? = some f) (hfo : f.offset = fo) (hz : Sz P f.type d zf) (hzf : Nat.beq zf 0 = false)
    (hx : ev s x = some (.pointer (some ⟨b, off, none⟩))) : QO P n o s h (.pointer (some ⟨b, off + fo, none⟩)) := by
  subst hfo; exact QO.fieldAddr ho ht hf hz hzf hx
/-- A store into a block as a whole. -/
theorem LO.storeAll {P : Program} {n : Nat} {D : List Deferred} {o : Oper} {s : Sl} {h h' : Hp} {K : Sl → Hp → Prop} {Q : Exit → Sl → Hp → Prop} {t : TypeId} {x y : Operand} {b m : Nat} {T : TypeId} {xs cs : List Value} {d' : TypeDesc} {z : Nat} (ho : o.op = .store t x y) (ht : Sz P t d' z) (hx : ev s x = some (.pointer (some ⟨b, 0, none⟩))) (hy : ev s y = some (.agg cs.toArray)) (hv : One cs) (hz : cs.length = z)
    (hb : h b = some (.own T xs m)) (hl : xs.length = z) (hc : Chg h b (.own T cs m) h') (d : (o.dst.all fun d => Nat.ble (d + 1) n) = true) (k : K (setS s o.dst undef) h') : LO P n D o s h K Q :=
  LO.storeRow' ho ht hx hy hv hz hb (by omega) (splice_all (by omega)) hc d k
end Go.Abs

/- Equality of arrays and structs; of bools. -/
namespace Go.Abs
open Go

section
variable {P : Program}
/-- '==' of two values of a type says 'r', at each depth of at least m. -/
def EqV (P : Program) (m : Nat) (e : TypeId) (a b : Value) (r : Bool) : Prop := ∀ d w, (Op.equalIn (d + m) e a b).run P w = .ok r w
/-- A part of a value. -/
def PartOf (P : Program) (e : TypeId) (xs : List Value) (off : Nat) (v : Value) : Prop := ∀ w, (part e xs.toArray off).run P w = .ok v w

theorem PartOf.one {e : TypeId} {d : TypeDesc} {z off : Nat} {xs : List Value} {v : Value} (he : Sz P e d z) (hd : d.isRow = false) (hv : xs[off]? = some v) : PartOf P e xs off v := fun w => by
  have hv' : xs.toArray[off]? = some v := by simpa using hv
  cases d <;> first | (cases hd; done) | (simp [part, isAgg, run_underlying he.1, hv])

theorem PartOf.row {e : TypeId} {d : TypeDesc} {z off : Nat} {xs cs : List Value} (he : Sz P e d z) (hd : d.isRow = true) (hl : cs.length = z) (hv : ∀ i v, cs[i]? = some v → xs[off + i]? = some v) : PartOf P e xs off (.agg cs.toArray) := fun w => by
  have hx : (xs.drop off).take z = cs := by
    apply List.ext_getElem?
    intro i
    rw [List.getElem?_take]
    split
    · rename_i hi
      rw [List.getElem?_drop]
      have := hv i _ (List.getElem?_eq_getElem (by omega : i < cs.length))
      rw [this, List.getElem?_eq_getElem (by omega)]
    · rw [List.getElem?_eq_none (by omega)]
  have hx' : xs.toArray.extract off (off + z) = cs.toArray := by
    apply Array.toList_inj.1
    simp [hx]
  cases d <;> first | (cases hd; done) | (simp [part, isAgg, run_underlying he.1, he.sizeOf, hx])

theorem EqV.int {e : TypeId} {k k' : IntKind} {z : Nat} {a b : Int} (he : Sz P e (.int k') z) : EqV P 1 e (.int k a) (.int k b) (a == b) := fun d w => by
  simp [Op.equalIn, run_underlying he.1]
theorem EqV.bool {e : TypeId} {z : Nat} {a b : Bool} (he : Sz P e .bool z) : EqV P 1 e (.bool a) (.bool b) (a == b) := fun d w => by
  simp [Op.equalIn, run_underlying he.1]

theorem eqItems_run {d : Nat} {e : TypeId} {z : Nat} {xs ys : List Value} {v u : Nat → Value} {q : Nat → Bool} : ∀ (is : List Nat), (∀ i ∈ is, PartOf P e xs (i * z) (v i)) → (∀ i ∈ is, PartOf P e ys (i * z) (u i)) →
    (∀ i ∈ is, ∀ w, (Op.equalIn d e (v i) (u i)).run P w = .ok (q i) w) → ∀ w, (Op.eqItems d e z xs.toArray ys.toArray is).run P w = .ok (is.all q) w
  | [], _, _, _, w => by simp [Op.eqItems]
  | i :: is, hx, hy, hq, w => by
    simp only [Op.eqItems, Sem.run_bind, hx i (by simp) w, hy i (by simp) w, hq i (by simp) w, Result.andThen_ok, List.all_cons]
    cases q i with
    | false => simp
    | true =>
      have := eqItems_run is (fun j hj => hx j (by simp [hj])) (fun j hj => hy j (by simp [hj])) (fun j hj => hq j (by simp [hj])) w
      simpa using this

theorem EqV.arr {t e : TypeId} {n z zt m : Nat} {de : TypeDesc} {xs ys : List Value} {v u : Nat → Value} {q : Nat → Bool} (ht : Sz P t (.array n e) zt) (he : Sz P e de z) (hx : ∀ i, i < n → PartOf P e xs (i * z) (v i)) (hy : ∀ i, i < n → PartOf P e ys (i * z) (u i))
    (hq : ∀ i, i < n → EqV P m e (v i) (u i) (q i)) : EqV P (m + 1) t (.agg xs.toArray) (.agg ys.toArray) ((List.range n).all q) := fun d w => by
  obtain ⟨i, hi⟩ : ∃ i, P.info? e = some i := by
    have := he.2
    cases h : P.info? e with
    | none => simp [h] at this
    | some i => exact ⟨i, rfl⟩
  have hc : P.cellsOf e = z := by
    have := he.2
    simp only [Program.cellsOf, this, Option.getD_some]
  rw [← Nat.add_assoc, run_equalIn_array w (d + m) xs.toArray ys.toArray ht.1 hi, hc]
  exact eqItems_run (List.range n) (fun i hi => hx i (by simpa using hi)) (fun i hi => hy i (by simpa using hi)) (fun i hi => hq i (by simpa using hi) d) w

def eqPl (f g : Nat → Int) : Bool := (List.range 10).all fun i => f i == g i
def eqTb (f g : Nat → Nat → Int) : Bool := (List.range 10).all fun i => eqPl (f i) (g i)
def eqSq (p q : Sq) : Bool := (p.order == q.order) && eqTb p.t q.t
theorem eqPl_v {t e : TypeId} {zt : Nat} {f g : Nat → Int} (ht : Sz P t (.array 10 e) zt) (he : Sz P e (.int .u8) 1) : EqV P 2 t (.agg (tabI .u8 f 10).toArray) (.agg (tabI .u8 g 10).toArray) (eqPl f g) :=
  EqV.arr (m := 1) ht he (fun i hi => PartOf.one he rfl (by rw [Nat.mul_one]; exact tabI_get hi)) (fun i hi => PartOf.one he rfl (by rw [Nat.mul_one]; exact tabI_get hi)) (fun i hi => EqV.int he)

theorem eqTb_v {t r e : TypeId} {zt : Nat} {f g : Nat → Nat → Int} (ht : Sz P t (.array 10 r) zt) (hr : Sz P r (.array 10 e) 10) (he : Sz P e (.int .u8) 1) : EqV P 3 t (.agg (tbC f).toArray) (.agg (tbC g).toArray) (eqTb f g) :=
  EqV.arr (m := 2) ht hr (fun i hi => PartOf.row (cs := tabI .u8 (f i) 10) hr rfl (tabI_length _ _ _) (fun j v hv => by obtain ⟨hj, rfl⟩ := tabI_some hv; have := tbC_get (t := f) hi hj; simpa using this))
    (fun i hi => PartOf.row (cs := tabI .u8 (g i) 10) hr rfl (tabI_length _ _ _) (fun j v hv => by obtain ⟨hj, rfl⟩ := tabI_some hv; have := tbC_get (t := g) hi hj; simpa using this)) (fun i hi => eqPl_v hr he)

theorem EqV.more {m m' : Nat} {e : TypeId} {a b : Value} {r : Bool} (h : EqV P m e a b r) (l : m ≤ m') : EqV P m' e a b r := fun d w => by
  have := h (d + (m' - m)) w
  rwa [show d + (m' - m) + m = d + m' by omega] at this

/-- The fields one after the other. -/
inductive EqF (P : Program) (m : Nat) (xs ys : List Value) : List Field → Bool → Prop where
  | nil : EqF P m xs ys [] true
  | cons {f : Field} {fs : List Field} {v u : Value} {q r : Bool} (hn : (f.name != "_") = true) (hx : PartOf P f.type xs f.offset v) (hy : PartOf P f.type ys f.offset u) (hq : EqV P m f.type v u q) (t : EqF P m xs ys fs r) : EqF P m xs ys (f :: fs) (q && r)

theorem EqF.run {m : Nat} {xs ys : List Value} {fs : List Field} {r : Bool} (h : EqF P m xs ys fs r) : ∀ d w, (Op.eqFields (d + m) xs.toArray ys.toArray fs).run P w = .ok r w := by
  induction h with
  | nil => intro d w; simp [Op.eqFields]
  | @cons f fs v u q r hn hx hy hq t ih =>
    intro d w
    have hn' : f.name ≠ "_" := by simpa using hn
    simp only [Op.eqFields, ne_eq, hn', not_false_eq_true, if_true, Sem.run_bind, hx w, hy w, hq d w, Result.andThen_ok]
    cases q with
    | false => simp
    | true => simpa using ih d w

theorem EqV.struct {t : TypeId} {fs : List Field} {z m : Nat} {xs ys : List Value} {r : Bool} (ht : Sz P t (.struct fs.toArray) z) (hp : P.stoodInHeld t = false) (h : EqF P m xs ys fs r) : EqV P (m + 1) t (.agg xs.toArray) (.agg ys.toArray) r := fun d w => by
  have hf : P.fieldsOf t = fs.toArray := by simp [Program.fieldsOf, ht.1]
  rw [← Nat.add_assoc, run_equalIn_struct w (d + m) t xs.toArray ys.toArray (by rw [hf]; exact ht.1) hp, hf]
  exact h.run d w

theorem eqSq_v {t r e : TypeId} {f0 f1 : Field} {z : Nat} {p q : Sq} (ht : Sz P t (.struct #[f0, f1]) z) (n0 : (f0.name != "_") = true) (n1 : (f1.name != "_") = true) (o0 : f0.offset = 0) (o1 : f1.offset = 1) (hp : P.stoodInHeld t = false)
    (h0 : Sz P f0.type (.int .i64) 1) (h1 : Sz P f1.type (.array 10 r) 100) (hr : Sz P r (.array 10 e) 10) (he : Sz P e (.int .u8) 1) : EqV P 4 t (.agg (sqC p).toArray) (.agg (sqC q).toArray) (eqSq p q) := by
  have hx : ∀ p : Sq, PartOf P f0.type (sqC p) f0.offset (.int .i64 p.order) := fun p => PartOf.one h0 rfl (by rw [o0]; rfl)
  have hy : ∀ p : Sq, PartOf P f1.type (sqC p) f1.offset (.agg (tbC p.t).toArray) := fun p => PartOf.row h1 rfl (tbC_length _) (fun i v hv => by rw [o1, Nat.add_comm]; exact hv)
  have := EqF.cons (fs := [f1]) n0 (hx p) (hx q) ((EqV.int h0).more (by decide : 1 ≤ 3)) (EqF.cons n1 (hy p) (hy q) (eqTb_v h1 hr he) EqF.nil)
  have h2 := EqV.struct (m := 3) ht hp this
  simpa [eqSq] using h2
section
variable {n : Nat} {o : Oper} {s : Sl} {h : Hp}
theorem QO.agg_eql {t t' : TypeId} {x y : Operand} {a b : Array Value} {r : Bool} {m : Nat} (ho : o.op = .binOp .eql t x y t') (hx : ev s x = some (.agg a)) (hy : ev s y = some (.agg b)) (hg : P.eqGuardType P.depth t = false) (he : EqV P m t (.agg a) (.agg b) r) (hm : Nat.ble m 10000 = true) :
    QO P n o s h (.bool r) := fun ac w kn H => by
  have h1 : ∀ w, (Op.equal t (.agg a) (.agg b)).run P w = .ok r w := fun w => by
    have := he (10000 - m) w
    have hm' : m ≤ 10000 := Nat.le_of_ble_eq_true hm
    rw [show 10000 - m + m = 10000 by omega] at this
    exact this
  simp only [execOp, ho, kn.eval hx, kn.eval hy]
  simp [eqGuard, binOp, hg, h1]
theorem QO.agg_neq {t t' : TypeId} {x y : Operand} {a b : Array Value} {r : Bool} {m : Nat} (ho : o.op = .binOp .neq t x y t') (hx : ev s x = some (.agg a)) (hy : ev s y = some (.agg b)) (hg : P.eqGuardType P.depth t = false) (he : EqV P m t (.agg a) (.agg b) r) (hm : Nat.ble m 10000 = true) :
    QO P n o s h (.bool (!r)) := fun ac w kn H => by
  have h1 : ∀ w, (Op.equal t (.agg a) (.agg b)).run P w = .ok r w := fun w => by
    have := he (10000 - m) w
    have hm' : m ≤ 10000 := Nat.le_of_ble_eq_true hm
    rw [show 10000 - m + m = 10000 by omega] at this
    exact this
  simp only [execOp, ho, kn.eval hx, kn.eval hy]
  simp [eqGuard, binOp, hg, h1]
theorem QO.bool_neq {t t' : TypeId} {x y : Operand} {a b : Bool} {z : Nat} (ho : o.op = .binOp .neq t x y t') (ht : Sz P t .bool z) (hx : ev s x = some (.bool a)) (hy : ev s y = some (.bool b)) : QO P n o s h (.bool (a != b)) := fun ac w kn H => by
  have h1 : ∀ w, (Op.equal t (.bool a) (.bool b)).run P w = .ok (a == b) w := fun w => EqV.bool ht 9999 w
  simp only [execOp, ho, kn.eval hx, kn.eval hy]
  simp [eqGuard_at_bool, binOp, h1, bne]
end
end
end Go.Abs

/- From the walk of a law over bytes to what its row asks. -/
namespace Go.Abs
open Go Go.ChangeShapes Go.WideShapes Go.ChangeAt Go.RowKit

/-- What is known whole stays whole: behind the call all old blocks are as they were. -/
theorem QC.whole {P : Program} {f : FuncId} {args : Array Value} {h : Hp} {v : Value} (c : QC P f args h v) {w : World} (H : Has h w) (ho : ∀ b k, h b = some k → ∃ o, k = .obj o) :
    Calls P f args w fun e w' => e = .returned v ∧ w'.os = w.os ∧ w'.output = w.output ∧ w.heap.size ≤ w'.heap.size ∧ ∀ b, b < w.heap.size → w'.heap[b]? = w.heap[b]? := by
  refine (c w H).mono fun e w' ⟨v', h', he, H', E, ev, eh⟩ => ?_
  subst ev; subst eh
  refine ⟨he, E.os, E.output, E.size, fun b hb => ?_⟩
  cases hk : h' b with
  | none => exact (E.same b hb hk).1
  | some k =>
    obtain ⟨o, e⟩ := ho b k hk
    subst e
    have a := Holds.out (H b _ hk); have a' := Holds.out (H' b _ hk)
    exact a'.trans a.symm

theorem keptBut_of_same {w w' : World} {may : MemPlace → Prop} (h1 : w'.os = w.os) (h2 : w'.output = w.output) (h : ∀ b, b < w.heap.size → w'.heap[b]? = w.heap[b]?) : w.keptBut w' may := by
  refine ⟨h1, h2, fun i hi => ?_⟩
  rw [h i hi]
  cases w.heap[i]? with
  | none => rfl
  | some o => cases o with
    | cells c t fr => exact ⟨rfl, rfl, rfl, fun _ _ => rfl⟩
    | map es clock => exact .inr ⟨rfl, rfl⟩
    | _ => rfl

/-- The block of a slice, known whole. -/
def hp1 (w : World) (b : Nat) : Hp := fun x => if x = b then (w.heap[x]?).map Blk.obj else none
theorem hp1_has (w : World) (b : Nat) : Has (hp1 w b) w := fun x k hk => by
  unfold hp1 at hk
  split at hk
  · cases ho : w.heap[x]? with
    | none => rw [ho] at hk; cases hk
    | some o => rw [ho] at hk; cases hk; exact ⟨ho⟩
  · cases hk
theorem hp1_obj (w : World) (b x : Nat) (k : Blk) (hk : hp1 w b x = some k) : ∃ o, k = .obj o := by
  unfold hp1 at hk
  split at hk
  · cases ho : w.heap[x]? with
    | none => rw [ho] at hk; cases hk
    | some o => rw [ho] at hk; cases hk; exact ⟨o, rfl⟩
  · cases hk
theorem hp1_rd {w : World} {b i : Nat} {v : Value} (h : w.cell? ⟨b, i, none⟩ = some v) : rd (hp1 w b) b i = some v := by
  unfold rd hp1
  simp only [if_true]
  unfold World.cell? at h
  cases ho : w.heap[b]? with
  | none => simp [ho] at h
  | some o =>
    cases o with
    | cells c t fr => simpa [ho] using h
    | _ => simp [ho] at h

theorem cell_plain {w : World} {a : Addr} {v : Value} (h : w.cell? a = some v) : a = ⟨a.block, a.off, none⟩ := by
  obtain ⟨b, off, spot⟩ := a
  unfold World.cell? at h
  cases ho : w.heap[b]? with
  | none => simp [ho] at h
  | some o =>
    cases o with
    | cells c t fr =>
      cases spot with
      | none => rfl
      | some s => simp [ho] at h
    | _ => simp [ho] at h

/-- A law over bytes whose call yields true for all lists of bytes. -/
theorem lawBytes {H : Type} {enc : TypeId × Value → H} {P : Program} {f : Func} {fid : FuncId} {tS tE tB : TypeId} {s : ChangeSpec} (ep : f.params = #[tS]) (er : f.resultTypes = #[tB]) (hS : P.underlying tS = some (.slice tE)) (hE : P.underlying tE = some (.int .u8))
    (hc : P.cellsOf tE = 1) (hB : P.underlying tB = some .bool) (hv : s.vars = []) (hf : ∀ (H : Type) (d : DataW H), s.fn H ([d] ++ []) = { results := [.lit (.bool true)], args := [d] })
    (walk : ∀ (l : List Int) (A : Option Addr) (c : Nat) (h : Hp), (∀ n ∈ l, 0 ≤ n ∧ n ≤ 255) → RdS h A (ints .u8 l) → QC P fid #[.slice A l.length c] h (.bool true))
    (W : World) (args : Array Value) (ds gs : List (DataW H)) (before : List MemPlace) {base : Nat} (hval : ∀ (j : Nat) t v, f.params[j]? = some t → args[j]? = some v → Value.okWide P W .any base t v) (hW : DataW.Whole enc P f.params.toList s.vars false W args.toList ds gs before) :
    Calls P fid args W fun e W' => ∃ v, e = .returned v ∧ s.post enc P f false true false false W args v W' := by
  have hW' := hW
  obtain ⟨p, q, hA0, hV, rfl, hfz, hnd⟩ := hW
  have hA : DataW.TrodAll enc P W 0 (fun _ => true) true f.params.toList args.toList ds p := hA0
  rw [ep] at hA hval
  obtain ⟨v0, vs0, d0, ds0, p0, q0, hargs, rfl, rfl, h0, r0⟩ := trodAll_cons hA
  obtain ⟨rfl, rfl, rfl⟩ := trodAll_nil r0
  obtain rfl : args = #[v0] := by cases args; simp_all
  rw [hv] at hV
  obtain ⟨rfl, rfl⟩ := trodVars_none hV
  clear hA0
  obtain ⟨a0, len0, cap0, rfl⟩ := okWide_slice hS (hval 0 tS v0 rfl rfl)
  -- what is to be shown behind a call that leaves all as it was
  have fin : ∀ W' : World, W'.os = W.os → W'.output = W.output → W.heap.size ≤ W'.heap.size → (∀ b, b < W.heap.size → W'.heap[b]? = W.heap[b]?) →
      (∀ sp : Nat → Bool, (∀ p ∈ p0 ++ [] ++ [], sp p.block = true) → DataW.TrodAll enc P W' 0 sp true f.params.toList [.slice a0 len0 cap0] [d0] (p0 ++ [])) → s.post enc P f false true false false W #[.slice a0 len0 cap0] (.bool true) W' := by
    intro W' h1 h2 h3 h4 hargs
    have hold : ∀ p ∈ p0 ++ [] ++ [], (fun b => decide (b < W.heap.size)) p.block = true := fun p hp => by simpa using hW'.lt p hp
    refine ⟨[d0], [], p0 ++ [] ++ [], [], p0 ++ [], [], hW', ?_, ?_, ?_, keptBut_of_same h1 h2 h4, fun h => by cases h⟩
    · rw [hf, er]
      exact trodAll_cons_mk (shut_bool hB _) trodAll_mk0
    · rw [hf]; exact hargs _ hold
    · rw [hv, hf]; rfl
  obtain ⟨fuel, h0⟩ := h0
  rcases open_ints hS hE hc h0 with ⟨hv0, hx⟩ | ⟨a, len, cap, zs, hv0, _, hl, hm, hz, hx, hcell, hw⟩
  · simp [Value.cells] at hv0
    obtain ⟨rfl, rfl, rfl⟩ := hv0
    simp only [Prod.mk.injEq] at hx
    obtain ⟨rfl, rfl⟩ := hx
    have c := walk [] none 0 (fun _ => none) (by simp) RdS.nil
    refine (QC.whole c (w := W) (fun b k hk => by cases hk) (fun b k hk => by cases hk)).mono fun e W' ⟨he, h1, h2, h3, h4⟩ => ⟨_, he, fin W' h1 h2 h3 h4 fun sp _ => ?_⟩
    rw [ep]
    refine trodAll_cons_mk (p' := []) ?_ trodAll_mk0
    exact shut_slice_nil hS
  · simp [Value.cells] at hv0
    obtain ⟨rfl, rfl, rfl⟩ := hv0
    simp only [if_true] at hz
    simp only [Prod.mk.injEq] at hx
    obtain ⟨rfl, rfl⟩ := hx
    have hwb : ∀ n ∈ zs, 0 ≤ n ∧ n ≤ 255 := fun n hn => by
      have := hw n hn
      simpa [Lit.wf, IntKind.min, IntKind.max, IntKind.signed, IntKind.bits] using this
    have hlen : (zs.take len0).length = len0 := by rw [List.length_take]; omega
    obtain ⟨b, off, spot⟩ := a
    have plain : ∀ i, i < zs.length → W.cell? ⟨b, off + i, none⟩ = some (.int .u8 (zs.getD i 0)) ∧ spot = none := fun i hi => by
      have e' : spot = none := congrArg Addr.spot (cell_plain (a := ⟨b, off, spot⟩) (hcell 0 (by omega)))
      subst e'
      exact ⟨by rw [← add_plain]; exact hcell i hi, rfl⟩
    have hrd : RdS (hp1 W b) (some ⟨b, off, spot⟩) (ints .u8 (zs.take len0)) := fun i v hv => by
      unfold ints at hv
      rw [List.getElem?_map, List.getElem?_take] at hv
      by_cases hi : i < len0
      · rw [if_pos hi] at hv
        have hi' : i < zs.length := by omega
        obtain ⟨h, e⟩ := plain i hi'
        subst e
        rw [List.getElem?_eq_getElem hi'] at hv
        simp only [Option.map_some, Option.some.injEq] at hv
        subst hv
        refine ⟨b, off, rfl, hp1_rd ?_⟩
        rw [h, List.getD_eq_getElem?_getD, List.getElem?_eq_getElem hi']
        rfl
      · rw [if_neg hi] at hv; cases hv
    have c := walk (zs.take len0) (some ⟨b, off, spot⟩) cap0 (hp1 W b) (fun n hn => hwb n (List.mem_of_mem_take hn)) hrd
    rw [hlen] at c
    refine (QC.whole c (hp1_has W b) (hp1_obj W b)).mono fun e W' ⟨he, h1, h2, h3, h4⟩ => ⟨_, he, fin W' h1 h2 h3 h4 fun sp hsp => ?_⟩
    rw [ep]
    refine trodAll_cons_mk ?_ trodAll_mk0
    refine ⟨2, shut_ints 0 hS hE hc (by omega) hl hm ?_ (fun i hi => ?_) hw⟩
    · by_cases hcap : 0 < cap0
      · have : sp b = true := hsp (.cell b off) (by
          rw [List.append_nil, List.append_nil]
          exact MemPlace.mem_row.2 ⟨0, by omega, by simp⟩)
        simp only [this, if_true]; exact hz
      · have e1 : cap0 = 0 := by omega
        have e2 : len0 = 0 := by omega
        subst e1; subst e2
        split <;> exact hz
    · obtain ⟨h, e⟩ := plain i hi
      subst e
      have hb : b < W.heap.size := by
        unfold World.cell? at h
        cases ho : W.heap[b]? with
        | none => simp [ho] at h
        | some o => exact (Array.getElem?_eq_some_iff.1 ho).1
      rw [add_plain]
      rw [cell_congr (h4 b hb), h]
end Go.Abs

/- Slices that may be nil; append of any source. -/
namespace Go.Abs
open Go

structure NeOO (B C : Option Nat) : Prop where
  ne : ∀ b c, B = some b → C = some c → b ≠ c
theorem NeOO.symm {B C : Option Nat} (n : NeOO B C) : NeOO C B := ⟨fun c b hc hb => (n.ne b c hb hc).symm⟩
structure FrO (h : Hp) (B : Option Nat) : Prop where
  fr : ∀ b, B = some b → h b = none
structure OkO (B : Option Nat) (n c : Nat) : Prop where
  le : n ≤ c
  mx : c ≤ maxLen
  nil : B = none → c = 0
structure LkO (h : Hp) (B : Option Nat) (k : Blk) : Prop where
  lk : ∀ b, B = some b → h b = some k

section
variable {h h0 g : Hp} {B C : Option Nat} {k k' : Blk} {c b : Nat}
theorem updO_some : updO h (some b) k = upd h b k := rfl
theorem none_updO (n : NeO c B) (e : h c = none) : updO h B k c = none := (updO_ne n).trans e
theorem updO_noneA : updO h B k c = none ↔ NeO c B ∧ h c = none := by
  constructor
  · intro e
    cases B with
    | none => exact ⟨⟨fun b hb => by cases hb⟩, e⟩
    | some b =>
      have := upd_none.1 e
      exact ⟨⟨fun b' hb => by cases hb; exact this.1⟩, this.2⟩
  · exact fun ⟨n, e⟩ => none_updO n e
theorem frO_upd (n : NeO c B) (f : FrO h B) : FrO (upd h c k) B := ⟨fun b hb => none_upd (n.ne b hb).symm (f.fr b hb)⟩
theorem frO_updO (n : NeOO B C) (f : FrO h B) : FrO (updO h C k) B := ⟨fun b hb => none_updO ⟨fun c hc => n.ne b c hb hc⟩ (f.fr b hb)⟩
theorem frO_updA : FrO (upd h c k) B ↔ NeO c B ∧ FrO h B :=
  ⟨fun f => ⟨⟨fun b hb => ((upd_none.1 (f.fr b hb)).1).symm⟩, ⟨fun b hb => (upd_none.1 (f.fr b hb)).2⟩⟩, fun ⟨n, f⟩ => frO_upd n f⟩
theorem frO_updOA : FrO (updO h C k) B ↔ NeOO B C ∧ FrO h B :=
  ⟨fun f => ⟨⟨fun b c hb hc => (updO_noneA.1 (f.fr b hb)).1.ne c hc⟩, ⟨fun b hb => (updO_noneA.1 (f.fr b hb)).2⟩⟩, fun ⟨n, f⟩ => frO_updO n f⟩
theorem frO_some (e : h b = none) : FrO h (some b) := ⟨fun _ hb => by cases hb; exact e⟩
theorem frO_none : FrO h none := ⟨fun _ hb => by cases hb⟩
theorem OkO.some {n c : Nat} (h1 : n ≤ c) (h2 : c ≤ maxLen) : OkO (some b) n c := ⟨h1, h2, fun e => by cases e⟩
theorem OkO.none : OkO none 0 0 := ⟨Nat.le_refl _, Nat.zero_le _, fun _ => rfl⟩
theorem OkO.ex {n c : Nat} (o : OkO B n c) (hn : 0 < n) : ∃ b, B = .some b := by
  cases B with
  | none => have := o.nil rfl; have := o.le; omega
  | some b => exact ⟨b, rfl⟩
theorem OkO.nilL {α : Type} {l : List α} {c : Nat} (o : OkO B l.length c) : B = Option.none → l = [] := fun e => List.eq_nil_of_length_eq_zero (by have := o.nil e; have := o.le; omega)
theorem NeO.ap' (n : NeO c (some b)) : Ap b c := ⟨(n.ne b rfl).symm⟩
theorem NeO.of (n : Ap c b) : NeO c (some b) := ⟨fun x hx => by cases hx; exact n.ne⟩
theorem NeOO.neO (n : NeOO (some b) C) : NeO b C := ⟨fun c hc => n.ne b c rfl hc⟩
theorem FrO.of (f : FrO h (some b)) : h b = none := f.fr b rfl

theorem Le.underO (l : Le h0 h) (f : FrO h0 B) : Le h0 (updO h B k) := by
  cases B with
  | none => exact l
  | some b => exact Le.under l (f.fr b rfl)
theorem LkO.here : LkO (updO h B k) B k := ⟨fun b hb => by subst hb; exact upd_same _ _ _⟩
theorem LkO.there (n : NeO c B) (l : LkO h B k) : LkO (upd h c k') B k := ⟨fun b hb => (upd_ne _ _ (n.ne b hb).symm).trans (l.lk b hb)⟩
theorem LkO.thereO (n : NeOO B C) (l : LkO h B k) : LkO (updO h C k') B k := ⟨fun b hb => (updO_ne ⟨fun c hc => n.ne b c hb hc⟩).trans (l.lk b hb)⟩
theorem RdS.ownO {T : TypeId} {xs : List Value} {n : Nat} (lk : LkO h B (.own T xs n)) (e : B = none → xs = []) : RdS h (adO B) xs := by
  cases B with
  | none => rw [e rfl]; exact RdS.nil
  | some b => exact RdS.own (lk.lk b rfl)
theorem Del.thereO (n : NeO b B) (d : Del h b k h0) : Del (updO h B k') b k (updO h0 B k') := by
  cases B with
  | none => exact d
  | some c => exact Del.there (n.ne c rfl) d
/-- 'h0' is 'h' without block 'B', if there is one, which holds 'k'. -/
structure DelO (h : Hp) (B : Option Nat) (k : Blk) (h0 : Hp) : Prop where
  fr : FrO h0 B
  le : Le (updO h0 B k) h
theorem updO_upd_comm (n : NeO c B) : updO (upd h c k') B k = upd (updO h B k) c k' := by
  cases B with
  | none => rfl
  | some b => exact upd_comm h (n.ne b rfl) k' k
theorem updO_updO_comm (n : NeOO B C) : updO (updO h C k') B k = updO (updO h B k) C k' := by
  cases C with
  | none => rfl
  | some c => exact updO_upd_comm ⟨fun b hb => (n.ne b c hb rfl).symm⟩
theorem Le.updO_both {h h' : Hp} (l : Le h' h) (B : Option Nat) (k : Blk) : Le (updO h' B k) (updO h B k) := by
  cases B with
  | none => exact l
  | some b => exact l.upd_both b k
theorem DelO.here (f : FrO h B) : DelO (updO h B k) B k h := ⟨f, Le.refl _⟩
theorem DelO.there (n : NeO c B) (d : DelO h B k h0) : DelO (upd h c k') B k (upd h0 c k') := ⟨frO_upd n d.fr, by rw [updO_upd_comm n]; exact d.le.upd_both c k'⟩
theorem DelO.thereO (n : NeOO B C) (d : DelO h B k h0) : DelO (updO h C k') B k (updO h0 C k') := ⟨frO_updO n d.fr, by rw [updO_updO_comm n]; exact d.le.updO_both C k'⟩
theorem DelO.drop (n : NeO c B) (hn : h0 c = .none) (d : DelO h B k h0) : DelO (upd h c k') B k h0 := ⟨d.fr, d.le.under (none_updO n hn)⟩
theorem DelO.nil : DelO h none k h := ⟨frO_none, Le.refl _⟩
theorem DelO.of (d : Del h b k h0) : DelO h (some b) k h0 := ⟨frO_some d.none, d.le⟩
end

section
variable {P : Program} {n : Nat} {D : List Deferred} {o : Oper} {s : Sl} {h : Hp} {K : Sl → Hp → Prop} {Q : Exit → Sl → Hp → Prop}

theorem run_firstCells_nil {P : Program} (w : World) (z : Nat) : (Builtin.firstCells z 0 (.slice none 0 0)).run P w = .ok #[] w := by
  simpa using run_firstCells_none (P := P) w z 0 0 0

/-- Append of a slice 'y' of any length onto a slice of one's own, or onto nil if there is something to append. -/
theorem LO.appendO {t T : TypeId} {x y : Operand} {B : Option Nat} {cap k z by_ zt k' : Nat} {xs ys xs' : List Value} {ad : Option Addr} {m c : Nat} {h0 : Hp} (ho : o.op = .call ⟨.builtin .append, #[x, y], #[t, t]⟩) (ht : Sz P t (.slice T) zt) (hT : El P T z by_)
    (hx : ev s x = some (.slice (adO B) k cap)) (hy : ev s y = some (.slice ad m c)) (hd : DelO h B (.own T xs (cap * z)) h0) (ok : OkO B k cap) (hxl : xs.length = k * z)
    (hyl : ys.length = m * z) (hys : RdS h ad ys) (hone : One ys) (hm : B = none → 0 < m) (hsz : k + m ≤ 1099511627776) (hby : 0 < by_) (hby2 : by_ ≤ 128)
    (d : (o.dst.all fun d => Nat.ble (d + 1) n) = true) (ek : k + m = k') (ex : xs ++ ys = xs')
    (K' : ∀ b' cap', h0 b' = none → k' ≤ cap' → cap' ≤ maxLen → K (setS s o.dst (.slice (some ⟨b', 0, none⟩) k' cap')) (upd h0 b' (.own T xs' (cap' * z)))) : LO P n D o s h K Q := by
  subst ek; subst ex
  have hbig : (k + m) * by_ ≤ 140737488355328 := Nat.le_trans (Nat.mul_le_mul hsz hby2) (by decide)
  have h63 : k + m ≤ maxLen := by simp only [maxLen]; omega
  refine ⟨d, fun a w kn H => ?_⟩
  obtain ⟨⟨i, zv, hi, hzv, hiz, hib, hzs⟩, hz⟩ := hT
  have hm0 : ad = none → m = 0 := fun e => by
    cases ys with
    | nil => rcases Nat.mul_eq_zero.1 hyl.symm with h | h
             · exact h
             · omega
    | cons v r =>
      obtain ⟨b', off', e', _⟩ := hys 0 v rfl
      rw [e] at e'; cases e'
  have hnews : ∀ j u, ys[j]? = some u → ∀ ad', ad = some ad' → w.cell? (ad'.add j) = some u := fun j u hu ad' e => by
    obtain ⟨b', off', e', hr⟩ := hys j u hu
    rw [e] at e'
    simp only [Option.some.injEq] at e'
    subst e'
    rw [Addr.add_mid]
    exact H.rd hr
  have hsrc : _root_.Go.Src P i.size t (.slice ad m c) m ys w := by
    cases ad with
    | none =>
      have := hm0 rfl
      subst this
      have : ys = [] := List.eq_nil_of_length_eq_zero (by omega)
      subst this
      exact _root_.Go.Src.ofNil w ht.1 c
    | some ad' => exact _root_.Go.Src.ofSlice w ht.1 ad' m c ys (by rw [hiz]; exact hyl) (fun j u hu => hnews j u hu ad' rfl) hone
  have hsz' : ∀ old, old < k + m → Builtin.nextslicecap (k + m) old * i.bytes ≤ 281474976710656 := fun old ho => growslice_fits ho (by rw [hib]; exact hbig)
  have hsmall : ((k + m : Nat) : Int) ≤ 9223372036854775807 := by omega
  have hbh : ∀ b, B = some b → h b = some (.own T xs (cap * z)) := fun b hb => hd.le b _ (by subst hb; exact upd_same _ _ _)
  have hl0 : ∀ b q, h0 b = some q → h b = some q := fun b q e => hd.le b q (by
    rw [updO_ne ⟨fun b' hb' x => by subst x; rw [hd.fr.fr b hb'] at e; cases e⟩]; exact e)
  have fin : ∀ (g cap' : Nat) (cur' : Array Value) (w' : World), (execOp a.eval o).run P w = .ok (.value (.slice (some ⟨g, 0, none⟩) (k + m) cap')) w' → (B = some g ∨ w.heap.size ≤ g) → w.heap.size ≤ w'.heap.size →
      (∀ c, c < w.heap.size → B ≠ some c → w'.heap[c]? = w.heap[c]?) → w'.heap[g]? = some (.cells cur' T (0, 0)) → cur'.size = cap' * z → cur'.toList.take ((k + m) * z) = xs ++ ys → k + m ≤ cap' → cap' ≤ maxLen → w'.tape = w.tape → w'.os = w.os → w'.output = w.output →
      ∃ u w' h', ((execOp a.eval o).run P w = .ok (.value u) w' ∨ ((execOp a.eval o).run P w = .ok .skip w' ∧ u = undef)) ∧ Has h' w' ∧ Ext h w h' w' ∧ K (match o.dst with | some d => (d, u) :: s | none => s) h' := by
    intro g cap' cur' w' hrun hgb hsize hsame hg' hcs' htk hkc hcm htp hos hout
    have hg0 : h0 g = none := by
      rcases hgb with hgb | hge
      · exact hd.fr.fr g hgb
      · cases e : h0 g with
        | none => rfl
        | some q => exact absurd (H g q (hl0 g q e)).lt (by omega)
    have hnb : ∀ c q, h0 c = some q → B ≠ some c := fun c q e x => by rw [hd.fr.fr c x] at e; cases e
    have Hw' : Has (upd h0 g (.own T (xs ++ ys) (cap' * z))) w' := fun c q hc => by
      unfold upd at hc
      by_cases e : c = g
      · subst e
        simp only [if_true, Option.some.injEq] at hc
        subst hc
        exact HasB.of_row hg' hcs' htk
      · simp only [e, if_false] at hc
        have := H c q (hl0 c q hc)
        exact this.congr (hsame c this.lt (hnb c q hc))
    refine ⟨_, _, _, .inl hrun, Hw', ⟨hsize, fun c hc hcn => ?_, htp, hos, hout⟩, K' g cap' hg0 hkc hcm⟩
    have hcb : B ≠ some c := fun e => by rw [hbh c e] at hcn; cases hcn
    refine ⟨hsame c hc hcb, ?_⟩
    unfold upd
    have hcg : c ≠ g := by
      rcases hgb with hgb | hge
      · exact fun e => hcb (by rw [e]; exact hgb)
      · omega
    rw [if_neg hcg]
    cases e : h0 c with
    | none => rfl
    | some q =>
      have := hl0 c q e
      rw [hcn] at this; cases this
  have hlen : (xs ++ ys).length = (k + m) * z := by rw [List.length_append, hxl, hyl, Nat.add_mul]
  have hrunOf : ∀ v' w', (Builtin.append_ #[t, t] o.type #[.slice (adO B) k cap, .slice ad m c]).run P w = .ok v' w' → (execOp a.eval o).run P w = .ok (.value v') w' := fun v' w' hr => by
    simp only [execOp, ho]
    simp [resolve, kn.eval hx, kn.eval hy, invoke, builtin, hr]
  have grow : ∀ (hnr : cap < k + m), (Builtin.firstCells i.size k (.slice (adO B) k cap)).run P w.drew = .ok xs.toArray w.drew →
      ∃ u w' h', ((execOp a.eval o).run P w = .ok (.value u) w' ∨ ((execOp a.eval o).run P w = .ok .skip w' ∧ u = undef)) ∧ Has h' w' ∧ Ext h w h' w' ∧ K (match o.dst with | some d => (d, u) :: s | none => s) h' := by
    intro hnr hold
    have hr := run_append_grow_src (P := P) w t t o.type T i zv ht.1 hi hzv (adO B) k cap xs hold (.slice ad m c) m ys hsrc hnr hsmall (hsz' cap hnr)
    have hge := grownCap_ge w (k + m) cap T
    have hcm : grownCap w (k + m) cap T ≤ maxLen := grownCap_le_maxLen w (k + m) cap T h63
    refine fin w.heap.size _ _ _ (hrunOf _ _ hr) (.inr (Nat.le_refl _)) ?_ ?_ (heap_alloc_new w.drew _) ?_ ?_ hge hcm rfl rfl rfl
    · simp
    · intro c hc hcb
      exact heap_alloc_old w.drew _ hc
    · simp only [Array.size_append, List.size_toArray, size_zeroCells, hzs, hxl, hyl, List.length_append, ← Nat.add_mul]
      congr 1
      omega
    · simp only [Array.toList_append]
      rw [← hlen]
      exact List.take_left
  cases B with
  | none =>
    have hc0 := ok.nil rfl
    have hk0 : k = 0 := by have := ok.le; omega
    subst hc0; subst hk0
    have : xs = [] := List.eq_nil_of_length_eq_zero (by omega)
    subst this
    exact grow (by have := hm rfl; omega) (run_firstCells_nil w.drew i.size)
  | some b =>
    have hbb := hbh b rfl
    obtain ⟨cur, hg, hcs, hx0⟩ := H b _ hbb
    have htake : cur.toList.take (k * z) = xs := by
      apply List.ext_getElem?
      intro j
      rw [List.getElem?_take]
      by_cases hj : j < xs.length
      · have hj' : xs[j]? = some (xs[j]) := List.getElem?_eq_getElem hj
        rw [if_pos (by omega), hj']
        simpa using hx0 j _ hj'
      · rw [if_neg (by omega), List.getElem?_eq_none (by omega)]
    by_cases hroom : k + m ≤ cap
    · have hcells : ∀ j, j < ys.length → 0 + k * i.size + j < cur.size := fun j hj => by
        have : (k + m) * z ≤ cap * z := Nat.mul_le_mul_right _ hroom
        rw [Nat.add_mul] at this
        rw [hiz, hcs]; omega
      have hr := run_append_room_src (P := P) w t t o.type T i ht.1 hi b 0 k cap (.slice ad m c) m ys hsrc hroom
        (fun j hj => by have := hcells j hj; simp only [World.cell?, hg]; simp; omega)
        (fun j hj => by simp [World.frozen?, hg])
      obtain ⟨r1, r2, r3, r4, r5⟩ := setCells_rest b ys (0 + k * i.size) w
      have hsz2 : 0 + k * i.size + ys.length ≤ cur.size := by
        have : (k + m) * z ≤ cap * z := Nat.mul_le_mul_right _ hroom
        rw [Nat.add_mul] at this
        rw [hiz, hcs, hyl]; omega
      have hg' := setCells_heap b T ys (0 + k * i.size) w cur hg hsz2
      have hspl : (splice cur.toList (0 + k * i.size) ys).length = cur.size := by
        simp only [splice, List.length_append, List.length_take, List.length_drop, Array.length_toList]; omega
      have htk' : (splice cur.toList (0 + k * i.size) ys).take ((k + m) * z) = xs ++ ys := by
        unfold splice
        rw [Nat.zero_add, hiz, htake, ← hlen]
        exact List.take_left
      exact fin b cap _ _ (hrunOf _ _ hr) (.inl rfl) (by rw [r1]; exact Nat.le_refl _) (fun c hc hcb => r5 c (fun e => hcb (by rw [e]))) hg' (by simp only [List.size_toArray]; rw [hspl, hcs]) (by simpa using htk') hroom ok.mx r2 r3 r4
    · exact grow (by omega) (by
        have := run_firstCells_some (P := P) w.drew i.size k ⟨b, 0, none⟩ k cap xs (by rw [hiz]; exact hxl) (fun j u hu => by
          rw [Addr.add_mid, Nat.zero_add]
          have := H.rd (b := b) (i := j) (v := u) (by rw [rd_own hbb]; exact hu)
          simpa using this)
        exact this)
end

/-! ## Two lists of ten numbers, and a number -/
structure Mp where
  a : Nat → Int
  b : Nat → Int
  n : Int
def mpC (x : Mp) : List Value := tabI .i64 x.a 10 ++ tabI .i64 x.b 10 ++ [.int .i64 x.n]
theorem mpC_length (x : Mp) : (mpC x).length = 21 := by simp [mpC, tabI_length]
end Go.Abs

/- Slices of slices: the rows' blocks, as many as there are; slices of slices that came in. -/
namespace Go.Abs
open Go

/-- where a block stands in a list of blocks -/
def fnd (b : Nat) : List (Option Nat × Nat) → Option Nat
  | [] => none
  | p :: r => if p.1 = some b then some 0 else (fnd b r).map (· + 1)
theorem fnd_some {b : Nat} : ∀ {g : List (Option Nat × Nat)} {i : Nat}, fnd b g = some i → ∃ c, g[i]? = some (some b, c)
  | [], i, h => by cases h
  | p :: r, i, h => by
    simp only [fnd] at h
    split at h
    · rename_i e
      cases h
      exact ⟨p.2, by simp [← e]⟩
    · cases hr : fnd b r with
      | none => simp [hr] at h
      | some j =>
        simp only [hr, Option.map_some, Option.some.injEq] at h
        subst h
        obtain ⟨c, hc⟩ := fnd_some hr
        exact ⟨c, by simpa using hc⟩
theorem fnd_none {b : Nat} : ∀ {g : List (Option Nat × Nat)}, fnd b g = none → ∀ (i c : Nat), g[i]? ≠ some (some b, c)
  | [], _, i, c => by simp
  | p :: r, h, i, c => by
    simp only [fnd] at h
    split at h
    · cases h
    · rename_i e
      cases hr : fnd b r with
      | some j => simp [hr] at h
      | none =>
        cases i with
        | zero => intro x; simp only [List.getElem?_cons_zero, Option.some.injEq] at x; exact e (by rw [x])
        | succ i => simpa using fnd_none hr i c
/-- no block stands there twice -/
def Dis (g : List (Option Nat × Nat)) : Prop := ∀ (i j b c d : Nat), g[i]? = some (some b, c) → g[j]? = some (some b, d) → i = j
theorem fnd_eq {b c i : Nat} {g : List (Option Nat × Nat)} (d : Dis g) (h : g[i]? = some (some b, c)) : fnd b g = some i := by
  cases hf : fnd b g with
  | none => exact absurd h (fnd_none hf i c)
  | some j =>
    obtain ⟨c', hc'⟩ := fnd_some hf
    rw [d j i b c' c hc' h]
theorem fnd_eq_none {b : Nat} {g : List (Option Nat × Nat)} (h : ∀ (i c : Nat), g[i]? ≠ some (some b, c)) : fnd b g = none := by
  cases hf : fnd b g with
  | none => rfl
  | some j => obtain ⟨c', hc'⟩ := fnd_some hf; exact absurd hc' (h j c')

/-- The rows' blocks are told by 'g', their cells by 'll'. -/
def famH {α : Type} (h : Hp) (T : TypeId) (z : Nat) (enc : List α → List Value) (g : List (Option Nat × Nat)) (ll : List (List α)) : Hp := fun b =>
  match fnd b g with
  | some i => some (.own T (enc (ll.getD i [])) ((g.getD i (none, 0)).2 * z))
  | none => h b

/-- a block is none of the rows' -/
structure NeF (c : Nat) (g : List (Option Nat × Nat)) : Prop where
  ne : fnd c g = none
structure FrF (h : Hp) (g : List (Option Nat × Nat)) : Prop where
  fr : ∀ (i b c : Nat), g[i]? = some (some b, c) → h b = none
/-- what holds of the rows -/
structure OkF {α : Type} (g : List (Option Nat × Nat)) (ll : List (List α)) : Prop where
  len : g.length = ll.length
  ok : ∀ i, i < ll.length → OkO (g.getD i (none, 0)).1 (ll.getD i []).length (g.getD i (none, 0)).2
  dis : Dis g
/-- an option block is none of the rows' -/
structure NeOF (B : Option Nat) (g : List (Option Nat × Nat)) : Prop where
  ne : ∀ b, B = some b → NeF b g

section
variable {α : Type} {h h0 : Hp} {T z : Nat} {enc : List α → List Value} {g : List (Option Nat × Nat)} {ll : List (List α)} {b c : Nat} {B : Option Nat} {k k' : Blk}
theorem famH_ne (n : NeF c g) : famH h T z enc g ll c = h c := by unfold famH; rw [n.ne]
theorem none_famH (n : NeF c g) (e : h c = none) : famH h T z enc g ll c = none := (famH_ne n).trans e
theorem famH_noneA : famH h T z enc g ll c = none ↔ NeF c g ∧ h c = none := by
  constructor
  · intro e
    unfold famH at e
    cases hf : fnd c g with
    | none => rw [hf] at e; exact ⟨⟨hf⟩, e⟩
    | some i => rw [hf] at e; cases e
  · exact fun ⟨n, e⟩ => none_famH n e
theorem frO_famH (n : NeOF B g) (f : FrO h B) : FrO (famH h T z enc g ll) B := ⟨fun b hb => none_famH (n.ne b hb) (f.fr b hb)⟩
theorem frO_famHA : FrO (famH h T z enc g ll) B ↔ NeOF B g ∧ FrO h B :=
  ⟨fun f => ⟨⟨fun b hb => (famH_noneA.1 (f.fr b hb)).1⟩, ⟨fun b hb => (famH_noneA.1 (f.fr b hb)).2⟩⟩, fun ⟨n, f⟩ => frO_famH n f⟩
theorem NeF.nil : NeF c [] := ⟨rfl⟩
theorem NeF.at (n : NeF c g) {i b d : Nat} (e : g[i]? = some (some b, d)) : c ≠ b := fun x => by subst x; exact fnd_none n.ne i d e
theorem FrF.nil : FrF h [] := ⟨fun i b c e => by simp at e⟩
theorem OkF.nil : OkF (α := α) [] [] := ⟨rfl, fun i hi => by simp at hi, fun i j b c d e => by simp at e⟩
theorem frF_upd (n : NeF b g) (f : FrF h g) : FrF (upd h b k) g := ⟨fun i b' c e => none_upd (n.at e).symm (f.fr i b' c e)⟩
theorem frF_updA : FrF (upd h b k) g ↔ NeF b g ∧ FrF h g :=
  ⟨fun f => ⟨⟨fnd_eq_none fun i c e => (upd_none.1 (f.fr i b c e)).1 rfl⟩, ⟨fun i b' c e => (upd_none.1 (f.fr i b' c e)).2⟩⟩, fun ⟨n, f⟩ => frF_upd n f⟩
theorem frF_updO (n : NeOF B g) (f : FrF h g) : FrF (updO h B k) g := by
  cases B with
  | none => exact f
  | some b => exact frF_upd (n.ne b rfl) f
theorem frF_updOA : FrF (updO h B k) g ↔ NeOF B g ∧ FrF h g := by
  cases B with
  | none => exact ⟨fun f => ⟨⟨fun b hb => by cases hb⟩, f⟩, fun x => x.2⟩
  | some b => exact ⟨fun f => ⟨⟨fun b' hb => by cases hb; exact (frF_updA.1 f).1⟩, (frF_updA.1 f).2⟩, fun x => frF_updO x.1 x.2⟩
theorem Le.underF (l : Le h0 h) (f : FrF h0 g) : Le h0 (famH h T z enc g ll) := fun b q hq => by
  unfold famH
  cases hf : fnd b g with
  | none => exact l b q hq
  | some i => obtain ⟨c, hc⟩ := fnd_some hf; rw [f.fr i b c hc] at hq; cases hq
/-- a row's block -/
theorem famH_row (o : OkF g ll) {i : Nat} (hi : i < ll.length) : LkO (famH h T z enc g ll) (g.getD i (none, 0)).1 (.own T (enc (ll.getD i [])) ((g.getD i (none, 0)).2 * z)) := ⟨fun b hb => by
  have hg : i < g.length := by rw [o.len]; exact hi
  have e : g[i]? = some (some b, (g.getD i (none, 0)).2) := by
    rw [List.getElem?_eq_getElem hg]
    simp only [List.getD_eq_getElem?_getD, List.getElem?_eq_getElem hg, Option.getD_some] at hb ⊢
    rw [← hb]
  unfold famH
  rw [fnd_eq o.dis e]⟩
/-- what is known of the rows is known in a greater heap -/
theorem Le.famH_left {g' : Hp} (l : Le h g') (o : OkF g ll) (lk : ∀ i, i < ll.length → LkO g' (g.getD i (none, 0)).1 (.own T (enc (ll.getD i [])) ((g.getD i (none, 0)).2 * z))) : Le (famH h T z enc g ll) g' := fun b q hq => by
  unfold famH at hq
  cases hf : fnd b g with
  | none => rw [hf] at hq; exact l b q hq
  | some i =>
    rw [hf] at hq
    obtain ⟨c, hc⟩ := fnd_some hf
    have hi : i < g.length := (List.getElem?_eq_some_iff.1 hc).1
    rw [← hq]
    refine (lk i (by rw [← o.len]; exact hi)).lk b ?_
    simp [List.getD_eq_getElem?_getD, hc]
theorem LkO.thereF (n : NeOF B g) (l : LkO h B k) : LkO (famH h T z enc g ll) B k := ⟨fun b hb => (famH_ne (n.ne b hb)).trans (l.lk b hb)⟩
theorem Le.famH_both {h' : Hp} (l : Le h' h) : Le (famH h' T z enc g ll) (famH h T z enc g ll) := fun b q hq => by
  unfold famH at hq ⊢
  cases hf : fnd b g with
  | none => rw [hf] at hq; exact l b q hq
  | some i => rw [hf] at hq; exact hq
theorem famH_upd_comm (n : NeF c g) : upd (famH h T z enc g ll) c k = famH (upd h c k) T z enc g ll := by
  funext b
  unfold upd famH
  by_cases e : b = c
  · subst e; simp [n.ne]
  · simp [e]
theorem famH_updO_comm (n : NeOF B g) : updO (famH h T z enc g ll) B k = famH (updO h B k) T z enc g ll := by
  cases B with
  | none => rfl
  | some b => exact famH_upd_comm (n.ne b rfl)
theorem Del.thereF (n : NeF b g) (d : Del h b k h0) : Del (famH h T z enc g ll) b k (famH h0 T z enc g ll) := ⟨none_famH n d.none, by rw [famH_upd_comm n]; exact d.le.famH_both⟩
theorem DelO.thereF (n : NeOF B g) (d : DelO h B k h0) : DelO (famH h T z enc g ll) B k (famH h0 T z enc g ll) := ⟨frO_famH n d.fr, by rw [famH_updO_comm n]; exact d.le.famH_both⟩

theorem getD_set {β : Type} {l : List β} {i j : Nat} {v d : β} (hi : i < l.length) : (l.set i v).getD j d = if j = i then v else l.getD j d := by
  simp only [List.getD_eq_getElem?_getD, List.getElem?_set]
  by_cases e : j = i
  · subst e; simp [hi]
  · rw [if_neg (fun x => e x.symm), if_neg e]

/-- A row that is written. -/
theorem famH_set (o : OkF g ll) {i : Nat} {l' : List α} (hi : i < ll.length) (e : (g.getD i (none, 0)).1 = some b) : chg (famH h T z enc g ll) b (.own T (enc l') ((g.getD i (none, 0)).2 * z)) = famH h T z enc g (ll.set i l') := by
  have hg : i < g.length := by rw [o.len]; exact hi
  have hb : fnd b g = some i := fnd_eq o.dis (c := (g.getD i (none, 0)).2) (by
    rw [List.getElem?_eq_getElem hg]
    simp only [List.getD_eq_getElem?_getD, List.getElem?_eq_getElem hg, Option.getD_some] at e ⊢
    rw [← e])
  funext x
  unfold chg upd famH
  by_cases ex : x = b
  · subst ex
    rw [if_pos rfl, hb]
    simp only
    rw [getD_set hi, if_pos rfl]
  · rw [if_neg ex]
    cases hf : fnd x g with
    | none => rfl
    | some j =>
      have hji : j ≠ i := fun e' => by
        subst e'
        obtain ⟨c1, h1⟩ := fnd_some hf; obtain ⟨c2, h2⟩ := fnd_some hb
        rw [h1] at h2; cases h2; exact ex rfl
      simp only
      rw [getD_set hi, if_neg hji]
/-- A row that is taken out. -/
theorem DelO.row (o : OkF g ll) (f : FrF h g) {i : Nat} (hi : i < ll.length) : DelO (famH h T z enc g ll) (g.getD i (none, 0)).1 (.own T (enc (ll.getD i [])) ((g.getD i (none, 0)).2 * z)) (famH h T z enc (g.set i (none, 0)) ll) := by
  have hg : i < g.length := by rw [o.len]; exact hi
  have hset : ∀ (j b c : Nat), (g.set i (none, 0))[j]? = some (some b, c) → j ≠ i ∧ g[j]? = some (some b, c) := fun j b c e => by
    rw [List.getElem?_set] at e
    split at e
    · subst i; simp [hg] at e
    · rename_i hne; exact ⟨fun x => hne x.symm, e⟩
  have key : ∀ x, (g.getD i (none, 0)).1 ≠ some x → fnd x (g.set i (none, 0)) = fnd x g := fun x hx => by
    cases hf : fnd x g with
    | none => exact fnd_eq_none fun j c e => fnd_none hf j c (hset j x c e).2
    | some j =>
      obtain ⟨c, hc⟩ := fnd_some hf
      have hji : j ≠ i := fun e' => by
        subst e'
        simp [List.getD_eq_getElem?_getD, hc] at hx
      exact fnd_eq (fun a b' y c' d h1 h2 => o.dis a b' y c' d (hset a y c' h1).2 (hset b' y d h2).2) (c := c) (by rw [List.getElem?_set, if_neg (fun x => hji x.symm)]; exact hc)
  have hb : ∀ b, (g.getD i (none, 0)).1 = some b → g[i]? = some (some b, (g.getD i (none, 0)).2) := fun b e => by
    rw [List.getElem?_eq_getElem hg]
    simp only [List.getD_eq_getElem?_getD, List.getElem?_eq_getElem hg, Option.getD_some] at e ⊢
    rw [← e]
  refine ⟨⟨fun b e => none_famH ⟨fnd_eq_none fun j c e' => ?_⟩ (f.fr i b _ (hb b e))⟩, ?_⟩
  · obtain ⟨h1, h2⟩ := hset j b c e'
    exact h1 (o.dis j i b _ _ h2 (hb b e))
  · have eqv : updO (famH h T z enc (g.set i (none, 0)) ll) (g.getD i (none, 0)).1 (.own T (enc (ll.getD i [])) ((g.getD i (none, 0)).2 * z)) = famH h T z enc g ll := by
      funext x
      by_cases e : (g.getD i (none, 0)).1 = some x
      · rw [(famH_row o hi (h := h)).lk x e, e]
        exact upd_same _ _ _
      · rw [updO_ne ⟨fun b hb' hx => by subst hx; exact e hb'⟩]
        unfold famH
        rw [key x e]
        cases hf : fnd x g with
        | none => rfl
        | some j =>
          obtain ⟨c, hc⟩ := fnd_some hf
          have hji : j ≠ i := fun e' => by
            subst e'
            simp [List.getD_eq_getElem?_getD, hc] at e
          simp only
          rw [getD_set hg, if_neg hji]
    rw [eqv]; exact Le.refl _
/-- A row that is put in. -/
theorem Le.putRow {g' : Hp} {i : Nat} {l' : List α} {c' : Nat} (o : OkF g ll) (hi : i < ll.length) (n : NeOF B (g.set i (none, 0))) (l : Le (famH h T z enc (g.set i (none, 0)) ll) g') (lk : LkO g' B (.own T (enc l') (c' * z))) :
    Le (famH h T z enc (g.set i (B, c')) (ll.set i l')) g' := fun x q hq => by
  have hg : i < g.length := by rw [o.len]; exact hi
  unfold famH at hq
  cases hf : fnd x (g.set i (B, c')) with
  | none =>
    rw [hf] at hq
    refine l x q ?_
    rw [famH_ne ⟨fnd_eq_none fun j c e => ?_⟩]
    · exact hq
    · rw [List.getElem?_set] at e
      split at e
      · subst i; simp [hg] at e
      · rename_i hne
        exact fnd_none hf j c (by rw [List.getElem?_set, if_neg hne]; exact e)
  | some j =>
    rw [hf] at hq
    obtain ⟨c, hc⟩ := fnd_some hf
    simp only at hq
    rw [getD_set hi, getD_set hg] at hq
    by_cases e : j = i
    · subst e
      rw [List.getElem?_set, if_pos rfl, if_pos hg] at hc
      simp only [Option.some.injEq, Prod.mk.injEq] at hc
      rw [if_pos rfl, if_pos rfl] at hq
      rw [← hq]
      exact lk.lk x hc.1
    · rw [if_neg e, if_neg e] at hq
      rw [List.getElem?_set, if_neg (fun x => e x.symm)] at hc
      refine l x q ?_
      unfold famH
      have : fnd x (g.set i (none, 0)) = some j := fnd_eq (fun a b' y c' d h1 h2 => by
        have s : ∀ (j b c : Nat), (g.set i (none, 0))[j]? = some (some b, c) → g[j]? = some (some b, c) := fun j b c e2 => by
          rw [List.getElem?_set] at e2
          split at e2
          · subst i; simp [hg] at e2
          · exact e2
        exact o.dis a b' y c' d (s _ _ _ h1) (s _ _ _ h2)) (c := c) (by rw [List.getElem?_set, if_neg (fun x => e x.symm)]; exact hc)
      rw [this, ← hq]
      simp only
      rw [getD_set hg, if_neg e]
theorem NeOF.putRow {i : Nat} {l' : List α} {c' : Nat} (o : OkF g ll) (hi : i < ll.length) (n : NeOF B (g.set i (none, 0))) (ok : OkO B l'.length c') : OkF (g.set i (B, c')) (ll.set i l') := by
  have hg : i < g.length := by rw [o.len]; exact hi
  refine ⟨by simp [o.len], fun j hj => ?_, fun a b' y c1 d h1 h2 => ?_⟩
  · rw [getD_set hi, getD_set hg]
    by_cases e : j = i
    · simp only [e, if_true]; exact ok
    · simp only [e, if_false]; exact o.ok j (by simpa using hj)
  · rw [List.getElem?_set] at h1 h2
    have nn : ∀ (j d : Nat), j ≠ i → B = some y → g[j]? ≠ some (some y, d) := fun j d hj hB e => fnd_none (n.ne y hB).ne j d (by rw [List.getElem?_set, if_neg (fun x => hj x.symm)]; exact e)
    split at h1 <;> split at h2
    · omega
    · subst i; rename_i hne
      simp only [if_pos hg, Option.some.injEq, Prod.mk.injEq] at h1
      exact absurd h2 (nn b' d (fun x => hne x.symm) h1.1)
    · subst i; rename_i hne
      simp only [if_pos hg, Option.some.injEq, Prod.mk.injEq] at h2
      exact absurd h1 (nn a c1 (fun x => hne x.symm) h2.1)
    · exact o.dis a b' y c1 d h1 h2
/-- A row that is put behind. -/
theorem OkF.snoc {l' : List α} {c' : Nat} (o : OkF g ll) (n : NeOF B g) (ok : OkO B l'.length c') : OkF (g ++ [(B, c')]) (ll ++ [l']) := by
  have at_ : ∀ (j y d : Nat), (g ++ [(B, c')])[j]? = some (some y, d) → g[j]? = some (some y, d) ∨ j = g.length ∧ B = some y := fun j y d e => by
    rw [List.getElem?_append] at e
    split at e
    · exact .inl e
    · have hj : j - g.length = 0 := by
        cases hk : j - g.length with
        | zero => rfl
        | succ k => rw [hk] at e; simp at e
      rw [hj] at e
      simp only [List.getElem?_cons_zero, Option.some.injEq, Prod.mk.injEq] at e
      exact .inr ⟨by omega, e.1⟩
  refine ⟨by simp [o.len], fun j hj => ?_, fun a b' y c1 d h1 h2 => ?_⟩
  · simp only [List.getD_eq_getElem?_getD, List.getElem?_append, o.len]
    by_cases e : j < ll.length
    · rw [if_pos e, if_pos e]
      have := o.ok j e
      simpa only [List.getD_eq_getElem?_getD] using this
    · have ej : j = ll.length := by simp at hj; omega
      rw [if_neg e, if_neg e, ej]
      simpa using ok
  · rcases at_ a y c1 h1 with e1 | ⟨e1, e1'⟩ <;> rcases at_ b' y d h2 with e2 | ⟨e2, e2'⟩
    · exact o.dis a b' y c1 d e1 e2
    · exact absurd e1 (fnd_none (n.ne y e2').ne a c1)
    · exact absurd e2 (fnd_none (n.ne y e1').ne b' d)
    · omega
theorem FrF.snoc {c' : Nat} (f : FrF h g) (f' : FrO h B) : FrF h (g ++ [(B, c')]) := ⟨fun i b c e => by
  rw [List.getElem?_append] at e
  split at e
  · exact f.fr i b c e
  · cases hk : i - g.length with
    | zero => rw [hk] at e; simp only [List.getElem?_cons_zero, Option.some.injEq, Prod.mk.injEq] at e; exact f'.fr b e.1
    | succ k => rw [hk] at e; simp at e⟩
theorem FrF.set {i c' : Nat} (f : FrF h g) (f' : FrO h B) : FrF h (g.set i (B, c')) := ⟨fun j b c e => by
  rw [List.getElem?_set] at e
  split at e
  · split at e
    · simp only [Option.some.injEq, Prod.mk.injEq] at e; exact f'.fr b e.1
    · cases e
  · exact f.fr j b c e⟩
theorem getD_snoc {β : Type} {l : List β} {v d : β} {i : Nat} : (l ++ [v]).getD i d = if i < l.length then l.getD i d else if i = l.length then v else d := by
  simp only [List.getD_eq_getElem?_getD, List.getElem?_append]
  by_cases e : i < l.length
  · rw [if_pos e, if_pos e]
  · rw [if_neg e, if_neg e]
    by_cases e2 : i = l.length
    · subst e2; simp
    · rw [if_neg e2, List.getElem?_eq_none (by simp; omega)]; rfl
theorem fnd_snoc {x c' : Nat} : ∀ {g : List (Option Nat × Nat)}, fnd x (g ++ [(B, c')]) = match fnd x g with | some i => some i | none => if B = some x then some g.length else none
  | [] => by simp [fnd]
  | p :: r => by
    simp only [List.cons_append, fnd]
    split
    · rfl
    · rw [fnd_snoc]
      cases fnd x r with
      | some j => rfl
      | none =>
        simp only [Option.map_none, List.length_cons]
        split <;> rfl
theorem Le.snocRow {g' : Hp} {l' : List α} {c' : Nat} (o : OkF g ll) (l : Le (famH h T z enc g ll) g') (lk : LkO g' B (.own T (enc l') (c' * z))) : Le (famH h T z enc (g ++ [(B, c')]) (ll ++ [l'])) g' := fun x q hq => by
  unfold famH at hq
  rw [fnd_snoc] at hq
  cases hf : fnd x g with
  | some i =>
    rw [hf] at hq
    obtain ⟨c, hc⟩ := fnd_some hf
    have hi : i < g.length := (List.getElem?_eq_some_iff.1 hc).1
    simp only at hq
    rw [getD_snoc, getD_snoc, if_pos hi, if_pos (by rw [← o.len]; exact hi)] at hq
    exact l x q (by unfold famH; rw [hf]; exact hq)
  | none =>
    rw [hf] at hq
    simp only at hq
    by_cases e : B = some x
    · rw [if_pos e] at hq
      simp only at hq
      have ol := o.len
      rw [getD_snoc, getD_snoc, if_neg (by omega), if_pos ol, if_neg (by omega), if_pos rfl] at hq
      rw [← hq]
      exact lk.lk x e
    · rw [if_neg e] at hq
      exact l x q (by unfold famH; rw [hf]; exact hq)
theorem LkO.of {b : Nat} (e : h b = some k) : LkO h (some b) k := ⟨fun _ hb => by cases hb; exact e⟩
theorem NeF.of {b : Nat} (n : NeF b g) : NeOF (some b) g := ⟨fun _ hb => by cases hb; exact n⟩
theorem NeF.neO (n : NeF c g) (i : Nat) : NeO c (g.getD i (none, 0)).1 := ⟨fun b hb => by
  by_cases hi : i < g.length
  · refine n.at (i := i) (d := (g.getD i (none, 0)).2) ?_
    rw [List.getElem?_eq_getElem hi]
    simp only [List.getD_eq_getElem?_getD, List.getElem?_eq_getElem hi, Option.getD_some] at hb ⊢
    rw [← hb]
  · simp [List.getD_eq_getElem?_getD, List.getElem?_eq_none (Nat.le_of_not_lt hi)] at hb⟩
theorem NeOF.neOO (n : NeOF B g) (i : Nat) : NeOO (g.getD i (none, 0)).1 B := ⟨fun b d hb hd => ((n.ne d hd).neO i |>.ne b hb).symm⟩
theorem NeF.nei {b i : Nat} (n : NeF c g) (e : (g.getD i (none, 0)).1 = some b) : c ≠ b := (n.neO i).ne b e
theorem NeOF.nei {b i : Nat} (n : NeOF B g) (e : (g.getD i (none, 0)).1 = some b) : NeO b B := ⟨fun d hd => ((n.ne d hd).nei e).symm⟩
theorem NeF.hole (n : NeF c g) (i : Nat) : NeF c (g.set i (none, 0)) := ⟨fnd_eq_none fun j d e => by
  rw [List.getElem?_set] at e
  split at e
  · split at e
    · simp at e
    · cases e
  · exact fnd_none n.ne j d e⟩
theorem NeOF.hole (n : NeOF B g) (i : Nat) : NeOF B (g.set i (none, 0)) := ⟨fun b hb => (n.ne b hb).hole i⟩
theorem FrF.hole (f : FrF h g) (i : Nat) : FrF h (g.set i (none, 0)) := f.set frO_none
theorem NeF.snoc {c' : Nat} (n : NeF c g) (n' : NeO c B) : NeF c (g ++ [(B, c')]) := ⟨by
  rw [fnd_snoc, n.ne]
  simp only
  rw [if_neg (fun e => n'.ne c e rfl)]⟩
theorem NeOF.snoc {C : Option Nat} {c' : Nat} (n : NeOF C g) (n' : NeOO C B) : NeOF C (g ++ [(B, c')]) := ⟨fun c hc => (n.ne c hc).snoc ⟨fun b hb => n'.ne c b hc hb⟩⟩
theorem NeF.put {c' i : Nat} (n : NeF c (g.set i (none, 0))) (n' : NeO c B) : NeF c (g.set i (B, c')) := ⟨fnd_eq_none fun j d e => by
  rw [List.getElem?_set] at e
  split at e
  · split at e
    · simp only [Option.some.injEq, Prod.mk.injEq] at e; exact n'.ne c e.1 rfl
    · cases e
  · rename_i hne
    exact fnd_none n.ne j d (by rw [List.getElem?_set, if_neg hne]; exact e)⟩
theorem FrF.put {c' i : Nat} (f : FrF h (g.set i (none, 0))) (f' : FrO h B) : FrF h (g.set i (B, c')) := ⟨fun j b c e => by
  rw [List.getElem?_set] at e
  split at e
  · split at e
    · simp only [Option.some.injEq, Prod.mk.injEq] at e; exact f'.fr b e.1
    · cases e
  · rename_i hne
    exact f.fr j b c (by rw [List.getElem?_set, if_neg hne]; exact e)⟩
theorem Le.hole {g' : Hp} (f : FrF h g) (l : Le (famH h T z enc g ll) g') (o : OkF g ll) {i : Nat} (hi : i < ll.length) : Le (famH h T z enc (g.set i (none, 0)) ll) g' :=
  (Le.trans (Le.underO (Le.refl _) (DelO.row (T := T) (z := z) (enc := enc) o f hi).fr) (DelO.row o f hi).le).trans l
theorem OkF.setrow (o : OkF g ll) {i : Nat} {l' : List α} (hl : l'.length = (ll.getD i []).length) : OkF g (ll.set i l') := ⟨by simp [o.len], fun j hj => by
  have hj' : j < ll.length := by simpa using hj
  have e : ((ll.set i l').getD j []).length = (ll.getD j []).length := by
    by_cases e : j = i
    · subst e; rw [getD_set hj', if_pos rfl, hl]
    · simp only [List.getD_eq_getElem?_getD, List.getElem?_set, if_neg (fun x => e (Eq.symm x))]
  rw [e]; exact o.ok j hj', o.dis⟩
theorem fnd_hole {x i j : Nat} (o : OkF g ll) : fnd x (g.set i (none, 0)) = some j → j ≠ i ∧ fnd x g = some j := fun hf => by
  obtain ⟨c, hc⟩ := fnd_some hf
  rw [List.getElem?_set] at hc
  split at hc
  · split at hc
    · simp at hc
    · cases hc
  · rename_i hne
    exact ⟨fun e => hne e.symm, fnd_eq o.dis hc⟩
theorem famH_rowH (o : OkF g ll) {i j : Nat} (hj : j < ll.length) (hij : j ≠ i) : LkO (famH h T z enc (g.set i (none, 0)) ll) (g.getD j (none, 0)).1 (.own T (enc (ll.getD j [])) ((g.getD j (none, 0)).2 * z)) := ⟨fun b hb => by
  have hg : j < g.length := by rw [o.len]; exact hj
  have e : g[j]? = some (some b, (g.getD j (none, 0)).2) := by
    rw [List.getElem?_eq_getElem hg]
    simp only [List.getD_eq_getElem?_getD, List.getElem?_eq_getElem hg, Option.getD_some] at hb ⊢
    rw [← hb]
  have ef : fnd b (g.set i (none, 0)) = some j := by
    cases hf : fnd b (g.set i (none, 0)) with
    | none => exact absurd (show (g.set i (none, 0))[j]? = some (some b, (g.getD j (none, 0)).2) by rw [List.getElem?_set, if_neg (fun x => hij x.symm)]; exact e) (fnd_none hf j _)
    | some k =>
      have := (fnd_hole o hf).2
      rw [fnd_eq o.dis e] at this
      exact this.symm
  have hs : ∀ d, (g.set i (none, 0)).getD j d = g.getD j d := fun d => by simp only [List.getD_eq_getElem?_getD, List.getElem?_set, if_neg (fun x => hij (Eq.symm x))]
  unfold famH
  rw [ef]
  simp only [hs]⟩
theorem Le.famH_hole {g' : Hp} {i : Nat} (l : Le h g') (o : OkF g ll) (lk : ∀ j, j < ll.length → j ≠ i → LkO g' (g.getD j (none, 0)).1 (.own T (enc (ll.getD j [])) ((g.getD j (none, 0)).2 * z))) : Le (famH h T z enc (g.set i (none, 0)) ll) g' := fun x q hq => by
  unfold famH at hq
  cases hf : fnd x (g.set i (none, 0)) with
  | none => rw [hf] at hq; exact l x q hq
  | some j =>
    rw [hf] at hq
    obtain ⟨hji, hf'⟩ := fnd_hole o hf
    obtain ⟨c, hc⟩ := fnd_some hf'
    have hj : j < g.length := (List.getElem?_eq_some_iff.1 hc).1
    have hs : (g.set i (none, 0)).getD j (none, 0) = g.getD j (none, 0) := by simp only [List.getD_eq_getElem?_getD, List.getElem?_set, if_neg (fun x => hji (Eq.symm x))]
    simp only [hs] at hq
    rw [← hq]
    refine (lk j (by rw [← o.len]; exact hj) hji).lk x ?_
    simp [List.getD_eq_getElem?_getD, hc]
theorem getD_hole {i j : Nat} (hij : j ≠ i) : (g.set i (none, 0)).getD j (none, 0) = g.getD j (none, 0) := by simp only [List.getD_eq_getElem?_getD, List.getElem?_set, if_neg (fun x => hij (Eq.symm x))]
theorem NeF.neOH {i j : Nat} (n : NeF c (g.set i (none, 0))) (hij : j ≠ i) : NeO c (g.getD j (none, 0)).1 := by have := n.neO j; rwa [getD_hole hij] at this
theorem OkF.neOO (o : OkF g ll) {i j : Nat} (hij : i ≠ j) : NeOO (g.getD i (none, 0)).1 (g.getD j (none, 0)).1 := ⟨fun b c hb hc e => by
  subst e
  have at_ : ∀ k, (g.getD k (none, 0)).1 = some b → g[k]? = some (some b, (g.getD k (none, 0)).2) := fun k hk => by
    by_cases hi : k < g.length
    · rw [List.getElem?_eq_getElem hi]
      simp only [List.getD_eq_getElem?_getD, List.getElem?_eq_getElem hi, Option.getD_some] at hk ⊢
      rw [← hk]
    · simp [List.getD_eq_getElem?_getD, List.getElem?_eq_none (Nat.le_of_not_lt hi)] at hk
  exact hij (o.dis i j b _ _ (at_ i hb) (at_ j hc))⟩
theorem Chg.thereF {h' : Hp} (n : NeF b g) (r : Chg h b k h') : Chg (famH h T z enc g ll) b k (famH h' T z enc g ll) := Chg.eqn ((famH_upd_comm n).trans (congrArg (fun x => famH x T z enc g ll) r.eq))
end

/-! ## The cells of a slice of slices -/
def rowsA {α : Type} (g : List (Option Addr × Nat)) (ll : List (List α)) : List Value := (List.range ll.length).map fun i => .slice (g.getD i (none, 0)).1 (ll.getD i []).length (g.getD i (none, 0)).2
def rowsC {α : Type} (g : List (Option Nat × Nat)) (ll : List (List α)) : List Value := (List.range ll.length).map fun i => .slice (adO (g.getD i (none, 0)).1) (ll.getD i []).length (g.getD i (none, 0)).2
section
variable {α : Type} {g : List (Option Nat × Nat)} {ll : List (List α)} {B : Option Nat} {l' : List α} {c' : Nat}
theorem rowsA_length {g : List (Option Addr × Nat)} : (rowsA g ll).length = ll.length := by simp [rowsA]
theorem rowsC_length : (rowsC g ll).length = ll.length := by simp [rowsC]
theorem rowsA_get {g : List (Option Addr × Nat)} {i : Nat} (hi : i < ll.length) : (rowsA g ll)[i * 1]? = some (.slice (g.getD i (none, 0)).1 (ll.getD i []).length (g.getD i (none, 0)).2) := by
  simp [rowsA, hi]
theorem rowsC_get {i : Nat} (hi : i < ll.length) : (rowsC g ll)[0 + i * 1]? = some (.slice (adO (g.getD i (none, 0)).1) (ll.getD i []).length (g.getD i (none, 0)).2) := by
  simp [rowsC, hi]
theorem rowsC_snoc (o : g.length = ll.length) : rowsC g ll ++ [.slice (adO B) l'.length c'] = rowsC (g ++ [(B, c')]) (ll ++ [l']) := by
  unfold rowsC
  rw [List.length_append, List.length_cons, List.length_nil, List.range_succ, List.map_append, List.map_cons, List.map_nil]
  congr 1
  · refine List.map_congr_left fun i hi => ?_
    rw [List.mem_range] at hi
    rw [getD_snoc, getD_snoc, if_pos hi, if_pos (by omega)]
  · have e1 : (g ++ [(B, c')]).getD ll.length (none, 0) = (B, c') := by rw [getD_snoc, if_neg (by omega), if_pos o.symm]
    have e2 : (ll ++ [l']).getD ll.length [] = l' := by rw [getD_snoc, if_neg (by omega), if_pos rfl]
    rw [e1, e2]
theorem rowsC_set (o : g.length = ll.length) {i : Nat} (hi : i < ll.length) : (rowsC g ll).set (0 + i * 1) (.slice (adO B) l'.length c') = rowsC (g.set i (B, c')) (ll.set i l') := by
  apply List.ext_getElem?
  intro j
  rw [Nat.zero_add, Nat.mul_one, List.getElem?_set, rowsC_length]
  unfold rowsC
  simp only [List.getElem?_map, List.length_set]
  by_cases hj : j < ll.length
  · simp only [List.getElem?_range hj, Option.map_some]
    rw [getD_set hi, getD_set (by omega)]
    by_cases e : j = i
    · subst e; simp [hi]
    · rw [if_neg (fun x => e x.symm), if_neg e, if_neg e]
  · have : (List.range ll.length)[j]? = none := by simp; omega
    rw [this, if_neg (by omega)]; rfl
theorem rowsC_setlen {i : Nat} (hl : l'.length = (ll.getD i []).length) : rowsC g (ll.set i l') = rowsC g ll := by
  unfold rowsC
  rw [List.length_set]
  refine List.map_congr_left fun j hj => ?_
  rw [List.mem_range] at hj
  by_cases e : j = i
  · subst e; rw [getD_set hj, if_pos rfl, hl]
  · simp only [List.getD_eq_getElem?_getD, List.getElem?_set, if_neg (fun x => e (Eq.symm x))]
end

/-- From 'A' on a slice of slices can be read; where its rows lie, 'g' tells. -/
structure RdSS {α : Type} (h : Hp) (A : Option Addr) (enc : List α → List Value) (ll : List (List α)) (g : List (Option Addr × Nat)) : Prop where
  out : RdS h A (rowsA g ll)
  row : ∀ i, i < ll.length → RdS h (g.getD i (none, 0)).1 (enc (ll.getD i []))
section
variable {α : Type} {h h' : Hp} {A : Option Addr} {enc : List α → List Value} {ll : List (List α)} {ga : List (Option Addr × Nat)} {g : List (Option Nat × Nat)}
theorem RdSS.le (r : RdSS h A enc ll ga) (l : Le h h') : RdSS h' A enc ll ga := ⟨r.out.le l, fun i hi => (r.row i hi).le l⟩
theorem RdSS.nil : RdSS h A enc [] [] := ⟨RdS.nil, fun i hi => by simp at hi⟩
theorem RdSS.one {b n : Nat} {T : TypeId} {A1 : Option Addr} {l1 : List α} {c1 : Nat} (e : h b = some (.own T [.slice A1 l1.length c1] n)) (r1 : RdS h A1 (enc l1)) : RdSS h (some ⟨b, 0, none⟩) enc [l1] [(A1, c1)] :=
  ⟨RdS.own e, fun i hi => by
    match i, hi with
    | 0, _ => exact r1
    | i + 1, hi => simp at hi⟩
theorem RdSS.two {b n : Nat} {T : TypeId} {A1 A2 : Option Addr} {l1 l2 : List α} {c1 c2 : Nat} (e : h b = some (.own T [.slice A1 l1.length c1, .slice A2 l2.length c2] n)) (r1 : RdS h A1 (enc l1)) (r2 : RdS h A2 (enc l2)) : RdSS h (some ⟨b, 0, none⟩) enc [l1, l2] [(A1, c1), (A2, c2)] :=
  ⟨RdS.own e, fun i hi => by
    match i, hi with
    | 0, _ => exact r1
    | 1, _ => exact r2
    | i + 2, hi => simp at hi; omega⟩
/-- of rows of one's own -/
theorem RdSS.fam {A' : Option Addr} (ro : RdS h A' (rowsC g ll)) (rr : ∀ i, i < ll.length → RdS h (adO (g.getD i (none, 0)).1) (enc (ll.getD i []))) : RdSS h A' enc ll (g.map fun p => (adO p.1, p.2)) := by
  have e : ∀ i, (g.map fun p => (adO p.1, p.2)).getD i (none, 0) = (adO (g.getD i (none, 0)).1, (g.getD i (none, 0)).2) := fun i => by
    simp only [List.getD_eq_getElem?_getD, List.getElem?_map]
    cases g[i]? with
    | none => rfl
    | some p => rfl
  refine ⟨?_, fun i hi => by rw [e]; exact rr i hi⟩
  have : rowsA (g.map fun p => (adO p.1, p.2)) ll = rowsC g ll := by
    unfold rowsA rowsC
    refine List.map_congr_left fun i _ => ?_
    rw [e]
  rw [this]; exact ro
end
end Go.Abs
