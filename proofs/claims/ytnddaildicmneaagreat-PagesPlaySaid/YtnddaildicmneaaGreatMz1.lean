/-
  Parts of the proof, joined in build order: Base, KM, Region, Rec, DkP, KColl, RangeOf, Itp, RecSort, LayP, Dk1, Clone, Dk2, Str, RecBy.
-/
import Derived.WalkKit
import Derived.Below
import Derived.Laws.OwnMore
import Derived.Laws.BytesArg
import Derived.Deep.Draws
import Derived.Lib.Hide
import Derived.Test.YtnddaildicmneaaGreatRows
import Derived.Maps.OwnSet
import Derived.DeepKeys4
import Derived.OrdersHeld
import Derived.Deep.RegionHeld3
import Derived.Lib.Walk
import Derived.WalkSpells
import Derived.IntWalk
import Derived.Maps.AppendAt
import Derived.Laws.AppendOwnNone
import Derived.Deep.AppendLies
import Derived.Test.YtnddaildicmneaaGreatChecked
import GoSem.Core.Code
import Derived.Shelf.SlIterI.Nil
import Derived.Sort.EveryDepth
import Derived.Shelf.SlSortCmp.NoneTotal
import Derived.Shelf.SlSortCmp.WholeK
import Derived.Ground.SlsfProg
import Derived.Deep.RegionLaw
import Derived.Laws.IdiomStrings
set_option linter.unusedVariables false
set_option linter.unusedSimpArgs false
/-
  Plain words on memory that all texts of this seat share: which blocks a call keeps, a block known whole, a slice that reads as a list. No program in sight.
-/
namespace Go.Proofs.YtnddaildicmneaaGreat
open Go.RowKit

/-- `w'` is `w` but for the blocks in `S`, new blocks and draws. -/
structure Keeps (S : Nat → Prop) (w w' : World) : Prop where
  os : w'.os = w.os
  tape : w'.tape = w.tape
  output : w'.output = w.output
  size : w.heap.size ≤ w'.heap.size
  block : ∀ k, k < w.heap.size → ¬ S k → w'.heap[k]? = w.heap[k]?

/-- nothing but new blocks -/
def nowhere : Nat → Prop := fun _ => False
def only (p : Nat) : Nat → Prop := fun k => k = p
def only2 (p : Nat) (g : Option Nat) : Nat → Prop := fun k => k = p ∨ some k = g

section
variable {S T : Nat → Prop} {w w1 w' : World}
theorem Keeps.refl (S : Nat → Prop) (w : World) : Keeps S w w := ⟨rfl, rfl, rfl, Nat.le_refl _, fun _ _ _ => rfl⟩
theorem Keeps.trans (h : Keeps S w w1) (k : Keeps T w1 w') (hT : ∀ b, b < w.heap.size → T b → S b) : Keeps S w w' :=
  ⟨k.os.trans h.os, k.tape.trans h.tape, k.output.trans h.output, Nat.le_trans h.size k.size,
    fun b hb hs => (k.block b (Nat.lt_of_lt_of_le hb h.size) (fun ht => hs (hT b hb ht))).trans (h.block b hb hs)⟩
theorem Keeps.mono (h : Keeps S w w') (hT : ∀ b, b < w.heap.size → S b → T b) : Keeps T w w' :=
  ⟨h.os, h.tape, h.output, h.size, fun b hb ht => h.block b hb (fun hs => ht (hT b hb hs))⟩
theorem Keeps.drew (h : Keeps S w w') : Keeps S w w'.drew := ⟨h.os, h.tape, h.output, h.size, h.block⟩
theorem Keeps.drewN (h : Keeps S w w') (n : Nat) : Keeps S w (w'.drewN n) := ⟨h.os, h.tape, h.output, h.size, h.block⟩
theorem Keeps.alloc (h : Keeps S w w') (o : Obj) : Keeps S w (w'.alloc o) :=
  ⟨h.os, h.tape, h.output, by have := h.size; simp; omega, fun b hb hs => (Below.heap_alloc _ _ _ (Nat.lt_of_lt_of_le hb h.size)).trans (h.block b hb hs)⟩
theorem Keeps.setCell (h : Keeps S w w') {p : Addr} (hp : p.block < w.heap.size → S p.block) (u : Value) : Keeps S w (w'.setCell p u) :=
  ⟨h.os, h.tape, h.output, by have := h.size; simpa [World.setCell] using this, fun b hb hs => (Below.heap_setCell _ _ _ _ (fun e => hs (by subst e; exact hp hb))).trans (h.block b hb hs)⟩
theorem Keeps.grown (h : Keeps S w w1) {row : Option Nat} (hg : w1.grownBy w' row) (hr : ∀ k, row = some k → k < w.heap.size → S k) : Keeps S w w' :=
  h.trans (T := fun b => some b = row) ⟨hg.os, hg.tape, hg.output, hg.size, fun b hb hs => hg.block b hb hs⟩ fun b hb e => hr b e.symm hb
theorem Keeps.below (h : Keeps S w w') {B : Nat} (hB : B ≤ w.heap.size) (hS : ∀ b, b < B → ¬ S b) : Below B w w' :=
  ⟨h.os, h.tape, h.output, h.size, fun b hb => h.block b (Nat.lt_of_lt_of_le hb hB) (hS b hb)⟩
theorem Below.keeps (h : Below w.heap.size w w') : Keeps S w w' := ⟨h.os, h.tape, h.output, h.size, fun b hb _ => h.block b hb⟩
theorem Keeps.cell (h : Keeps S w w') {p : Addr} (hp : p.block < w.heap.size) (hs : ¬ S p.block) : w'.cell? p = w.cell? p := World.cell?_of_block (w := w) (h.block _ hp hs)
theorem Keeps.frozen (h : Keeps S w w') {p : Addr} (hp : p.block < w.heap.size) (hs : ¬ S p.block) : w'.frozen? p = w.frozen? p := World.frozen?_of_block (w := w) (h.block _ hp hs)
end

/-- `g1` is `g` or lies from `n` on -/
def From (g : Option Nat) (n : Nat) (g1 : Option Nat) : Prop := ∀ b, g1 = some b → g = some b ∨ n ≤ b
theorem From.refl (g : Option Nat) (n : Nat) : From g n g := fun _ h => .inl h
theorem From.trans {g g1 g2 : Option Nat} {n m : Nat} (h : From g n g1) (k : From g1 m g2) (hm : n ≤ m) : From g n g2 := fun b hb => by
  rcases k b hb with h1 | h1
  · exact h b h1
  · exact .inr (by omega)
theorem From.mono {g g1 : Option Nat} {n m : Nat} (h : From g n g1) (hm : m ≤ n) : From g m g1 := fun b hb => (h b hb).imp_right (by omega)
theorem not_only2 {p B : Nat} {g : Option Nat} (hp : p < B) (hg : ∀ b, g = some b → b < B) : ¬ only2 p g B := fun h =>
  h.elim (fun e => by omega) (fun e => absurd (hg _ e.symm) (by omega))
theorem not_only2_from {p B n : Nat} {g g1 : Option Nat} (h : ¬ only2 p g B) (hg : From g n g1) (hB : B < n) : ¬ only2 p g1 B := fun h1 =>
  h1.elim (fun e => h (.inl e)) (fun e => (hg B e.symm).elim (fun e' => h (.inr e'.symm)) (fun e' => by omega))
theorem Keeps.trans2 {p n : Nat} {g g1 : Option Nat} {w w1 w2 : World} (hk : Keeps (only2 p g) w w1) (hg : From g n g1) (hn : w.heap.size ≤ n) (hk1 : Keeps (only2 p g1) w1 w2) : Keeps (only2 p g) w w2 :=
  hk.trans hk1 fun b hb h => h.elim (fun e => .inl e) (fun e => (hg b e.symm).elim (fun e' => .inr e'.symm) (fun e' => by omega))

/-- `g`, if any, lies from `n` on | below `n` -/
def Above (n : Nat) (g : Option Nat) : Prop := ∀ b, g = some b → n ≤ b
def Under (n : Nat) (g : Option Nat) : Prop := ∀ b, g = some b → b < n
theorem Above.none (n : Nat) : Above n none := fun _ h => by cases h
theorem Under.none (n : Nat) : Under n none := fun _ h => by cases h
theorem Above.of_from {g g1 : Option Nat} {n m : Nat} (h : Above n g) (k : From g m g1) (hm : n ≤ m) : Above n g1 := fun b hb => (k b hb).elim (h b) (by omega)
theorem Above.mono {g : Option Nat} {n m : Nat} (h : Above n g) (hm : m ≤ n) : Above m g := fun b hb => Nat.le_trans hm (h b hb)
theorem Under.mono {g : Option Nat} {n m : Nat} (h : Under n g) (hm : n ≤ m) : Under m g := fun b hb => Nat.lt_of_lt_of_le (h b hb) hm
theorem Keeps.fresh {p : Nat} {w w1 w' : World} (h : Keeps nowhere w w1) (k : Keeps (only p) w1 w') (hp : w.heap.size ≤ p) : Keeps nowhere w w' :=
  h.trans k fun b hb e => by unfold only at e; omega
theorem Keeps.fresh2 {p : Nat} {g : Option Nat} {w w1 w' : World} (h : Keeps nowhere w w1) (k : Keeps (only2 p g) w1 w') (hp : w.heap.size ≤ p) (hg : Above w.heap.size g) : Keeps nowhere w w' :=
  h.trans k fun b hb e => e.elim (fun e => by omega) (fun e => by have := hg b e.symm; omega)
theorem Keeps.more {w w1 w' : World} (h : Keeps nowhere w w1) (k : Keeps nowhere w1 w') : Keeps nowhere w w' := h.trans k fun _ _ e => e

/-- Block `g` is just the cells `cs` of element type `t`, none frozen. -/
def Blk (w : World) (g : Nat) (t : TypeId) (cs : Array Value) : Prop := w.heap[g]? = some (.cells cs t (0, 0))

section
variable {w w' : World} {g : Nat} {t : TypeId} {cs : Array Value}
theorem Blk.lt (h : Blk w g t cs) : g < w.heap.size := by
  rcases Nat.lt_or_ge g w.heap.size with hlt | hge
  · exact hlt
  · unfold Blk at h; rw [Array.getElem?_eq_none hge] at h; cases h
theorem Blk.cell (h : Blk w g t cs) (i : Nat) : w.cell? ⟨g, i, none⟩ = cs[i]? := cell_of_row w g i cs t (0, 0) h
theorem Blk.frozen (h : Blk w g t cs) (i : Nat) : w.frozen? ⟨g, i, none⟩ = false := frozen_of_row w g i cs t h
theorem Blk.new (w : World) (t : TypeId) (cs : Array Value) : Blk (w.alloc (.cells cs t)) w.heap.size t cs := heap_alloc_new w _
theorem Blk.drew (h : Blk w g t cs) : Blk w.drew g t cs := h
theorem Blk.drewN (h : Blk w g t cs) (n : Nat) : Blk (w.drewN n) g t cs := h
theorem Blk.alloc (h : Blk w g t cs) (o : Obj) : Blk (w.alloc o) g t cs := (Below.heap_alloc w o g h.lt).trans h
theorem Blk.set_ (h : Blk w g t cs) (i : Nat) (u : Value) : Blk (w.setCell ⟨g, i, none⟩ u) g t (cs.setIfInBounds i u) := by
  unfold Blk at h ⊢
  simp [World.setCell, Array.getElem?_modify, h]
theorem Blk.far (h : Blk w g t cs) {p : Addr} (hp : g ≠ p.block) (u : Value) : Blk (w.setCell p u) g t cs := (Below.heap_setCell w p u g hp).trans h
theorem Blk.keep {S : Nat → Prop} (h : Blk w g t cs) (hk : Keeps S w w') (hs : ¬ S g) : Blk w' g t cs := (hk.block g h.lt hs).trans h
theorem Blk.grown {row : Option Nat} (h : Blk w g t cs) (hb : w.grownBy w' row) (hg : some g ≠ row) : Blk w' g t cs := (hb.block g h.lt hg).trans h
theorem Blk.ne_ {g' : Nat} {t' : TypeId} {cs' : Array Value} (h : Blk w g t cs) (h' : Blk w g' t' cs') (hne : t ≠ t') : g ≠ g' := by
  rintro rfl
  unfold Blk at h h'
  rw [h] at h'
  injection h' with h'
  injection h' with _ ht
  exact hne ht
theorem Blk.inj {cs' : Array Value} {t' : TypeId} (h : Blk w g t cs) (h' : Blk w g t' cs') : cs = cs' := by
  unfold Blk at h h'
  rw [h] at h'
  injection h' with h'
  injection h'
theorem own_blk_ne {base : Nat} {e : TypeId} {size n : Nat} {v : Value} {xs : List Value} (h : w.ownsRow base e size v n xs) (hg : Blk w g t cs) (hne : e ≠ t) : v.ownBlock ≠ some g := by
  rcases h.2 with ⟨rfl, _⟩ | ⟨g', cap, cur, rfl, _, hh, _⟩
  · simp [Value.ownBlock]
  · intro he
    have : g' = g := by simpa [Value.ownBlock] using he
    subst this
    exact Blk.ne_ (t := e) hh hg hne rfl
theorem own_keep {base : Nat} {e : TypeId} {size n : Nat} {v : Value} {xs : List Value} {S : Nat → Prop} (h : w.ownsRow base e size v n xs) (hk : Keeps S w w') (hs : ∀ b, v.ownBlock = some b → ¬ S b) : w'.ownsRow base e size v n xs := by
  obtain ⟨h1, h2⟩ := h
  refine ⟨h1, ?_⟩
  rcases h2 with h2 | ⟨g, cap, cur, rfl, hb, hg, rest⟩
  · exact .inl h2
  · exact .inr ⟨g, cap, cur, rfl, hb, (hk.block g (Array.getElem?_eq_some_iff.1 hg).1 (hs g rfl)).trans hg, rest⟩
end

/-- A slice value that reads as the cells `xs` (one cell an element); nil reads as nothing. `g` is the block that is read, if any. Of a slice without elements the address is not looked at. -/
def Rd (w : World) (v : Value) (g : Option Nat) (xs : List Value) : Prop :=
  (v = .slice none 0 0 ∧ g = none ∧ xs = []) ∨
  ∃ a cap, v = .slice (some a) xs.length cap ∧ Under w.heap.size g ∧ (0 < xs.length → g = some a.block ∧ a.spot = none) ∧ xs.length ≤ cap ∧ cap ≤ maxLen ∧ ∀ j u, xs[j]? = some u → w.cell? (a.add j) = some u

theorem add_block (a : Addr) (j : Nat) : (a.add j).block = a.block := by unfold Addr.add; split <;> rfl
theorem add_add' (a : Addr) (i j : Nat) : (a.add i).add j = a.add (i + j) := by
  unfold Addr.add
  by_cases hi : i = 0 <;> by_cases hj : j = 0 <;> simp [hi, hj, Nat.add_assoc]
theorem pos_of_get {α : Type} {l : List α} {j : Nat} {u : α} (h : l[j]? = some u) : 0 < l.length := by
  have := (List.getElem?_eq_some_iff.1 h).1
  omega

section
variable {w w' : World} {v : Value} {g : Option Nat} {xs : List Value}
theorem Rd.keep {S : Nat → Prop} (h : Rd w v g xs) (hk : Keeps S w w') (hs : ∀ b, g = some b → ¬ S b) : Rd w' v g xs := by
  rcases h with h | ⟨a, cap, hv, hu, hg, h1, h2, h3⟩
  · exact .inl h
  · exact .inr ⟨a, cap, hv, hu.mono hk.size, hg, h1, h2, fun j u hj => by
      have hga := (hg (pos_of_get hj)).1
      exact (hk.cell (p := a.add j) (by rw [add_block]; exact hu _ hga) (by rw [add_block]; exact hs _ hga)).trans (h3 j u hj)⟩
theorem Rd.lt (h : Rd w v g xs) : Under w.heap.size g := by
  rcases h with ⟨_, hg, _⟩ | ⟨a, cap, hv, hu, _⟩
  · rw [hg]; exact Under.none _
  · exact hu
theorem Rd.nil (w : World) : Rd w (.slice none 0 0) none [] := .inl ⟨rfl, rfl, rfl⟩
theorem Rd.of_own {e : TypeId} {base : Nat} {n : Nat} (h : w.ownsRow base e 1 v n xs) : Rd w v v.ownBlock xs := by
  have hc := fun g (hg : v.ownBlock = some g) => h.cells hg
  have hlt := h.lt
  obtain ⟨h1, h2⟩ := h
  rcases h2 with ⟨rfl, h2⟩ | ⟨b, cap, cur, rfl, hb, hg, h3, h4, h5, h6⟩
  · exact .inl ⟨rfl, rfl, List.eq_nil_of_length_eq_zero (by omega)⟩
  · have hl : xs.length = n := by omega
    exact .inr ⟨⟨b, 0, none⟩, cap, by rw [hl], fun b hb => (hlt b hb).2, fun _ => ⟨rfl, rfl⟩, by omega, h4, hc b rfl⟩
theorem Rd.le (h : Rd w v g xs) : xs.length ≤ maxLen := by
  rcases h with ⟨_, _, rfl⟩ | ⟨a, cap, hv, _, _, h1, h2, _⟩
  · simp [maxLen]
  · omega
/-- `x[:k]` -/
theorem Rd.take (h : Rd w v g xs) (k : Nat) (hk : k ≤ xs.length) : ∀ A n c, v = .slice A n c → Rd w (.slice A k c) g (xs.take k) := by
  intro A n c hv
  rcases h with ⟨h1, h2, h3⟩ | ⟨a, cap, hv', hu, hg, h1, h2, h3⟩
  · subst h3; rw [h1] at hv; injection hv with ha hn hc; subst ha; subst hc
    have : k = 0 := by simpa using hk
    subst this
    exact .inl ⟨rfl, h2, by simp⟩
  · rw [hv'] at hv; injection hv with ha hn hc; subst ha; subst hc
    have hl : (xs.take k).length = k := by simp; omega
    refine .inr ⟨a, cap, by rw [hl], hu, fun hp => hg (by omega), by omega, h2, fun j u hj => ?_⟩
    rw [List.getElem?_take] at hj
    split at hj
    · exact h3 j u hj
    · cases hj
/-- `x[k:]` as the model spells it -/
theorem Rd.drop (h : Rd w v g xs) (k : Nat) (hk : k ≤ xs.length) : ∀ A n c, v = .slice A n c → Rd w (.slice (if c = k then A else A.map (·.add (k * 1))) (n - k) (c - k)) g (xs.drop k) := by
  intro A n c hv
  rcases h with ⟨h1, h2, h3⟩ | ⟨a, cap, hv', hu, hg, h1, h2, h3⟩
  · subst h3; rw [h1] at hv; injection hv with ha hn hc; subst ha; subst hc; subst hn
    have : k = 0 := by simpa using hk
    subst this
    exact .inl ⟨by simp, h2, by simp⟩
  · rw [hv'] at hv; injection hv with ha hn hc; subst ha; subst hc; subst hn
    by_cases hc : cap = k
    · have hkx : k = xs.length := by omega
      refine .inr ⟨a, cap - k, by simp [hc], hu, fun hp => absurd hp (by simp; omega), by simp; omega, by omega, fun j u hj => ?_⟩
      rw [List.getElem?_drop, List.getElem?_eq_none (by omega)] at hj
      cases hj
    · refine .inr ⟨a.add k, cap - k, by simp [hc], hu, fun hp => ?_, by simp; omega, by omega, fun j u hj => ?_⟩
      · have := hg (by simp at hp; omega)
        refine ⟨by rw [add_block]; exact this.1, ?_⟩
        unfold Addr.add
        split
        · exact this.2
        · rfl
      · rw [List.getElem?_drop] at hj
        rw [add_add']
        exact h3 _ u hj
/-- a whole block as a slice -/
theorem Rd.full {t : TypeId} {b : Nat} {cs : Array Value} {fz : Nat × Nat} (h : w.heap[b]? = some (.cells cs t fz)) (hm : cs.size ≤ maxLen) : Rd w (.slice (some ⟨b, 0, none⟩) cs.size cs.size) (some b) cs.toList :=
  .inr ⟨⟨b, 0, none⟩, cs.size, by simp, fun b' hb' => by injection hb' with hb'; subst hb'; exact (Array.getElem?_eq_some_iff.1 h).1, fun _ => ⟨rfl, rfl⟩, by simp, hm, fun j u hj => by rw [Addr.add_lit, Nat.zero_add, cell_of_row w b j cs t fz h]; simpa using hj⟩
/-- its form -/
theorem Rd.form (h : Rd w v g xs) : ∃ A c, v = .slice A xs.length c ∧ xs.length ≤ c ∧ c ≤ maxLen := by
  rcases h with ⟨rfl, _, rfl⟩ | ⟨a, cap, hv, _, _, h1, h2, _⟩
  · exact ⟨none, 0, rfl, Nat.le_refl _, Nat.zero_le _⟩
  · exact ⟨_, cap, hv, h1, h2⟩
/-- where there are elements -/
theorem Rd.plain (h : Rd w v g xs) (hp : 0 < xs.length) : ∃ b off cap, v = .slice (some ⟨b, off, none⟩) xs.length cap ∧ g = some b ∧ b < w.heap.size ∧ xs.length ≤ cap ∧ cap ≤ maxLen ∧ ∀ j u, xs[j]? = some u → w.cell? ⟨b, off + j, none⟩ = some u := by
  rcases h with ⟨_, _, rfl⟩ | ⟨⟨b, off, spot⟩, cap, hv, hu, hg, h1, h2, h3⟩
  · simp at hp
  · obtain ⟨hg1, rfl⟩ := hg hp
    exact ⟨b, off, cap, hv, hg1, hu _ hg1, h1, h2, fun j u hj => by rw [← Addr.add_lit]; exact h3 j u hj⟩
end

/-- a byte as a value -/
def bv (b : UInt8) : Value := .int .u8 (b.toNat : Int)
theorem bv_one (L : List UInt8) : ∀ u ∈ L.map bv, u.oneCell' = true := by
  intro u hu
  obtain ⟨x, _, rfl⟩ := List.mem_map.1 hu
  rfl
theorem get_bv (L : List UInt8) (j : Nat) (h : j < L.length) : (L.map bv)[j]? = some (bv L[j]) := by simp [h]
end Go.Proofs.YtnddaildicmneaaGreat
/-
  Maps whose entries are known as a list: any type of key, any values. Plain words.
-/
namespace Go.Proofs.YtnddaildicmneaaGreat
open Go.RowKit Go.Maps

/-- a type of keys -/
structure KeyT (κ : Type) where
  t : TypeId
  val : κ → Value
  ok : κ → Prop
  keyed : Keyed Tryz.prog t
  key : ∀ x, ok x → ∃ kl, keyOf Tryz.prog t (val x) = some kl
  inj : ∀ x y, val x = val y → x = y
  inv : ∀ v kl, keyOf Tryz.prog t v = some kl → ∃ x, v = val x ∧ ok x

section
variable {κ : Type}
noncomputable def KeyT.lit (K : KeyT κ) (x : κ) : Lit := @Classical.epsilon Lit ⟨.nil⟩ fun kl => keyOf Tryz.prog K.t (K.val x) = some kl
theorem KeyT.litOf (K : KeyT κ) {x : κ} (h : K.ok x) : keyOf Tryz.prog K.t (K.val x) = some (K.lit x) := by
  exact @Classical.epsilon_spec_aux Lit ⟨.nil⟩ (fun kl => keyOf Tryz.prog K.t (K.val x) = some kl) (K.key x h)
theorem KeyT.lit_inj (K : KeyT κ) {x y : κ} (hx : K.ok x) (hy : K.ok y) (h : K.lit x = K.lit y) : x = y :=
  K.inj _ _ (K.keyed.inj (K.litOf hx) (by rw [h]; exact K.litOf hy))
theorem KeyT.isKey (K : KeyT κ) {x : κ} (hx : K.ok x) : WideAt.IsKeyLit (K.lit x) := K.keyed.key (K.litOf hx)

/-- how an element reads: as itself -/
def rdAny (v : Value) : Option (DataW Value × List MemPlace) := some (.held v, [])
theorem rdAny_inv {v : Value} {z : DataW Value} {ps : List MemPlace} (h : rdAny v = some (z, ps)) : z = .held v := by
  unfold rdAny at h; injection h with h; injection h with h _; exact h.symm

variable [DecidableEq κ]
def asc (l : List (κ × Value)) (x : κ) : Option Value := (l.find? fun p => decide (p.1 = x)).map (·.2)
theorem asc_nil (x : κ) : asc ([] : List (κ × Value)) x = none := rfl
theorem asc_none {l : List (κ × Value)} {x : κ} (h : ∀ p ∈ l, p.1 ≠ x) : asc l x = none := by
  unfold asc
  rw [List.find?_eq_none.2 (fun p hp => by simpa using h p hp)]; rfl
theorem asc_app (l m : List (κ × Value)) (x : κ) : asc (l ++ m) x = (asc l x).or (asc m x) := by
  unfold asc
  rw [List.find?_append]
  cases l.find? fun p => decide (p.1 = x) <;> rfl
theorem asc_one (x : κ) (v : Value) (y : κ) : asc [(x, v)] y = if x = y then some v else none := by
  unfold asc
  by_cases h : x = y <;> simp [h]
theorem asc_mem {l : List (κ × Value)} {x : κ} {v : Value} (h : asc l x = some v) : (x, v) ∈ l := by
  unfold asc at h
  obtain ⟨p, hp, rfl⟩ := Option.map_eq_some_iff.1 h
  have h1 := List.mem_of_find?_eq_some hp
  have h2 := List.find?_some hp
  simp only [decide_eq_true_eq] at h2
  subst h2
  exact h1
theorem asc_is {l : List (κ × Value)} (hn : (l.map (·.1)).Nodup) {x : κ} {v : Value} (h : (x, v) ∈ l) : asc l x = some v := by
  cases hc : asc l x with
  | none =>
    unfold asc at hc
    rw [Option.map_eq_none_iff, List.find?_eq_none] at hc
    exact absurd (hc _ h) (by simp)
  | some u =>
    have h1 := asc_mem hc
    obtain ⟨i, hi, e1⟩ := List.getElem_of_mem h
    obtain ⟨j, hj, e2⟩ := List.getElem_of_mem h1
    have : i = j := by
      have hi2 : i < (l.map (·.1)).length := by simpa using hi
      have hj2 : j < (l.map (·.1)).length := by simpa using hj
      refine (List.getElem_inj (h₀ := hi2) (h₁ := hj2) hn).1 ?_
      simp [e1, e2]
    subst this
    rw [e1] at e2
    injection e2 with _ e2
    rw [e2]
theorem asc_isSome {l : List (κ × Value)} {x : κ} : (asc l x).isSome = true ↔ x ∈ l.map (·.1) := by
  constructor
  · intro h
    obtain ⟨v, hv⟩ := Option.isSome_iff_exists.1 h
    exact List.mem_map.2 ⟨_, asc_mem hv, rfl⟩
  · intro h
    cases hc : asc l x with
    | some v => rfl
    | none =>
      obtain ⟨p, hp, rfl⟩ := List.mem_map.1 h
      unfold asc at hc
      rw [Option.map_eq_none_iff, List.find?_eq_none] at hc
      exact absurd (hc _ hp) (by simp)
/-- one is put: at the end; its elder is gone -/
def putA (l : List (κ × Value)) (x : κ) (v : Value) : List (κ × Value) := (l.filter fun p => !decide (p.1 = x)) ++ [(x, v)]
def delA (l : List (κ × Value)) (x : κ) : List (κ × Value) := l.filter fun p => !decide (p.1 = x)
theorem asc_del (l : List (κ × Value)) (x y : κ) : asc (delA l x) y = if x = y then none else asc l y := by
  unfold asc delA
  by_cases h : x = y
  · subst h
    rw [if_pos rfl, List.find?_eq_none.2 (fun p hp => by have := (List.mem_filter.1 hp).2; simpa using this)]; rfl
  · rw [if_neg h]
    congr 1
    refine find_filter_keep (fun p hp => ?_) l
    simp only [decide_eq_true_eq] at hp
    subst hp
    simp only [Bool.not_eq_true', decide_eq_false_iff_not]
    exact fun e => h e.symm
theorem asc_put (l : List (κ × Value)) (x : κ) (v : Value) (y : κ) : asc (putA l x v) y = if x = y then some v else asc l y := by
  rw [putA, asc_app, asc_one, show (l.filter fun p => !decide (p.1 = x)) = delA l x from rfl, asc_del]
  by_cases h : x = y <;> simp [h]
theorem delA_none {l : List (κ × Value)} {x : κ} (h : ∀ p ∈ l, p.1 ≠ x) : delA l x = l :=
  List.filter_eq_self.2 (fun p hp => by simpa using h p hp)
theorem putA_new {l : List (κ × Value)} {x : κ} (h : ∀ p ∈ l, p.1 ≠ x) (v : Value) : putA l x v = l ++ [(x, v)] := by
  rw [putA, show (l.filter fun p => !decide (p.1 = x)) = delA l x from rfl, delA_none h]
theorem nodup_delA {l : List (κ × Value)} (h : (l.map (·.1)).Nodup) (x : κ) : ((delA l x).map (·.1)).Nodup := h.sublist ((List.filter_sublist).map _)
theorem nodup_putA {l : List (κ × Value)} (h : (l.map (·.1)).Nodup) (x : κ) (v : Value) : ((putA l x v).map (·.1)).Nodup := by
  rw [putA, List.map_append]
  refine List.nodup_append.2 ⟨nodup_delA h x, by simp, fun a ha b hb => ?_⟩
  simp at hb
  subst hb
  obtain ⟨p, hp, rfl⟩ := List.mem_map.1 ha
  have := (List.mem_filter.1 hp).2
  simpa using this
theorem length_delA (l : List (κ × Value)) (hn : (l.map (·.1)).Nodup) (x : κ) : (delA l x).length + (if (asc l x).isSome = true then 1 else 0) = l.length := by
  induction l with
  | nil => rfl
  | cons p l ih =>
    obtain ⟨h1, h2⟩ := List.nodup_cons.1 hn
    have ih := ih h2
    by_cases h : p.1 = x
    · subst h
      have hno : ∀ q ∈ l, q.1 ≠ p.1 := fun q hq e => h1 (List.mem_map.2 ⟨q, hq, e⟩)
      have e1 : delA (p :: l) p.1 = l := by
        rw [delA, List.filter_cons, if_neg (by simp)]; exact delA_none hno
      have e2 : (asc (p :: l) p.1).isSome = true := by simp [asc]
      rw [e1, if_pos e2]; rfl
    · have e1 : delA (p :: l) x = p :: delA l x := by rw [delA, List.filter_cons, if_pos (by simp [h])]; rfl
      have e2 : asc (p :: l) x = asc l x := by unfold asc; rw [List.find?_cons, show decide (p.1 = x) = false by simp [h]]
      rw [e1, e2, List.length_cons, List.length_cons]
      omega

/-- block `b` is the map with the entries `l`, in any order -/
structure KMap (K : KeyT κ) (w : World) (b : Nat) (l : List (κ × Value)) : Prop where
  own : ∃ D, w.ownsMap Tryz.prog K.t rdAny b l.length D ∧ size D = l.length ∧ ∀ x, K.ok x → ∀ z, D.atKey (K.lit x) z = match asc l x with | some v => .held v | none => z
  ok : ∀ p ∈ l, K.ok p.1
  nd : (l.map (·.1)).Nodup
variable {K : KeyT κ} {w w' : World} {b : Nat} {l : List (κ × Value)}
theorem KMap.lt (h : KMap K w b l) : b < w.heap.size := by
  obtain ⟨D, h1, -⟩ := h.own
  exact h1.lt
theorem KMap.keep {S : Nat → Prop} (h : KMap K w b l) (hk : Keeps S w w') (hs : ¬ S b) : KMap K w' b l := by
  obtain ⟨D, ⟨es, clock, hb, F, hn, hD⟩, h2⟩ := h.own
  exact ⟨⟨D, ⟨es, clock, (hk.block b (Array.getElem?_eq_some_iff.1 hb).1 hs).trans hb, F, hn, hD⟩, h2⟩, h.ok, h.nd⟩
theorem KMap.same (h : KMap K w b l) (hk : Keeps nowhere w w') : KMap K w' b l := h.keep hk (fun h => h)
theorem KMap.ne_blk {q : Nat} {T : TypeId} {cs : Array Value} (h : KMap K w b l) (hb : Blk w q T cs) : q ≠ b := by
  rintro rfl
  obtain ⟨D, ⟨es, clock, hb2, -⟩, -⟩ := h.own
  unfold Blk at hb
  rw [hb] at hb2
  cases hb2
theorem KMap.new (K : KeyT κ) (w : World) : KMap K (w.alloc (.map #[] 0)) w.heap.size [] :=
  ⟨⟨.map [], World.ownsMap_made w _ _ _, rfl, fun x _ z => rfl⟩, by simp, by simp⟩
theorem KMap.has (h : KMap K w b l) : ∃ D, w.ownsMap Tryz.prog K.t rdAny b l.length D ∧ size D = l.length ∧ ∀ x, K.ok x → (Maps.has D (K.lit x) = true ↔ x ∈ l.map (·.1)) := by
  obtain ⟨D, h1, h2, h3⟩ := h.own
  refine ⟨D, h1, h2, fun x hx => ?_⟩
  rw [← asc_isSome]
  cases ha : asc l x with
  | none => rw [has_false_of_atKey (fun z => by rw [h3 x hx, ha])]; simp
  | some v => rw [has_true_of_atKey (y := .held v) (fun z => by rw [h3 x hx, ha])]; simp
theorem mapTurned_only {w w' : World} {b : Nat} (h : w.mapTurned w' b) : Keeps (fun k => k = b) w w' :=
  (Keeps.refl _ w).grown h.grown (fun k e _ => by injection e with e; exact e.symm)

variable {t e : TypeId}
theorem KMap.len (h : KMap K w b l) (ht : Tryz.prog.underlying t = some (.map K.t e)) (ty : TypeId) : (Builtin.len_ #[t] ty #[.map (some b)]).run Tryz.prog w = .ok (.int .i64 l.length) w := by
  obtain ⟨D, h1, h2, -⟩ := h.own
  rw [h1.len ht ty, h2]
theorem KMap.look (h : KMap K w b l) (ht : Tryz.prog.underlying t = some (.map K.t e)) {z : Value} (hz : (zeroValue e).run Tryz.prog w = .ok z w) {x : κ} (hx : K.ok x) :
    (Instr.lookup t (.map (some b)) (K.val x) false).run Tryz.prog w = .ok ((asc l x).getD z) w := by
  obtain ⟨D, h1, -, h3⟩ := h.own
  obtain ⟨v, ps, hrun, hv⟩ := h1.lookup K.keyed ht hz (zd := .held z) (zp := []) rfl (K.litOf hx)
  have := rdAny_inv hv
  rw [h3 x hx] at this
  rw [hrun]
  cases ha : asc l x with
  | none => rw [ha] at this; have e := DataW.held.inj this; subst e; simp only [Option.getD_none]
  | some u => rw [ha] at this; have e := DataW.held.inj this; subst e; simp only [Option.getD_some]
theorem KMap.look_ok (h : KMap K w b l) (ht : Tryz.prog.underlying t = some (.map K.t e)) {z : Value} (hz : (zeroValue e).run Tryz.prog w = .ok z w) {x : κ} (hx : K.ok x) :
    (Instr.lookup t (.map (some b)) (K.val x) true).run Tryz.prog w = .ok (.tuple #[(asc l x).getD z, .bool (asc l x).isSome]) w := by
  obtain ⟨D, h1, -, h3⟩ := h.own
  obtain ⟨v, ps, hrun, hv⟩ := h1.look_ok K.keyed ht hz (zd := .held z) (zp := []) rfl (K.litOf hx)
  have := rdAny_inv hv
  rw [h3 x hx] at this
  rw [hrun]
  cases ha : asc l x with
  | none => rw [ha] at this; have e := DataW.held.inj this; subst e; rw [has_false_of_atKey (fun z => by rw [h3 x hx, ha])]; simp only [Option.getD_none, Option.isSome_none]
  | some u => rw [ha] at this; have e := DataW.held.inj this; subst e; rw [has_true_of_atKey (y := .held u) (fun z => by rw [h3 x hx, ha])]; simp only [Option.getD_some, Option.isSome_some]
theorem ownsMap_tight' {w : World} {k : TypeId} {R : Value → Option (DataW Value × List MemPlace)} {b n : Nat} {D : DataW Value} (h : w.ownsMap Tryz.prog k R b n D) : w.ownsMap Tryz.prog k R b (Maps.size D) D := by
  obtain ⟨es, clock, hb, F, hs, rfl⟩ := h
  exact ⟨es, clock, hb, F, by simp [Maps.size, length_sorted], rfl⟩
theorem KMap.put (h : KMap K w b l) (ht : Tryz.prog.underlying t = some (.map K.t e)) {x : κ} (hx : K.ok x) (v : Value) (hl : l.length < 1000000) :
    ∃ w', (Instr.mapUpdate t (.map (some b)) (K.val x) v).run Tryz.prog w = .ok () w' ∧ KMap K w' b (putA l x v) ∧ Keeps (fun k => k = b) w w' := by
  obtain ⟨D, h1, h2, h3⟩ := h.own
  obtain ⟨w', hrun, hown, hturn⟩ := h1.store K.keyed ht (by unfold maxLen; omega) (K.litOf hx) (show rdAny v = some (.held v, []) from rfl)
  have hT := h1.tidy K.keyed
  have hhas : Maps.has D (K.lit x) = (asc l x).isSome := by
    cases ha : asc l x with
    | none => rw [has_false_of_atKey (fun z => by rw [h3 x hx, ha])]; rfl
    | some v => rw [has_true_of_atKey (y := .held v) (fun z => by rw [h3 x hx, ha])]; rfl
  have hsz : size (D.put (K.lit x) (.held v)) = (putA l x v).length := by
    rw [size_put hT, hhas, h2, putA, List.length_append, show (l.filter fun p => !decide (p.1 = x)) = delA l x from rfl]
    have := length_delA l h.nd x
    simp only [List.length_cons, List.length_nil]
    split <;> simp_all <;> omega
  have hown2 := ownsMap_tight' hown
  rw [hsz] at hown2
  refine ⟨w', hrun, ⟨⟨_, hown2, hsz, fun y hy z => ?_⟩, fun p hp => ?_, nodup_putA h.nd x v⟩, mapTurned_only hturn⟩
  · rw [asc_put]
    by_cases e : x = y
    · subst e
      rw [if_pos rfl, atKey_put_same hT.isMap (K.isKey hx)]
    · rw [if_neg e, atKey_put_other (fun c => e (K.lit_inj hx hy c.symm)), h3 y hy]
  · rw [putA, List.mem_append] at hp
    rcases hp with hp | hp
    · exact h.ok p (List.mem_filter.1 hp).1
    · rw [List.mem_singleton.1 hp]; exact hx
theorem KMap.drop (h : KMap K w b l) (ht : Tryz.prog.underlying t = some (.map K.t e)) {x : κ} (hx : K.ok x) (ty : TypeId) :
    ∃ w', (Builtin.delete_ #[t, K.t] ty #[.map (some b), K.val x]).run Tryz.prog w = .ok (.tuple #[]) w' ∧ KMap K w' b (delA l x) ∧ Keeps (fun k => k = b) w w' := by
  obtain ⟨D, h1, h2, h3⟩ := h.own
  obtain ⟨w', hrun, hown, hturn⟩ := h1.drop K.keyed ht (K.litOf hx) ty
  have hT := h1.tidy K.keyed
  have hhas : Maps.has D (K.lit x) = (asc l x).isSome := by
    cases ha : asc l x with
    | none => rw [has_false_of_atKey (fun z => by rw [h3 x hx, ha])]; rfl
    | some v => rw [has_true_of_atKey (y := .held v) (fun z => by rw [h3 x hx, ha])]; rfl
  have hsz : size (D.del (K.lit x)) = (delA l x).length := by
    have e1 := size_del (k := K.lit x) hT
    have e2 := length_delA l h.nd x
    rw [hhas] at e1
    omega
  have hown2 := ownsMap_tight' hown
  rw [hsz] at hown2
  refine ⟨w', hrun, ⟨⟨_, hown2, hsz, fun y hy z => ?_⟩, fun p hp => h.ok p (List.mem_filter.1 hp).1, nodup_delA h.nd x⟩, mapTurned_only hturn⟩
  rw [asc_del]
  by_cases e : x = y
  · subst e
    rw [if_pos rfl, atKey_del_same]
  · rw [if_neg e, atKey_del_other (fun c => e (K.lit_inj hx hy c.symm)), h3 y hy]
end
end Go.Proofs.YtnddaildicmneaaGreat
/-
  A region that draws its order, by a script: quiet operations are taken as soon as they may come up, the others come one by one, and a condition on the world need hold only as long as a quiet one may still be waiting.
  No program in sight. It stands on the library's law that an operation which yields one value in every world of a class may be taken first.
-/
namespace Go.Proofs.YtnddaildicmneaaGreat
open Go.RowKit

section
variable {P : Program} {ops : Array Oper} {Q : Exit → Act → World → Prop} {S : World → Prop}

/-- operation `k` waits for `f` -/
def waits (ops : Array Oper) (k f : Nat) : Bool := ((ops[k]?).map (·.after.any fun e => Region.binds .any e && e.on == f)).getD false
/-- `f` must have come up: one that waits for it has -/
def usedBy (ops : Array Oper) (F : List Nat) (listed : Array Bool) : Nat → Nat → Bool
  | 0, _ => false
  | n + 1, f => (List.range ops.size).any fun k => waits ops k f && (if F.contains k then usedBy ops F listed n k else listed.getD k false)
/-- the condition on the world is still wanted -/
def need (ops : Array Oper) (F W : List Nat) (listed : Array Bool) : Bool := W.any fun f => listed.getD f false && !usedBy ops F listed ops.size f

/-- with an operation all that it waits for has come up -/
def Closed (ops : Array Oper) (L : Array Bool) : Prop := ∀ k o, ops[k]? = some o → L.getD k false = true → ∀ e ∈ o.after, Region.binds .any e = true → L.getD e.on false = true

theorem closed_start (n : Nat) : Closed ops (Array.replicate n false) := by
  intro k o _ h
  rw [Array.getD_eq_getD_getElem?] at h
  by_cases hk : k < n
  · simp [hk] at h
  · simp [hk] at h

theorem Closed.set {L : Array Bool} {i : Nat} (h : Closed ops L) (hr : i ∈ Region.ready .any ops L) : Closed ops (L.setIfInBounds i true) := by
  obtain ⟨_, o, ho, hall⟩ := mem_ready.1 hr
  intro k ok hk hl e he hb
  by_cases hki : k = i
  · subst hki
    rw [ho] at hk
    injection hk with hk
    subst hk
    exact getD_set_true (hall e he hb)
  · rw [getD_set_ne false (Ne.symm hki)] at hl
    exact getD_set_true (h k ok hk hl e he hb)

theorem usedBy_listed {F : List Nat} {L L' : Array Bool} (hc : Closed ops L) (hl : ∀ k, F.contains k = false → L'.getD k false = true → L.getD k false = true) :
    ∀ (n f : Nat), usedBy ops F L' n f = true → L.getD f false = true
  | 0, _, h => by cases h
  | n + 1, f, h => by
    simp only [usedBy, List.any_eq_true, List.mem_range, Bool.and_eq_true] at h
    obtain ⟨k, _, hw, hk⟩ := h
    have hkl : L.getD k false = true := by
      split at hk
      · exact usedBy_listed hc hl n k hk
      · rename_i hF
        exact hl k (by simpa using hF) hk
    unfold waits at hw
    cases ho : ops[k]? with
    | none => rw [ho] at hw; cases hw
    | some o =>
      rw [ho] at hw
      simp only [Option.map_some, Option.getD_some] at hw
      obtain ⟨e, he, hb⟩ := Array.any_eq_true'.1 hw
      simp only [Bool.and_eq_true, beq_iff_eq] at hb
      have := hc k o ho hkl e he hb.1
      rwa [hb.2] at this

/-- Whatever order is picked; the condition on the world holds behind each operation behind which it is wanted. -/
def wpAnyN (P : Program) (ops : Array Oper) (Q : Exit → Act → World → Prop) (S : World → Prop) (F W : List Nat) : Nat → Array Bool → Act → World → Prop
  | 0, L, a, w => Region.ready .any ops L = [] ∧ Q .normal a w
  | n + 1, L, a, w => (Region.ready .any ops L = [] → Q .normal a w) ∧
    ∀ i ∈ Region.ready .any ops L, wpOp P ops Q i (fun a' w' => (need ops F W (L.setIfInBounds i true) = true → S w') ∧ wpAnyN P ops Q S F W n (L.setIfInBounds i true) a' w') a w

theorem wpAny_of_N {F W : List Nat} : ∀ (n : Nat) (L : Array Bool) (a : Act) (w : World), wpAnyN P ops Q S F W n L a w → wpAny P .any ops Q n L a w
  | 0, _, _, _, h => h
  | n + 1, _, _, _, h => ⟨h.1, fun i hi => wpOp_mono (fun a' w' h' => wpAny_of_N n _ a' w' h'.2) (h.2 i hi)⟩

theorem wpAnyN_first {F W : List Nat} {i : Nat} {oi : Oper} {v : Value} (hi : ops[i]? = some oi) (hF : F.contains i = true) (hWi : W.contains i = true) (hsel : ∀ (j : Nat) (o : Oper) cs b, ops[j]? = some o → o.op ≠ .select cs b)
    (hQ : ∀ c a w, Q (.panic c) (a.put oi.dst v) w → Q (.panic c) a w) :
    ∀ (n : Nat) (L : Array Bool) (a : Act) (w : World),
      (∀ j oj, ops[j]? = some oj → j ≠ i → L.getD j true = false → (∀ e ∈ oj.after, Region.binds .any e = true → e.on ≠ i) → oi.apart ops oj = true) →
      Closed ops L → i ∈ Region.ready .any ops L → YieldsIf P ops S oi v a → S w →
      wpAnyN P ops Q S F W n (L.setIfInBounds i true) (a.put oi.dst v) w → wpAnyN P ops Q S F W (n + 1) L a w := by
  intro n
  induction n with
  | zero =>
    intro L a w hfree hcl hr hy hS H
    refine ⟨fun h => (by rw [h] at hr; cases hr), fun j hj => ?_⟩
    by_cases hji : j = i
    · subst hji; exact hy.wpOp hi hS ⟨fun _ => hS, H⟩
    · have := ready_mono hj hji
      rw [H.1] at this
      cases this
  | succ n ih =>
    intro L a w hfree hcl hr hy hS H
    refine ⟨fun h => (by rw [h] at hr; cases hr), fun j hj => ?_⟩
    by_cases hji : j = i
    · subst hji; exact hy.wpOp hi hS ⟨fun _ => hS, H⟩
    · have h1 := H.2 j (ready_mono hj hji)
      obtain ⟨hjun, oj, hoj, hall⟩ := mem_ready.1 hj
      have hiun := (mem_ready.1 hr).1
      have hilt : i < L.size := by
        rcases Nat.lt_or_ge i L.size with h' | h'
        · exact h'
        · simp [Array.getElem?_eq_none h'] at hiun
      have hif : L.getD i false = false := by simpa [hilt] using hiun
      have hnot : ∀ e ∈ oj.after, Region.binds .any e = true → e.on ≠ i := fun e he hb heq => by
        have h1 := hall e he hb
        rw [heq, hif] at h1
        cases h1
      have h2 := wpOp_putIf hoj (hfree j oj hoj hji hjun hnot) (fun cs b => hsel i oi cs b hi) (fun cs b => hsel j oj cs b hoj) hQ hy h1
      have hcl' : Closed ops (L.setIfInBounds j true) := hcl.set hj
      have hneed : need ops F W ((L.setIfInBounds i true).setIfInBounds j true) = true := by
        unfold need
        rw [List.any_eq_true]
        refine ⟨i, by simpa using hWi, ?_⟩
        have e1 : ((L.setIfInBounds i true).setIfInBounds j true).getD i false = true := by
          rw [getD_set_ne false hji]
          simp [hilt]
        rw [e1, Bool.true_and, Bool.not_eq_true']
        cases hu : usedBy ops F ((L.setIfInBounds i true).setIfInBounds j true) ops.size i with
        | false => rfl
        | true =>
          have := usedBy_listed (L := L.setIfInBounds j true) hcl' (fun k hk hl => ?_) _ _ hu
          · rw [getD_set_ne false hji, hif] at this
            cases this
          · have hki : k ≠ i := fun e => by rw [e, hF] at hk; cases hk
            rw [Array.setIfInBounds_comm _ _ (Ne.symm hji), getD_set_ne false (Ne.symm hki)] at hl
            exact hl
      have hfree' : ∀ k ok, ops[k]? = some ok → k ≠ i → (L.setIfInBounds j true).getD k true = false →
          (∀ e ∈ ok.after, Region.binds .any e = true → e.on ≠ i) → oi.apart ops ok = true := fun k ok hk hki hun hno => by
        refine hfree k ok hk hki ?_ hno
        by_cases hjk : j = k
        · subst hjk; exact hjun
        · rw [getD_set_ne true hjk] at hun; exact hun
      refine wpOp_mono (fun a' w' h3 => ⟨fun _ => h3.2.1 hneed, ih (L.setIfInBounds j true) a' w' hfree' hcl' (ready_mono hr (Ne.symm hji)) h3.1 (h3.2.1 hneed) ?_⟩) h2
      rw [Array.setIfInBounds_comm _ _ hji]
      exact h3.2.2

theorem usedBy_set {F : List Nat} {i : Nat} {L : Array Bool} (hF : F.contains i = true) : ∀ (n f : Nat), usedBy ops F (L.setIfInBounds i true) n f = usedBy ops F L n f
  | 0, _ => rfl
  | n + 1, f => by
    simp only [usedBy]
    congr 1
    funext k
    congr 1
    split
    · exact usedBy_set hF n k
    · rename_i hk
      have hki : i ≠ k := fun e => hk (by rw [← e]; exact hF)
      exact getD_set_ne false hki

theorem need_set {F W : List Nat} {i : Nat} {L : Array Bool} (hF : F.contains i = true) (hW : W.contains i = false) : need ops F W (L.setIfInBounds i true) = need ops F W L := by
  unfold need
  rw [Bool.eq_iff_iff, List.any_eq_true, List.any_eq_true]
  have key : ∀ f ∈ W, ((L.setIfInBounds i true).getD f false && !usedBy ops F (L.setIfInBounds i true) ops.size f) = (L.getD f false && !usedBy ops F L ops.size f) := fun f hf => by
    have hfi : i ≠ f := fun e => by rw [← e] at hf; simp [hf] at hW
    rw [getD_set_ne false hfi, usedBy_set hF]
  constructor
  · rintro ⟨f, hf, h⟩; exact ⟨f, hf, by rw [← key f hf]; exact h⟩
  · rintro ⟨f, hf, h⟩; exact ⟨f, hf, by rw [key f hf]; exact h⟩

theorem wpAnyN_pure {F W : List Nat} {i : Nat} {oi : Oper} {v : Value} (hi : ops[i]? = some oi) (hF : F.contains i = true) (hWi : W.contains i = false) (hsel : ∀ (j : Nat) (o : Oper) cs b, ops[j]? = some o → o.op ≠ .select cs b)
    (hQ : ∀ c a w, Q (.panic c) (a.put oi.dst v) w → Q (.panic c) a w) :
    ∀ (n : Nat) (L : Array Bool) (a : Act) (w : World),
      (∀ j oj, ops[j]? = some oj → j ≠ i → L.getD j true = false → (∀ e ∈ oj.after, Region.binds .any e = true → e.on ≠ i) → oi.apart ops oj = true) →
      i ∈ Region.ready .any ops L → YieldsIf P ops (fun _ => True) oi v a → (need ops F W L = true → S w) →
      wpAnyN P ops Q S F W n (L.setIfInBounds i true) (a.put oi.dst v) w → wpAnyN P ops Q S F W (n + 1) L a w := by
  intro n
  induction n with
  | zero =>
    intro L a w hfree hr hy hS H
    refine ⟨fun h => (by rw [h] at hr; cases hr), fun j hj => ?_⟩
    by_cases hji : j = i
    · subst hji; exact hy.wpOp hi trivial ⟨fun h => hS (by rwa [need_set hF hWi] at h), H⟩
    · have := ready_mono hj hji
      rw [H.1] at this
      cases this
  | succ n ih =>
    intro L a w hfree hr hy hS H
    refine ⟨fun h => (by rw [h] at hr; cases hr), fun j hj => ?_⟩
    by_cases hji : j = i
    · subst hji; exact hy.wpOp hi trivial ⟨fun h => hS (by rwa [need_set hF hWi] at h), H⟩
    · have h1 := H.2 j (ready_mono hj hji)
      obtain ⟨hjun, oj, hoj, hall⟩ := mem_ready.1 hj
      have hiun := (mem_ready.1 hr).1
      have hilt : i < L.size := by
        rcases Nat.lt_or_ge i L.size with h' | h'
        · exact h'
        · simp [Array.getElem?_eq_none h'] at hiun
      have hif : L.getD i false = false := by simpa [hilt] using hiun
      have hnot : ∀ e ∈ oj.after, Region.binds .any e = true → e.on ≠ i := fun e he hb heq => by
        have h1 := hall e he hb
        rw [heq, hif] at h1
        cases h1
      have h2 := wpOp_putIf hoj (hfree j oj hoj hji hjun hnot) (fun cs b => hsel i oi cs b hi) (fun cs b => hsel j oj cs b hoj) hQ hy h1
      have hfree' : ∀ k ok, ops[k]? = some ok → k ≠ i → (L.setIfInBounds j true).getD k true = false →
          (∀ e ∈ ok.after, Region.binds .any e = true → e.on ≠ i) → oi.apart ops ok = true := fun k ok hk hki hun hno => by
        refine hfree k ok hk hki ?_ hno
        by_cases hjk : j = k
        · subst hjk; exact hjun
        · rw [getD_set_ne true hjk] at hun; exact hun
      have hn : ∀ {w' : World}, (need ops F W ((L.setIfInBounds i true).setIfInBounds j true) = true → S w') → need ops F W (L.setIfInBounds j true) = true → S w' := fun h hh => h (by
        rw [Array.setIfInBounds_comm _ _ (Ne.symm hji), need_set hF hWi]; exact hh)
      refine wpOp_mono (fun a' w' h3 => ⟨hn h3.2.1, ih (L.setIfInBounds j true) a' w' hfree' (ready_mono hr (Ne.symm hji)) h3.1 (hn h3.2.1) ?_⟩) h2
      rw [Array.setIfInBounds_comm _ _ hji]
      exact h3.2.2

/-- a script's steps: quiet ones that read the world | quiet ones that do not | others, and whether the condition is wanted behind the last of them -/
inductive Mv where
  | fs (l : List Nat)
  | ps (l : List Nat)
  | es (l : List Nat) (nd : Bool)

def Mv.len : Mv → Nat
  | .fs l => l.length
  | .ps l => l.length
  | .es l _ => l.length

def chkF (ops : Array Oper) (F W : List Nat) (rd : Bool) : List Nat → Array Bool → Option (Array Bool)
  | [], L => some L
  | i :: l, L => if F.contains i && (W.contains i == rd) && (Region.ready .any ops L).contains i && Region.free .any ops L i then chkF ops F W rd l (L.setIfInBounds i true) else none
def chkE (ops : Array Oper) (F W : List Nat) (nd : Bool) : List Nat → Array Bool → Option (Array Bool)
  | [], L => some L
  | i :: l, L => if Region.ready .any ops L == [i] && (!need ops F W (L.setIfInBounds i true) || (l.isEmpty && nd)) then chkE ops F W nd l (L.setIfInBounds i true) else none
def chk (ops : Array Oper) (F W : List Nat) : List Mv → Array Bool → Bool
  | [], L => (Region.ready .any ops L).isEmpty
  | .fs l :: r, L => match chkF ops F W true l L with | some L' => chk ops F W r L' | none => false
  | .ps l :: r, L => match chkF ops F W false l L with | some L' => chk ops F W r L' | none => false
  | .es l nd :: r, L => match chkE ops F W nd l L with | some L' => chk ops F W r L' | none => false

/-- quiet operations, each with its one value -/
def quietL (P : Program) (ops : Array Oper) (S : World → Prop) : List Nat → (Act → Prop) → Act → Prop
  | [], K, a => K a
  | i :: l, K, a => ∃ o, ops[i]? = some o ∧ ∃ v, YieldsIf P ops S o v a ∧ quietL P ops S l K (a.put o.dst v)

/-- the walk along a script; the condition may be made stronger wherever the world is read -/
def wpS (P : Program) (ops : Array Oper) (QN : Act → World → Prop) (Q : Exit → Act → World → Prop) : List Mv → (World → Prop) → Act → World → Prop
  | [], _, a, w => QN a w
  | .fs l :: r, S, a, w => ∃ S' : World → Prop, (∀ w, S' w → S w) ∧ S' w ∧ quietL P ops S' l (fun a' => wpS P ops QN Q r S' a' w) a
  | .ps l :: r, S, a, w => quietL P ops (fun _ => True) l (fun a' => wpS P ops QN Q r S a' w) a
  | .es l nd :: r, S, a, w => wpOps P ops (Exit.then (fun a' w' => (nd = true → S w') ∧ wpS P ops QN Q r S a' w') Q) l a w

theorem wpAnyN_mono {S' : World → Prop} {F W : List Nat} (hS : ∀ w, S' w → S w) : ∀ (n : Nat) (L : Array Bool) (a : Act) (w : World), wpAnyN P ops Q S' F W n L a w → wpAnyN P ops Q S F W n L a w
  | 0, _, _, _, h => h
  | n + 1, _, _, _, h => ⟨h.1, fun i hi => wpOp_mono (fun a' w' h' => ⟨fun hn => hS _ (h'.1 hn), wpAnyN_mono hS n _ a' w' h'.2⟩) (h.2 i hi)⟩

theorem script_F {F W : List Nat} (hsel : Region.noSelect ops = true) (hQ : ∀ (i : Nat) (o : Oper), ops[i]? = some o → ∀ c a v w, Q (.panic c) (Act.put a o.dst v) w → Q (.panic c) a w) {n : Nat} {K : Act → Prop} {w : World} (hS : S w) :
    ∀ (l : List Nat) (L L' : Array Bool) (a : Act), chkF ops F W true l L = some L' → Closed ops L →
      (∀ a', Closed ops L' → K a' → wpAnyN P ops Q S F W n L' a' w) → quietL P ops S l K a → wpAnyN P ops Q S F W (l.length + n) L a w
  | [], L, L', a, hc, hcl, hK, h => by
    simp only [chkF, Option.some.injEq] at hc
    subst hc
    rw [List.length_nil, Nat.zero_add]
    exact hK a hcl h
  | i :: l, L, L', a, hc, hcl, hK, h => by
    simp only [chkF] at hc
    split at hc
    · rename_i hcond
      simp only [Bool.and_eq_true, beq_iff_eq] at hcond
      obtain ⟨⟨⟨h1, h0⟩, h2⟩, h3⟩ := hcond
      obtain ⟨o, ho, v, hy, hrest⟩ := h
      have hr : i ∈ Region.ready .any ops L := by simpa using h2
      have := script_F hsel hQ hS l _ L' (a.put o.dst v) hc (hcl.set hr) hK hrest
      rw [List.length_cons, Nat.add_right_comm]
      exact wpAnyN_first ho h1 h0 (Region.noSelect_spec hsel) (fun c a w => hQ _ _ ho c a _ w) _ L a w (Region.free_spec ho h3) hcl hr hy hS this
    · cases hc

theorem script_P {F W : List Nat} (hsel : Region.noSelect ops = true) (hQ : ∀ (i : Nat) (o : Oper), ops[i]? = some o → ∀ c a v w, Q (.panic c) (Act.put a o.dst v) w → Q (.panic c) a w) {n : Nat} {K : Act → Prop} {w : World} :
    ∀ (l : List Nat) (L L' : Array Bool) (a : Act), chkF ops F W false l L = some L' → Closed ops L → (need ops F W L = true → S w) →
      (∀ a', Closed ops L' → (need ops F W L' = true → S w) → K a' → wpAnyN P ops Q S F W n L' a' w) → quietL P ops (fun _ => True) l K a → wpAnyN P ops Q S F W (l.length + n) L a w
  | [], L, L', a, hc, hcl, hS, hK, h => by
    simp only [chkF, Option.some.injEq] at hc
    subst hc
    rw [List.length_nil, Nat.zero_add]
    exact hK a hcl hS h
  | i :: l, L, L', a, hc, hcl, hS, hK, h => by
    simp only [chkF] at hc
    split at hc
    · rename_i hcond
      simp only [Bool.and_eq_true, beq_iff_eq] at hcond
      obtain ⟨⟨⟨h1, h0⟩, h2⟩, h3⟩ := hcond
      obtain ⟨o, ho, v, hy, hrest⟩ := h
      have hr : i ∈ Region.ready .any ops L := by simpa using h2
      have := script_P hsel hQ l _ L' (a.put o.dst v) hc (hcl.set hr) (fun h => hS (by rwa [need_set h1 h0] at h)) hK hrest
      rw [List.length_cons, Nat.add_right_comm]
      exact wpAnyN_pure ho h1 h0 (Region.noSelect_spec hsel) (fun c a w => hQ _ _ ho c a _ w) _ L a w (Region.free_spec ho h3) hr hy hS this
    · cases hc

theorem script_E {F W : List Nat} {nd : Bool} {n : Nat} {K : Act → World → Prop} :
    ∀ (l : List Nat) (L L' : Array Bool) (a : Act) (w : World), chkE ops F W nd l L = some L' → Closed ops L → l ≠ [] →
      (∀ a' w', Closed ops L' → (need ops F W L' = true → S w') → K a' w' → wpAnyN P ops Q S F W n L' a' w') →
      wpOps P ops (Exit.then (fun a' w' => (nd = true → S w') ∧ K a' w') Q) l a w → wpAnyN P ops Q S F W (l.length + n) L a w
  | [], L, L', a, w, hc, hcl, hne, hK, h => absurd rfl hne
  | i :: l, L, L', a, w, hc, hcl, _, hK, h => by
    simp only [chkE] at hc
    split at hc
    · rename_i hcond
      simp only [Bool.and_eq_true, Bool.or_eq_true, Bool.not_eq_true', beq_iff_eq] at hcond
      obtain ⟨hr, hnd⟩ := hcond
      have hri : i ∈ Region.ready .any ops L := by rw [hr]; simp
      rw [List.length_cons, Nat.add_right_comm]
      refine ⟨fun h0 => (by rw [hr] at h0; cases h0), fun j hj => ?_⟩
      have hji : j = i := by rw [hr] at hj; simpa using hj
      subst hji
      rw [wpOps_cons] at h
      -- the same operation under the post without its end
      have hstep : wpOp P ops Q j (wpOps P ops (Exit.then (fun a' w' => (nd = true → S w') ∧ K a' w') Q) l) a w := by
        unfold wpOp at h ⊢
        cases ho : ops[j]? with
        | none => simp only [ho] at h ⊢; exact h
        | some o =>
          simp only [ho] at h ⊢
          by_cases hw : Region.wanted o (yielded ops a.tmps) = true
          · rw [if_pos hw] at h ⊢
            rcases h with h | ⟨h1, h2⟩
            · refine .inl ?_
              unfold Oper.wp at h ⊢
              generalize (execOp a.eval _).run P w = r at *
              cases r with
              | ok nx w' =>
                cases nx <;> simp only [Oper.upon] at h ⊢ <;> first | exact h | (refine Calls.mono h fun e w'' he => ?_; cases e <;> exact he)
              | halt x w' => cases x <;> simp only [Oper.upon] at h ⊢ <;> exact h
            · exact .inr ⟨h1, h2⟩
          · rw [if_neg hw] at h ⊢
            exact h
      refine wpOp_mono (fun a' w' h' => ?_) hstep
      cases l with
      | nil =>
        simp only [chkE, Option.some.injEq] at hc
        subst hc
        simp only [wpOps, Exit.then] at h'
        have hS : need ops F W (L.setIfInBounds j true) = true → S w' := fun hn => by
          rcases hnd with hnd | hnd
          · rw [hnd] at hn; cases hn
          · exact h'.1 hnd.2
        refine ⟨hS, ?_⟩
        rw [List.length_nil, Nat.zero_add]
        exact hK a' w' (hcl.set hri) hS h'.2
      | cons k l =>
        have hn0 : need ops F W (L.setIfInBounds j true) = false := by
          rcases hnd with hnd | hnd
          · exact hnd
          · simp at hnd
        exact ⟨fun hn => (by rw [hn0] at hn; cases hn), script_E (k :: l) _ L' a' w' hc (hcl.set hri) (by simp) hK h'⟩
    · cases hc

def Mv.full : Mv → Bool
  | .es l _ => !l.isEmpty
  | _ => true

theorem script_all {F W : List Nat} {QN : Act → World → Prop} (hsel : Region.noSelect ops = true) (hQ : ∀ (i : Nat) (o : Oper), ops[i]? = some o → ∀ c a v w, Q (.panic c) (Act.put a o.dst v) w → Q (.panic c) a w) (hN : ∀ a w, QN a w → Q .normal a w) :
    ∀ (s : List Mv) (S : World → Prop) (L : Array Bool) (a : Act) (w : World), chk ops F W s L = true → s.all Mv.full = true → Closed ops L → (need ops F W L = true → S w) → wpS P ops QN Q s S a w → wpAnyN P ops Q S F W ((s.map Mv.len).sum) L a w
  | [], S, L, a, w, hc, _, _, _, h => by
    simp only [chk, List.isEmpty_iff] at hc
    exact ⟨hc, hN a w h⟩
  | .fs l :: r, S, L, a, w, hc, hf, hcl, hS, h => by
    simp only [chk] at hc
    split at hc
    · rename_i L' hL'
      have hf' : r.all Mv.full = true := by simp only [List.all_cons, Bool.and_eq_true] at hf; exact hf.2
      obtain ⟨S', hS', hw, hq⟩ := h
      exact wpAnyN_mono hS' _ _ _ _ (script_F hsel hQ hw l L L' a hL' hcl (fun a' hcl' hK => script_all hsel hQ hN r S' L' a' w hc hf' hcl' (fun _ => hw) hK) hq)
    · cases hc
  | .ps l :: r, S, L, a, w, hc, hf, hcl, hS, h => by
    simp only [chk] at hc
    split at hc
    · rename_i L' hL'
      have hf' : r.all Mv.full = true := by simp only [List.all_cons, Bool.and_eq_true] at hf; exact hf.2
      exact script_P hsel hQ l L L' a hL' hcl hS (fun a' hcl' hS' hK => script_all hsel hQ hN r S L' a' w hc hf' hcl' hS' hK) h
    · cases hc
  | .es l nd :: r, S, L, a, w, hc, hf, hcl, hS, h => by
    simp only [chk] at hc
    split at hc
    · rename_i L' hL'
      simp only [List.all_cons, Bool.and_eq_true, Mv.full, Bool.not_eq_true'] at hf
      exact script_E l L L' a w hL' hcl (by intro e; rw [e] at hf; simp at hf) (fun a' w' hcl' hS' hK => script_all hsel hQ hN r S L' a' w' hc hf.2 hcl' hS' hK) h
    · cases hc

/-- THE RULE: a script that is right (closed facts), the region shown not to panic; the walk goes along the script in the world behind the draw. `F`: the quiet operations, `W`: those of them that read the world. -/
theorem wp_region_script {id : Nat} {a : Act} {w : World} (F W : List Nat) (s : List Mv) (S : World → Prop) (hm : P.follows .mixedOrders = true)
    (hc : (Region.noSelect ops && chk ops F W s (Array.replicate ops.size false) && s.all Mv.full && (s.map Mv.len).sum == ops.size) = true)
    (h : wpS P ops (Q .normal) (NoPanic Q) s S a w.drew) : (Code.region id ops true).wp P Q a w := by
  simp only [Bool.and_eq_true, beq_iff_eq] at hc
  obtain ⟨⟨⟨h1, h2⟩, h3⟩, h4⟩ := hc
  refine wp_region_noPanic (wp_region_any hm (wpAny_of_N (S := S) (F := F) (W := W) _ _ _ _ ?_))
  have h0 : need ops F W (Array.replicate ops.size false) = true → S w.drew := fun hn => by
    unfold need at hn
    obtain ⟨f, _, hf⟩ := List.any_eq_true.1 hn
    have : (Array.replicate ops.size false).getD f false = false := by
      rw [Array.getD_eq_getD_getElem?]
      by_cases hk : f < ops.size <;> simp [hk]
    rw [this] at hf
    cases hf
  have := script_all (P := P) (Q := NoPanic Q) h1 (fun _ _ _ c a v w h => h.elim) (fun a w h => h) s S _ a w.drew h2 h3 (closed_start _) h0 h
  rw [h4] at this
  exact this

/-- THE RULE where a call within the region may panic: `Q` at a panic does not ask for what the region's operations yield. -/
theorem wp_region_script_p {id : Nat} {a : Act} {w : World} (F W : List Nat) (s : List Mv) (S : World → Prop) (hm : P.follows .mixedOrders = true)
    (hQ : ∀ (i : Nat) (o : Oper), ops[i]? = some o → ∀ c a v w, Q (.panic c) (Act.put a o.dst v) w → Q (.panic c) a w)
    (hc : (Region.noSelect ops && chk ops F W s (Array.replicate ops.size false) && s.all Mv.full && (s.map Mv.len).sum == ops.size) = true)
    (h : wpS P ops (Q .normal) Q s S a w.drew) : (Code.region id ops true).wp P Q a w := by
  simp only [Bool.and_eq_true, beq_iff_eq] at hc
  obtain ⟨⟨⟨h1, h2⟩, h3⟩, h4⟩ := hc
  refine wp_region_any hm (wpAny_of_N (S := S) (F := F) (W := W) _ _ _ _ ?_)
  have h0 : need ops F W (Array.replicate ops.size false) = true → S w.drew := fun hn => by
    unfold need at hn
    obtain ⟨f, _, hf⟩ := List.any_eq_true.1 hn
    have : (Array.replicate ops.size false).getD f false = false := by
      rw [Array.getD_eq_getD_getElem?]
      by_cases hk : f < ops.size <;> simp [hk]
    rw [this] at hf
    cases hf
  have := script_all (P := P) (Q := Q) h1 hQ (fun a w h => h) s S _ a w.drew h2 h3 (closed_start _) h0 h
  rw [h4] at this
  exact this

/-- quiet operations, as a list of operations -/
def quietO (P : Program) (ops : Array Oper) (S : World → Prop) : List Oper → (Act → Prop) → Act → Prop
  | [], K, a => K a
  | o :: l, K, a => ∃ v, YieldsIf P ops S o v a ∧ quietO P ops S l K (a.put o.dst v)
theorem quietL_of_O {K : Act → Prop} : ∀ (l : List Nat) (a : Act), l.all (fun i => (ops[i]?).isSome) = true → quietO P ops S (l.map fun i => (ops[i]?).getD default) K a → quietL P ops S l K a
  | [], _, _, h => h
  | i :: l, a, hl, h => by
    simp only [List.all_cons, Bool.and_eq_true] at hl
    obtain ⟨o, ho⟩ := Option.isSome_iff_exists.1 hl.1
    rw [List.map_cons, ho, Option.getD_some] at h
    obtain ⟨v, hy, h⟩ := h
    exact ⟨o, ho, v, hy, quietL_of_O l _ hl.2 h⟩
theorem quietO_cons {l : List Oper} {K : Act → Prop} {a : Act} {o : Oper} (v : Value) (hw : Region.wanted o (yielded ops a.tmps) = true)
    (hr : ∀ w, S w → (execOp a.eval o).run P w = .ok (.value v) w) (h : quietO P ops S l K (a.put o.dst v)) : quietO P ops S (o :: l) K a :=
  ⟨v, .inl ⟨hw, hr⟩, h⟩
theorem quietO_skip {l : List Oper} {K : Act → Prop} {a : Act} {o : Oper} (hw : Region.wanted o (yielded ops a.tmps) = false)
    (h : quietO P ops S l K (a.put o.dst undef)) : quietO P ops S (o :: l) K a :=
  ⟨undef, .inr ⟨hw, rfl⟩, h⟩
theorem quietO_nil {K : Act → Prop} {a : Act} (h : K a) : quietO P ops S [] K a := h
/-- the others, as a list for the walk -/
theorem wpOps_pick : ∀ (l : List Nat) (a : Act) (w : World), l.all (fun i => (ops[i]?).isSome) = true → wpList P ops Q (l.map fun i => (ops[i]?).getD default) a w → wpOps P ops Q l a w
  | [], _, _, _, h => h
  | i :: l, a, w, hl, h => by
    simp only [List.all_cons, Bool.and_eq_true] at hl
    obtain ⟨o, ho⟩ := Option.isSome_iff_exists.1 hl.1
    rw [List.map_cons, ho, Option.getD_some] at h
    simp only [wpOps, ho]
    unfold wpList at h
    split
    · rename_i hw
      rw [if_pos hw] at h
      rcases h with h | h
      · exact .inl (Oper.wp_mono (fun a w h' => wpOps_pick l a w hl.2 h') h)
      · exact .inr h
    · rename_i hw
      rw [if_neg hw] at h
      exact wpOps_pick l _ w hl.2 h

section
variable {QN : Act → World → Prop} {r : List Mv} {l : List Nat} {a : Act} {w : World} {nd : Bool}
theorem wpS_ps (hl : l.all (fun i => (ops[i]?).isSome) = true) (h : ∀ K : Act → Prop, (∀ a', wpS P ops QN Q r S a' w → K a') → quietO P ops (fun _ => True) (l.map fun i => (ops[i]?).getD default) K a) : wpS P ops QN Q (.ps l :: r) S a w :=
  quietL_of_O l a hl (h _ fun _ h => h)
theorem wpS_fs (hl : l.all (fun i => (ops[i]?).isSome) = true) (hS : S w) (h : ∀ K : Act → Prop, (∀ a', wpS P ops QN Q r S a' w → K a') → quietO P ops S (l.map fun i => (ops[i]?).getD default) K a) : wpS P ops QN Q (.fs l :: r) S a w :=
  ⟨S, fun _ h => h, hS, quietL_of_O l a hl (h _ fun _ h => h)⟩
theorem wpS_fx (hl : l.all (fun i => (ops[i]?).isSome) = true) (S' : World → Prop) (hS' : ∀ w, S' w → S w) (hS : S' w) (h : ∀ K : Act → Prop, (∀ a', wpS P ops QN Q r S' a' w → K a') → quietO P ops S' (l.map fun i => (ops[i]?).getD default) K a) : wpS P ops QN Q (.fs l :: r) S a w :=
  ⟨S', hS', hS, quietL_of_O l a hl (h _ fun _ h => h)⟩
theorem wpS_es (hl : l.all (fun i => (ops[i]?).isSome) = true) (h : ∀ K : Act → World → Prop, (∀ a' w', (nd = true → S w') → wpS P ops QN Q r S a' w' → K a' w') → wpList P ops (Exit.then K Q) (l.map fun i => (ops[i]?).getD default) a w) : wpS P ops QN Q (.es l nd :: r) S a w :=
  wpOps_pick l a w hl (h _ fun _ _ h1 h2 => ⟨h1, h2⟩)
theorem wpS_nil (h : QN a w) : wpS P ops QN Q [] S a w := h
end
end
end Go.Proofs.YtnddaildicmneaaGreat
/-
  Rows of records in memory: a slice of them that reads, one that is owned. For any type of record: how many cells it has, and which.
-/
namespace Go.Proofs.YtnddaildicmneaaGreat
open Go.RowKit

structure RecT (α : Type) where
  t : TypeId
  n : Nat
  cs : α → List Value
  len : ∀ a, (cs a).length = n
  one : ∀ a, ∀ u ∈ cs a, u.oneCell' = true
  pos : 0 < n

namespace RecT
variable {α : Type} (R : RecT α)

def cells (l : List α) : List Value := l.flatMap R.cs
theorem cells_len : ∀ l : List α, (R.cells l).length = l.length * R.n
  | [] => by simp [cells]
  | j :: l => by
    have := cells_len l
    unfold cells at this ⊢
    rw [List.flatMap_cons, List.length_append, this, R.len, List.length_cons, Nat.succ_mul]; omega
theorem cells_app (l m : List α) : R.cells (l ++ m) = R.cells l ++ R.cells m := by simp [cells]
theorem cells_get : ∀ (l : List α) (i : Nat) (t : α), l[i]? = some t → ∀ k, k < R.n → (R.cells l)[i * R.n + k]? = (R.cs t)[k]?
  | [], i, t, h => by simp at h
  | j :: l, 0, t, h => fun k hk => by
    simp at h; subst h
    unfold cells
    rw [List.flatMap_cons, List.getElem?_append_left (by rw [R.len]; omega), Nat.zero_mul, Nat.zero_add]
  | j :: l, i + 1, t, h => fun k hk => by
    have := cells_get l i t (by simpa using h) k hk
    unfold cells at this ⊢
    rw [List.flatMap_cons, List.getElem?_append_right (by rw [R.len, Nat.succ_mul]; omega), ← this]
    congr 1; rw [R.len, Nat.succ_mul]; omega
theorem cells_one (l : List α) : ∀ u ∈ R.cells l, u.oneCell' = true := by
  intro u hu
  obtain ⟨j, _, hj⟩ := List.mem_flatMap.1 hu
  exact R.one j u hj
theorem cells_split (l : List α) (k : Nat) : R.cells l = R.cells (l.take k) ++ R.cells (l.drop k) := by rw [← cells_app, List.take_append_drop]
theorem cells_take (l : List α) (k : Nat) : (R.cells l).take (k * R.n) = R.cells (l.take k) := by
  by_cases h : k ≤ l.length
  · have hl : (R.cells (l.take k)).length = k * R.n := by rw [cells_len, List.length_take, Nat.min_eq_left h]
    conv => lhs; rw [R.cells_split l k, ← hl]
    exact List.take_left
  · rw [List.take_of_length_le (by rw [cells_len]; exact Nat.mul_le_mul_right _ (by omega)), List.take_of_length_le (by omega)]
theorem cells_drop (l : List α) (k : Nat) : (R.cells l).drop (k * R.n) = R.cells (l.drop k) := by
  by_cases h : k ≤ l.length
  · have hl : (R.cells (l.take k)).length = k * R.n := by rw [cells_len, List.length_take, Nat.min_eq_left h]
    conv => lhs; rw [R.cells_split l k, ← hl]
    exact List.drop_left
  · rw [List.drop_of_length_le (by rw [cells_len]; exact Nat.mul_le_mul_right _ (by omega)), List.drop_of_length_le (by omega)]; rfl

/-- the cells of a record at the place `a` of the block `b` -/
def At (w : World) (b a : Nat) (x : α) : Prop := ∀ k, k < R.n → w.cell? ⟨b, a + k, none⟩ = (R.cs x)[k]?
/-- The slice `v` reads as the records `l`; `g`: the block that is read, if any. -/
def Rd (w : World) (v : Value) (g : Option Nat) (l : List α) : Prop :=
  ∃ A cap, v = .slice A l.length cap ∧ l.length ≤ cap ∧ cap ≤ maxLen ∧ Under w.heap.size g ∧ (0 < l.length → ∃ b off, A = some ⟨b, off, none⟩ ∧ g = some b ∧ ∀ i t, l[i]? = some t → R.At w b (off + i * R.n) t) ∧ (A = none → cap = 0)
/-- ... and is owned: from the beginning of a block of its own on -/
def Row (w : World) (v : Value) (l : List α) : Prop := w.ownsRow 0 R.t R.n v l.length (R.cells l)

variable {R} {w w' : World} {v : Value} {g : Option Nat} {l : List α} {S : Nat → Prop}
theorem At.keep {b a : Nat} {x : α} (h : R.At w b a x) (hk : Keeps S w w') (hb : b < w.heap.size) (hs : ¬ S b) : R.At w' b a x :=
  fun k hk' => (hk.cell (p := ⟨b, a + k, none⟩) hb hs).trans (h k hk')
theorem Rd.keep (h : R.Rd w v g l) (hk : Keeps S w w') (hs : ∀ b, g = some b → ¬ S b) : R.Rd w' v g l := by
  obtain ⟨A, cap, hv, h1, h2, hu, h3, h4⟩ := h
  refine ⟨A, cap, hv, h1, h2, hu.mono hk.size, fun hp => ?_, h4⟩
  obtain ⟨b, off, hA, hg, hc⟩ := h3 hp
  exact ⟨b, off, hA, hg, fun i t hi => (hc i t hi).keep hk (hu b hg) (hs b hg)⟩
theorem Rd.same (h : R.Rd w v g l) (hk : Keeps nowhere w w') : R.Rd w' v g l := h.keep hk (fun _ _ h => h)
theorem Row.keep (h : R.Row w v l) (hk : Keeps S w w') (hs : ∀ b, v.ownBlock = some b → ¬ S b) : R.Row w' v l := own_keep h hk hs
theorem Row.same (h : R.Row w v l) (hk : Keeps nowhere w w') : R.Row w' v l := h.keep hk (fun _ _ h => h)
theorem Row.lt (h : R.Row w v l) : Under w.heap.size v.ownBlock := fun b hb => (World.ownsRow.lt h b hb).2
theorem Row.blk (h : R.Row w v l) : (v = .slice none 0 0 ∧ l = []) ∨ ∃ b cap rest, v = .slice (some ⟨b, 0, none⟩) l.length cap ∧ Blk w b R.t (R.cells l ++ rest).toArray ∧ l.length * R.n + rest.length = cap * R.n ∧ l.length ≤ cap ∧ cap ≤ maxLen := by
  obtain ⟨h1, h2⟩ := h
  rcases h2 with ⟨rfl, h2⟩ | ⟨b, cap, cur, rfl, hb, hg, h3, h4, h5, h6⟩
  · exact .inl ⟨rfl, List.eq_nil_of_length_eq_zero h2⟩
  · refine .inr ⟨b, cap, cur.toList.drop (l.length * R.n), rfl, ?_, ?_, h3, h4⟩
    · rw [← h6, List.take_append_drop]; exact hg
    · have : l.length * R.n ≤ cap * R.n := Nat.mul_le_mul_right _ h3
      rw [List.length_drop, show cur.toList.length = cap * R.n from h5]; omega
theorem Row.of_blk {b cap : Nat} {rest : List Value} (h : Blk w b R.t (R.cells l ++ rest).toArray) (h1 : l.length * R.n + rest.length = cap * R.n) (h2 : cap ≤ maxLen) : R.Row w (.slice (some ⟨b, 0, none⟩) l.length cap) l := by
  refine ⟨R.cells_len l, .inr ⟨b, cap, _, rfl, Nat.zero_le _, h, Nat.le_of_mul_le_mul_right (by omega) R.pos, h2, ?_, ?_⟩⟩
  · simp [R.cells_len]; omega
  · rw [List.take_append_of_le_length (by rw [R.cells_len]; exact Nat.le_refl _), List.take_of_length_le (by rw [R.cells_len]; exact Nat.le_refl _)]
theorem Row.rd (h : R.Row w v l) : R.Rd w v v.ownBlock l := by
  rcases h.blk with ⟨rfl, rfl⟩ | ⟨b, cap, rest, rfl, hb, h1, h2, h3⟩
  · exact ⟨none, 0, rfl, Nat.le_refl _, Nat.zero_le _, Under.none _, fun hp => absurd hp (by simp), fun _ => rfl⟩
  · refine ⟨_, cap, rfl, h2, h3, fun b' hb' => (by cases hb'; exact hb.lt), fun _ => ⟨b, 0, rfl, rfl, fun i t hi k hk => ?_⟩, fun h => by cases h⟩
    have hil : i < l.length := (List.getElem?_eq_some_iff.1 hi).1
    have hlt : i * R.n + k < l.length * R.n := by
      have : (i + 1) * R.n ≤ l.length * R.n := Nat.mul_le_mul_right _ hil
      rw [Nat.succ_mul] at this; omega
    rw [Nat.zero_add, hb.cell, List.getElem?_toArray, List.getElem?_append_left (by rw [R.cells_len]; exact hlt), R.cells_get l i t hi k hk]
theorem Rd.nil (R : RecT α) (w : World) : R.Rd w (.slice none 0 0) none [] := ⟨none, 0, rfl, Nat.le_refl _, Nat.zero_le _, Under.none _, fun hp => absurd hp (by simp), fun _ => rfl⟩
theorem Row.nil (R : RecT α) (w : World) : R.Row w (.slice none 0 0) [] := ⟨by simp [cells], .inl ⟨rfl, rfl⟩⟩
theorem Row.empty (R : RecT α) (w : World) : R.Row (w.alloc (.cells #[] R.t)) (.slice (some ⟨w.heap.size, 0, none⟩) 0 0) [] := by
  have := World.ownsRow_made (e := R.t) (size := R.n) w #[] 0 (Nat.zero_le _) (Nat.zero_le _) (by simp)
  simpa [Row, cells] using this
theorem Row.form (h : R.Row w v l) : ∃ A c, v = .slice A l.length c ∧ l.length ≤ c ∧ c ≤ maxLen ∧ (A = none → c = 0) := by
  obtain ⟨A, cap, hv, h1, h2, -, -, h4⟩ := h.rd
  exact ⟨A, cap, hv, h1, h2, h4⟩
theorem Row.at_ {b cap n : Nat} (hr : R.Row w (.slice (some ⟨b, 0, none⟩) n cap) l) {j : Nat} {t : α} (ht : l[j]? = some t) : R.At w b (j * R.n) t := by
  obtain ⟨A, c, hv, _, _, _, h3, _⟩ := hr.rd
  have hp : 0 < l.length := by have := (List.getElem?_eq_some_iff.1 ht).1; omega
  obtain ⟨b', off, hA, _, hc⟩ := h3 hp
  injection hv with ha _ _
  rw [hA] at ha
  injection ha with ha
  injection ha with ha hb
  subst ha hb
  have := hc j t ht
  rwa [Nat.zero_add] at this
theorem Row.take {b cap : Nat} (hr : R.Row w (.slice (some ⟨b, 0, none⟩) l.length cap) l) {i : Nat} (hi : i ≤ l.length) : R.Row w (.slice (some ⟨b, 0, none⟩) (l.take i).length cap) (l.take i) := by
  rcases hr.blk with ⟨h, _⟩ | ⟨b', cap', rest, hv, hb, h1, h2, h3⟩
  · cases h
  · injection hv with ha _ hc
    injection ha with ha
    injection ha with ha
    subst ha hc
    have hti : (l.take i).length = i := by simp; omega
    refine Row.of_blk (rest := R.cells (l.drop i) ++ rest) ?_ ?_ h3
    · rw [← List.append_assoc, ← R.cells_split]; exact hb
    · rw [List.length_append, R.cells_len, List.length_drop, hti, ← h1, Nat.sub_mul, ← Nat.add_assoc]
      have : i * R.n ≤ l.length * R.n := Nat.mul_le_mul_right _ hi
      omega
/-- `x[:k]`, `x[k:]` of a slice that reads -/
theorem Rd.take {A : Option Addr} {n cap : Nat} (h : R.Rd w (.slice A n cap) g l) (k : Nat) (hk : k ≤ l.length) : R.Rd w (.slice A k cap) g (l.take k) := by
  obtain ⟨A', cap', hv, h1, h2, hu, h3, h4⟩ := h
  injection hv with ha hn hc
  subst ha hc
  have hl : (l.take k).length = k := by simp; omega
  refine ⟨_, _, by rw [hl], by omega, h2, hu, fun hp => ?_, h4⟩
  obtain ⟨b, off, hA, hg, hc⟩ := h3 (by omega)
  refine ⟨b, off, hA, hg, fun i t hi => hc i t ?_⟩
  rw [List.getElem?_take] at hi
  split at hi
  · exact hi
  · cases hi
theorem Rd.drop {b off n cap : Nat} (h : R.Rd w (.slice (some ⟨b, off, none⟩) n cap) g l) (k : Nat) (hk : k ≤ l.length) : R.Rd w (.slice (some ⟨b, off + k * R.n, none⟩) (n - k) (cap - k)) g (l.drop k) := by
  obtain ⟨A', cap', hv, h1, h2, hu, h3, h4⟩ := h
  injection hv with ha hn hc
  subst ha hc
  refine ⟨_, cap - k, by rw [List.length_drop, ← hn], by rw [List.length_drop]; omega, by omega, hu, fun hp => ?_, fun h => by cases h⟩
  rw [List.length_drop] at hp
  obtain ⟨b', off', hA, hg, hc⟩ := h3 (by omega)
  injection hA with hA
  injection hA with hb ho
  subst hb ho
  refine ⟨b, _, rfl, hg, fun i t hi => ?_⟩
  rw [List.getElem?_drop] at hi
  have := hc _ t hi
  rwa [Nat.add_mul, ← Nat.add_assoc] at this
/-- a record in a block of its own, as buildSlice lays it -/
theorem Rd.one (R : RecT α) (w : World) (j : α) : R.Rd (w.alloc (.cells (R.cs j).toArray R.t)) (.slice (some ⟨w.heap.size, 0, none⟩) 1 1) (some w.heap.size) [j] := by
  have h := Blk.new w R.t (R.cs j).toArray
  refine ⟨_, 1, rfl, Nat.le_refl _, by decide, fun b hb => (by cases hb; exact h.lt), fun _ => ⟨w.heap.size, 0, rfl, rfl, fun i t hi k hk => ?_⟩, fun h => by cases h⟩
  have : i = 0 := by have := (List.getElem?_eq_some_iff.1 hi).1; simp at this; exact this
  subst this
  simp at hi
  subst hi
  rw [h.cell]
  simp

theorem Rd.cells_ {b off cap : Nat} (h : R.Rd w (.slice (some ⟨b, off, none⟩) l.length cap) g l) : ∀ j u, (R.cells l)[j]? = some u → w.cell? ((⟨b, off, none⟩ : Addr).add j) = some u := by
  intro j u hj
  have hjl : j < l.length * R.n := by have := (List.getElem?_eq_some_iff.1 hj).1; rwa [R.cells_len] at this
  have hq : j / R.n < l.length := (Nat.div_lt_iff_lt_mul R.pos).2 hjl
  obtain ⟨t, ht⟩ : ∃ t, l[j / R.n]? = some t := ⟨_, List.getElem?_eq_getElem hq⟩
  have hm := Nat.mod_lt j R.pos
  have hjj : j / R.n * R.n + j % R.n = j := by rw [Nat.mul_comm]; exact Nat.div_add_mod j R.n
  have hg := R.cells_get l (j / R.n) t ht (j % R.n) hm
  rw [hjj, hj] at hg
  obtain ⟨A, cap', hv, _, _, _, h3⟩ := h
  obtain ⟨b', off', hA, _, hc⟩ := h3.1 (Nat.lt_of_le_of_lt (Nat.zero_le _) hq)
  injection hv with ha hn hc'
  subst ha
  injection hA with hA
  injection hA with hb ho
  subst hb ho
  have := hc _ t ht (j % R.n) hm
  rw [Addr.add_lit, hg, ← this, Nat.add_assoc, hjj]

/-- append onto an owned row -/
theorem run_append {P : Program} {ts ty : TypeId} {z : Value} {by_ : Nat} (ht : P.underlying ts = some (.slice R.t)) (hinfo : (P.info? R.t).map (fun i => (i.zero, i.size, i.bytes)) = some (some z, R.n, by_)) (hz : z.cells.size = R.n) (hby : by_ ≤ 1000000)
    (hown : R.Row w v l) {vx : Value} {gx : Option Nat} {m : List α} (hr : R.Rd w vx gx m) (hb : l.length + m.length ≤ 100000000) :
    ∃ v' w', (Builtin.append_ #[ts, ts] ty #[v, vx]).run P w = .ok v' w' ∧ R.Row w' v' (l ++ m) ∧ w.grownBy w' v.ownBlock ∧ From v.ownBlock w.heap.size v'.ownBlock := by
  obtain ⟨i0, hi, hz0, hz1, hz2⟩ := info_parts hinfo
  have hbb : (l.length + m.length) * by_ ≤ 140737488355328 := Nat.le_trans (Nat.mul_le_mul hb hby) (by decide)
  by_cases hm : m = []
  · subst hm
    obtain ⟨A, cap, rfl, h1, h2, _, h3⟩ := hr
    cases A with
    | none =>
      obtain rfl : cap = 0 := by obtain ⟨-, h⟩ := h3; exact h rfl
      refine ⟨v, w, run_append_owned_none (P := P) (w := w) 0 ts ty R.t i0 R.n ht hi v l.length (R.cells l) hown, by rw [List.append_nil]; exact hown, World.grownBy.refl w _, From.refl _ _⟩
    | some a =>
      obtain ⟨v', w', hrun, h2, h3, _, h5⟩ := run_append_own_at (P := P) w 0 ts ty R.t i0 _ R.n by_ ht hi hz0 hz1 hz2 hz R.pos v l.length (R.cells l) hown a 0 cap [] (by simp)
        (fun j u hj => by simp at hj) (fun u hu => by simp at hu) (by unfold maxLen; simp at hb; omega) (by simpa using hbb) (Nat.zero_le _)
      refine ⟨v', w', hrun, by simpa [Row] using h2, h3, fun b hb => h5.elim (fun e => .inl (by rw [← e, hb])) (fun e => .inr (by rw [hb] at e; injection e with e; omega))⟩
  · have hp : 0 < m.length := List.length_pos_iff.2 hm
    have hr' := hr
    obtain ⟨A, cap, rfl, h1, h2, _, h3, _⟩ := hr
    obtain ⟨b, off, rfl, _, _⟩ := h3 hp
    obtain ⟨v', w', hrun, h2, h3, _, h5⟩ := run_append_own_at (P := P) w 0 ts ty R.t i0 _ R.n by_ ht hi hz0 hz1 hz2 hz R.pos v l.length (R.cells l) hown ⟨b, off, none⟩ m.length cap (R.cells m) (R.cells_len m)
      hr'.cells_ (R.cells_one m) (by unfold maxLen; omega) hbb (Nat.zero_le _)
    refine ⟨v', w', hrun, ?_, h3, fun b hb => h5.elim (fun e => .inl (by rw [← e, hb])) (fun e => .inr (by rw [hb] at e; injection e with e; omega))⟩
    unfold Row
    rw [R.cells_app, List.length_append]
    exact h2
theorem wpList_append {P : Program} {ops : Array Oper} {rest : List Oper} {o : Oper} {a : Act} {Q : Exit → Act → World → Prop} {ts : TypeId} {z : Value} {by_ : Nat}
    (ht : P.underlying ts = some (.slice R.t)) (hinfo : (P.info? R.t).map (fun i => (i.zero, i.size, i.bytes)) = some (some z, R.n, by_)) (hz : z.cells.size = R.n) (hby : by_ ≤ 1000000)
    (hgd : o.guard = none) (s x : Operand) (ho : o.op = .call { callee := .builtin .append, args := #[s, x], argTypes := #[ts, ts] })
    (v : Value) (l : List α) (hs : a.eval s = v) (hown : R.Row w v l) (vx : Value) (gx : Option Nat) (m : List α) (hx : a.eval x = vx) (hr : R.Rd w vx gx m) (hb : l.length + m.length ≤ 100000000)
    (h : ∀ v' w', R.Row w' v' (l ++ m) → Keeps (fun b => v.ownBlock = some b) w w' → From v.ownBlock w.heap.size v'.ownBlock → wpList P ops Q rest (a.put o.dst v') w') : wpList P ops Q (o :: rest) a w :=
  wpList_plain hgd fun K hK => by
    obtain ⟨v', w', hrun, h2, h3, h4⟩ := run_append (ty := o.type) ht hinfo hz hby hown hr hb
    unfold Oper.wp execOp
    simp only [ho, resolve, invoke, builtin, Sem.run_bind, Sem.run_pure, Result.andThen_ok, List.map_toArray, List.map_cons, List.map_nil, hs, hx, hrun]
    exact hK _ _ (h v' w' h2 ((Keeps.refl _ w).grown h3 (fun _ h _ => h)) h4)

/-- a list with some of its elements put anew -/
def sets : List Value → Nat → List Value → List Value
  | L, _, [] => L
  | L, o, u :: us => sets (L.set o u) (o + 1) us
theorem sets_app : ∀ (us A B C : List Value), B.length = us.length → sets (A ++ B ++ C) A.length us = A ++ us ++ C
  | [], A, B, C, h => by
    have : B = [] := List.eq_nil_of_length_eq_zero h
    subst this; simp [sets]
  | u :: us, A, [], C, h => by simp at h
  | u :: us, A, b :: B, C, h => by
    have := sets_app us (A ++ [u]) B C (by simpa using h)
    rw [sets, show ((A ++ b :: B ++ C).set A.length u) = (A ++ [u]) ++ B ++ C by simp, show A.length + 1 = (A ++ [u]).length by simp, this]
    simp
theorem blk_sets {b : Nat} {T : TypeId} : ∀ (us : List Value) (o : Nat) (w : World) (L : List Value), Blk w b T L.toArray → Blk (w.setCells b o us) b T (sets L o us).toArray ∧ Keeps (only b) w (w.setCells b o us)
  | [], o, w, L, h => ⟨h, Keeps.refl _ _⟩
  | u :: us, o, w, L, h => by
    have h1 := h.set_ o u
    rw [List.setIfInBounds_toArray] at h1
    obtain ⟨h2, h3⟩ := blk_sets us (o + 1) (w.setCell ⟨b, o, none⟩ u) _ h1
    exact ⟨h2, ((Keeps.refl (only b) w).setCell (p := ⟨b, o, none⟩) (fun _ => rfl) u).trans h3 (fun _ _ h => h)⟩
theorem cells_set (R : RecT α) (l : List α) (i : Nat) (t : α) (hi : i < l.length) (rest : List Value) : sets (R.cells l ++ rest) (i * R.n) (R.cs t) = R.cells (l.set i t) ++ rest := by
  have h1 : R.cells l = R.cells (l.take i) ++ R.cs l[i] ++ R.cells (l.drop (i + 1)) := by
    have e : l = l.take i ++ l[i] :: l.drop (i + 1) := by rw [← List.drop_eq_getElem_cons hi, List.take_append_drop]
    exact (congrArg R.cells e).trans (by rw [cells_app]; simp only [cells, List.flatMap_cons, List.append_assoc])
  have h2 : R.cells (l.set i t) = R.cells (l.take i) ++ R.cs t ++ R.cells (l.drop (i + 1)) := by
    rw [List.set_eq_take_append_cons_drop, if_pos hi, cells_app]
    simp [cells]
  have hl : (R.cells (l.take i)).length = i * R.n := by rw [cells_len, List.length_take, Nat.min_eq_left (by omega)]
  rw [h1, h2, ← hl, List.append_assoc, sets_app _ _ _ _ (by rw [R.len, R.len])]
  simp
/-- a record is stored into a row -/
theorem Row.store {b cap : Nat} (hr : R.Row w (.slice (some ⟨b, 0, none⟩) l.length cap) l) {i : Nat} (hi : i < l.length) (t : α) :
    (∀ k, k < R.n → (∃ u, w.cell? ⟨b, i * R.n + k, none⟩ = some u) ∧ w.frozen? ⟨b, i * R.n + k, none⟩ = false) ∧
    R.Row (w.setCells b (i * R.n) (R.cs t)) (.slice (some ⟨b, 0, none⟩) l.length cap) (l.set i t) ∧ Keeps (only b) w (w.setCells b (i * R.n) (R.cs t)) := by
  rcases hr.blk with ⟨h, _⟩ | ⟨b', cap', rest, hv, hb, h1, h2, h3⟩
  · cases h
  · injection hv with ha _ hc
    injection ha with ha
    injection ha with ha
    subst ha hc
    obtain ⟨h4, h5⟩ := blk_sets (R.cs t) (i * R.n) w _ hb
    rw [cells_set R l i t hi] at h4
    refine ⟨fun k hk => ⟨?_, hb.frozen _⟩, ?_, h5⟩
    · refine ⟨_, (hb.cell _).trans (Array.getElem?_eq_getElem ?_)⟩
      have : (i + 1) * R.n ≤ l.length * R.n := Nat.mul_le_mul_right _ hi
      rw [Nat.succ_mul] at this
      simp [R.cells_len]; omega
    · have := Row.of_blk (l := l.set i t) h4 (by rw [List.length_set]; exact h1) h3
      rwa [List.length_set] at this
theorem zeroCells_mem {cs : Array Value} (h : ∀ u ∈ cs.toList, u.oneCell' = true) (n : Nat) : ∀ v ∈ (Builtin.zeroCells cs n).toList, v.oneCell' = true := by
  intro v hv
  unfold Builtin.zeroCells at hv
  rw [Array.toList_map] at hv
  obtain ⟨i, hi, rfl⟩ := List.mem_map.1 hv
  rw [Array.toList_range, List.mem_range] at hi
  have hs : 0 < cs.size := Nat.pos_of_ne_zero fun e => by rw [e] at hi; omega
  have hlt := Nat.mod_lt i hs
  rw [getElem!_pos cs (i % cs.size) hlt]
  exact h _ (by simp)
/-- what lies behind a row is cleared -/
theorem Row.clear {P : Program} {ts : TypeId} {z : Value} (ht : P.underlying ts = some (.slice R.t)) (hzv : ∀ w, (zeroValue R.t).run P w = .ok z w) (hz : z.cells.size = R.n) (hz1 : ∀ u ∈ z.cells.toList, u.oneCell' = true)
    (b cap n c : Nat) (hr : R.Row w (.slice (some ⟨b, 0, none⟩) l.length cap) l) (hn : 0 < n) (hle : l.length + n ≤ cap) :
    ∃ w', (∀ ty, (Builtin.clear_ #[ts] ty #[.slice (some ⟨b, l.length * R.n, none⟩) n c]).run P w = .ok (.tuple #[]) w') ∧ R.Row w' (.slice (some ⟨b, 0, none⟩) l.length cap) l ∧ Keeps (only b) w w' := by
  rcases hr.blk with ⟨h, _⟩ | ⟨b', cap', rest, hv, hb, h1, h2, h3⟩
  · cases h
  · injection hv with ha _ hc
    injection ha with ha
    injection ha with ha
    subst ha hc
    obtain ⟨Z, hZ⟩ : ∃ Z, Z = (Builtin.zeroCells z.cells n).toList := ⟨_, rfl⟩
    have hZl : Z.length = n * R.n := by rw [hZ, Array.length_toList, size_zeroCells, hz]
    have hmul : (l.length + n) * R.n ≤ cap * R.n := Nat.mul_le_mul_right _ hle
    rw [Nat.add_mul] at hmul
    have hsz : (R.cells l ++ rest).toArray.size = cap * R.n := by simp [R.cells_len]; omega
    have hcell : ∀ j, j < Z.length → (w.cell? ⟨b, l.length * R.n + j, none⟩).isSome = true := fun j hj => by
      rw [hb.cell, Array.getElem?_eq_getElem (by rw [hsz]; omega)]; rfl
    have hst := run_storeCells_cells (P := P) b (l.length * R.n) Z 0 w (by simpa using hcell) (fun j _ => by simpa using hb.frozen _) (by
      intro v hv
      rw [hZ] at hv
      exact zeroCells_mem hz1 n v hv)
    simp only [Nat.add_zero] at hst
    obtain ⟨h4, h7⟩ := blk_sets Z (l.length * R.n) w _ hb
    refine ⟨w.setCells b (l.length * R.n) Z, fun ty => ?_, ?_, h7⟩
    · obtain ⟨m, rfl⟩ : ∃ m, n = m + 1 := ⟨n - 1, by omega⟩
      simp [Builtin.clear_, run_underlying ht, hzv, ← hZ, hst]
    · have hres : sets (R.cells l ++ rest) (l.length * R.n) Z = R.cells l ++ (Z ++ rest.drop Z.length) := by
        rw [← R.cells_len]
        have e : R.cells l ++ rest = R.cells l ++ rest.take Z.length ++ rest.drop Z.length := by rw [List.append_assoc, List.take_append_drop]
        rw [e, sets_app _ _ _ _ (by rw [List.length_take]; omega), List.append_assoc]
      rw [hres] at h4
      refine Row.of_blk h4 ?_ h3
      rw [List.length_append, List.length_drop]
      omega
end RecT
end Go.Proofs.YtnddaildicmneaaGreat
/-
  disk: places of pending writes: as keys of a map, as records of a row; sectors. Plain words.
-/
namespace Go.Proofs.YtnddaildicmneaaGreat
open Go.RowKit Go.Maps

theorem laidOutD : laidOutB Tryz.prog = true := by kernel_rfl
theorem lawP : WideMaps.KeyLaw Tryz.prog 93 := deep_law_laid laidOutD (m := 3) (by omega) (of_decide_eq_true (by kernel_rfl)) (by kernel_rfl) (by kernel_rfl)
def recP : RecT (Int × Int) := ⟨93, 2, fun x => [.int .i64 x.1, .int .i64 x.2], fun _ => rfl, fun _ u hu => by simp at hu; rcases hu with rfl | rfl <;> rfl, by decide⟩
theorem infoP : (Tryz.prog.info? 93).map (fun i => (i.zero, i.size, i.bytes)) = some (some (.agg #[.int .i64 0, .int .i64 0]), 2, 16) := by kernel_rfl
def wfI (a : Int) : Prop := (Lit.int .i64 a).wf = true
theorem keyTypeP : Tryz.prog.keyType 93 = true := by kernel_rfl
theorem cellsP : Tryz.prog.cellsOf 93 = 2 := by kernel_rfl
theorem keyP_is (a b : Int) (ha : wfI a) (hb : wfI b) : ∃ kl, keyOf Tryz.prog 93 (.agg #[.int .i64 a, .int .i64 b]) = some kl := by
  have hC : Tryz.prog.cellsOf 3 = 1 := by kernel_rfl
  have hf : (Value.agg #[.int .i64 a, .int .i64 b]).formed Tryz.prog 93 = true := by simp [Value.formed, Tryz.underlying93, cellsP]
  obtain ⟨n, hn⟩ : ∃ n, Tryz.prog.types.size + 1 = n + 2 := ⟨Tryz.prog.types.size - 1, by have : 1 ≤ Tryz.prog.types.size := of_decide_eq_true (by kernel_rfl); omega⟩
  unfold keyOf
  rw [Tryz.underlying93]
  simp only [keyTypeP, hf, Bool.and_self, if_true, hn]
  unfold wfI at ha hb
  simp [Program.keyLits, Tryz.underlying93, Tryz.underlying3, cellsP, hC, Value.cells, ha, hb]
set_option maxRecDepth 20000 in
theorem keyP_inv (v : Value) (kl : Lit) (h : keyOf Tryz.prog 93 v = some kl) : ∃ a b : Int, v = .agg #[.int .i64 a, .int .i64 b] ∧ wfI a ∧ wfI b := by
  have hC : Tryz.prog.cellsOf 3 = 1 := by kernel_rfl
  obtain ⟨n, hn⟩ : ∃ n, Tryz.prog.types.size + 1 = n + 2 := ⟨Tryz.prog.types.size - 1, by have : 1 ≤ Tryz.prog.types.size := of_decide_eq_true (by kernel_rfl); omega⟩
  unfold keyOf at h
  rw [Tryz.underlying93] at h
  simp only [keyTypeP, Bool.true_and, hn] at h
  split at h
  · rename_i hf
    cases v <;> simp [Value.formed, Tryz.underlying93, cellsP] at hf
    rename_i cs
    obtain ⟨l⟩ := cs
    simp at hf
    obtain ⟨u0, u1, rfl⟩ : ∃ u0 u1, l = [u0, u1] := by
      match l, hf with
      | [u0, u1], _ => exact ⟨u0, u1, rfl⟩
    clear hf
    simp [Program.keyLits, Tryz.underlying93, Tryz.underlying3, cellsP, hC, Value.cells] at h
    cases u0 <;> try (simp [Program.keyLits] at h; done)
    rename_i q a
    by_cases h1 : q = IntKind.i64 ∧ (Lit.int IntKind.i64 a).wf = true
    · cases u1 <;> try (simp [Program.keyLits, h1] at h; done)
      rename_i q2 c
      by_cases h2 : q2 = IntKind.i64 ∧ (Lit.int IntKind.i64 c).wf = true
      · obtain ⟨rfl, w1⟩ := h1
        obtain ⟨rfl, w2⟩ := h2
        exact ⟨a, c, rfl, w1, w2⟩
      · obtain ⟨rfl, w1⟩ := h1
        simp [Program.keyLits, h2, w1] at h
    · simp [Program.keyLits, h1] at h
  · cases h
/-- the places as keys -/
def keyP : KeyT (Int × Int) where
  t := 93
  val x := .agg #[.int .i64 x.1, .int .i64 x.2]
  ok x := wfI x.1 ∧ wfI x.2
  keyed := Keyed.of_law lawP
  key x h := keyP_is x.1 x.2 h.1 h.2
  inj x y h := by
    obtain ⟨a, b⟩ := x
    obtain ⟨c, d⟩ := y
    simp at h
    exact Prod.ext h.1 h.2
  inv v kl h := by
    obtain ⟨a, b, rfl, h1, h2⟩ := keyP_inv v kl h
    exact ⟨(a, b), rfl, h1, h2⟩
theorem wfI_nat (n : Nat) (h : n < 9223372036854775808) : wfI (n : Int) := by
  simp [wfI, Lit.wf, IntKind.min, IntKind.max, IntKind.signed, IntKind.bits]; omega
end Go.Proofs.YtnddaildicmneaaGreat
/-
  The keys of a map, gathered one by one. Plain words.
-/
namespace Go.Proofs.YtnddaildicmneaaGreat
open Go.RowKit Go.Maps

section
variable {κ : Type} {H : Type}
def CollK (K : KeyT κ) (D0 : DataW H) (left : Lit → Bool) (ss : List κ) : Prop := ss.Nodup ∧ (∀ x ∈ ss, K.ok x) ∧ ∀ x, K.ok x → (x ∈ ss ↔ (has D0 (K.lit x) = true ∧ left (K.lit x) = false))
def KeysK (K : KeyT κ) (D0 : DataW H) (ss : List κ) : Prop := ss.Nodup ∧ (∀ x ∈ ss, K.ok x) ∧ ∀ x, K.ok x → (x ∈ ss ↔ has D0 (K.lit x) = true)
variable {K : KeyT κ} {D0 : DataW H} {left : Lit → Bool} {ss : List κ}
theorem CollK.start (K : KeyT κ) (D0 : DataW H) : CollK K D0 (has D0) [] := ⟨List.nodup_nil, by simp, fun x _ => by cases has D0 (K.lit x) <;> simp⟩
theorem CollK.step (h : CollK K D0 left ss) {x : κ} {y : DataW H} (hx : K.ok x) (hlk : left (K.lit x) = true) (hat : ∀ zd, D0.atKey (K.lit x) zd = y) : CollK K D0 (fun z => left z && !z.sameKey (K.lit x)) (ss ++ [x]) := by
  have hhas : has D0 (K.lit x) = true := has_true_of_atKey hat
  have hnew : x ∉ ss := fun hm => by have := ((h.2.2 x hx).1 hm).2; rw [hlk] at this; cases this
  refine ⟨List.nodup_append.2 ⟨h.1, by simp, fun a ha b hb => by simp at hb; subst hb; exact fun e => hnew (e ▸ ha)⟩, fun y hy => ?_, fun y hy => ?_⟩
  · rcases List.mem_append.1 hy with hy | hy
    · exact h.2.1 y hy
    · rw [List.mem_singleton.1 hy]; exact hx
  · have hs : (K.lit x).sameKey (K.lit x) = true := by
      have hk := K.isKey hx
      revert hk
      cases K.lit x <;> simp [Lit.sameKey, WideAt.IsKeyLit]
    rw [List.mem_append, List.mem_singleton, h.2.2 y hy]
    by_cases e : y = x
    · subst e; simp [hhas, hs]
    · have hne : (K.lit y).sameKey (K.lit x) = false := sameKey_ne (fun c => e (K.lit_inj hy hx c))
      simp [e, hne]
theorem CollK.keys (h : CollK K D0 left ss) (hl : ∀ kl, left kl = false) : KeysK K D0 ss := ⟨h.1, h.2.1, fun x hx => by rw [h.2.2 x hx, hl]; simp⟩
theorem KeysK.perm [DecidableEq κ] {D0 : DataW Value} {ss : List κ} (h : KeysK K D0 ss) {l : List (κ × Value)} (hok : ∀ p ∈ l, K.ok p.1) (hn : (l.map (·.1)).Nodup) (hh : ∀ x, K.ok x → (has D0 (K.lit x) = true ↔ x ∈ l.map (·.1))) : ss.Perm (l.map (·.1)) := by
  refine (List.perm_ext_iff_of_nodup h.1 hn).2 fun x => ⟨fun hx => (hh x (h.2.1 x hx)).1 ((h.2.2 x (h.2.1 x hx)).1 hx), fun hx => ?_⟩
  have hx' : K.ok x := by
    obtain ⟨p, hp, rfl⟩ := List.mem_map.1 hx
    exact hok p hp
  exact (h.2.2 x hx').2 ((hh x hx').2 hx)
end
theorem cells_new (w : World) (cs : List Value) (t : TypeId) : ∀ j u, cs[j]? = some u → (w.alloc (.cells cs.toArray t)).cell? ((⟨w.heap.size, 0, none⟩ : Addr).add j) = some u := fun j u hj => by
  rw [Addr.add_lit, (Blk.new w t cs.toArray).cell]
  simpa using hj
end Go.Proofs.YtnddaildicmneaaGreat
/- The assignment and the body of a function's one range over a function, taken out of its code. No program in sight. -/
namespace Go.Proofs.YtnddaildicmneaaGreat
def rangeOf : Code → Option (Code × Code)
  | .rangeFunc _ _ a b => some (a, b)
  | .seq a b => match rangeOf a with | some r => some r | none => rangeOf b
  | .block _ b => rangeOf b
  | .scope b => rangeOf b
  | .loop b => rangeOf b
  | .cond _ a b => match rangeOf a with | some r => some r | none => rangeOf b
  | _ => none
end Go.Proofs.YtnddaildicmneaaGreat
/- maps.Keys, slices.AppendSeq, Collect at loggia/disk.place. wip/gen_it2.py wrote it. -/
namespace Go.Proofs.YtnddaildicmneaaGreat
open Go.Proofs Go.RowKit Go.Maps Go.Sort

set_option maxHeartbeats 1000000 in
theorem Itp.keys_in (F : Fence) (n : Nat) (h7 : F.fn (64)) (hro : F.round = none) (mb : Option Nat) (w : World) :
    CallsIn F n Tryz.prog (64) #[.map mb] w fun e w' => e = .returned (.func (.func (73)) #[] #[.pointer (some ⟨w.heap.size, 0, none⟩)]) ∧ w' = w.alloc (.cells #[.map mb] (54)) := by
  refine callsIn_of_wp Tryz.func64 rfl h7 ?_ hro
  simp only [Tryz.ntmps64, List.size_toArray, List.length_cons, List.length_nil, Nat.reduceAdd, Nat.reduceSub, Array.replicate_succ, Array.replicate_zero, List.push_toArray, List.append_toArray, List.nil_append, List.cons_append]
  gi_wp2
  go_ret
  exact ⟨rfl, rfl⟩

set_option maxRecDepth 100000 in
set_option maxHeartbeats 1000000 in
theorem Itp.keys1N_in {H : Type} (F : Fence) (n : Nat) (h10 : F.fn (73)) (hro : F.round = none) (hn : 1 ≤ n) (l Bm b nn : Nat) (D0 : DataW H) {R : Value → Option (DataW H × List MemPlace)} (J : List (Int × Int) → World → Prop)
    (hY : ∀ pre x W, J pre W → pre.length < Maps.size D0 → YieldAt F (n - 1) Tryz.prog l #[keyP.val x] W fun e W' => e = .returned (.bool true) ∧ J (pre ++ [x]) W' ∧ KeepsWalks W W')
    (W : World) (hJ : AbidesFrom W.heap.size J) (hm : W.cell? ⟨Bm, 0, none⟩ = some (.map (some b))) (hown : W.ownsMap Tryz.prog (93) R b nn D0) (h0 : J [] W) :
    CallsIn F n Tryz.prog (73) #[.func (.yield l) #[] #[], .pointer (some ⟨Bm, 0, none⟩)] W fun e W' => (∃ v, e = .returned v) ∧ ∃ ss : List (Int × Int), KeysK keyP D0 ss ∧ J ss W' := by
  refine callsIn_of_wp Tryz.func73 rfl h10 ?_ hro
  simp only [Tryz.ntmps73, List.size_toArray, List.length_cons, List.length_nil, Nat.reduceAdd, Nat.reduceSub, Array.replicate_succ, Array.replicate_zero, List.push_toArray, List.append_toArray, List.nil_append, List.cons_append]
  gi_wp2_with (first
    | (gi_at_range; refine wpListIn_range_own _ rfl _ (54) rfl (93) (33) keyP.keyed Tryz.underlying54 _ b nn _ rfl hown ?_; intro w0 hrg0 hg0 hs0)
    | gi_in)
  go_frame
  gi_loopw [3] (fun _ wr => ∃ (left : Lit → Bool) (cnt : Nat) (ss : List (Int × Int)), wr.ranges Tryz.prog (93) R b W.heap.size nn D0 left cnt ∧ ss.length + cnt ≤ Maps.size D0 ∧ CollK keyP D0 left ss ∧ J ss wr)
    (fun _ wr => wr.rangeLeft b W.heap.size)
  case atStart =>
    exact ⟨_, _, [], hrg0, by simp, CollK.start keyP D0, hJ [] W w0 none h0 hg0 (fun r e => by cases e)⟩
  case round =>
    obtain ⟨left, cnt, ss, hrg, hcs, hC, hJs⟩ := hrel
    gi_wp2_with (first
      | (gi_at_next; refine wpListIn_next_ranges _ rfl _ rfl (93) keyP.keyed R (fun x : (Int × Int) => Value.agg #[.int .i64 x.1, .int .i64 x.2]) id (fun key kl hk => by obtain ⟨x, hx, _⟩ := keyP.inv _ _ hk; exact ⟨x, hx⟩) (fun v _ _ => ⟨v, rfl⟩) b W.heap.size nn _ _ _ rfl hrg ?_ ?_)
      | gi_in)
    ·
      intro hc0 hl0
      gi_wp2
      go_end0
      exact ⟨⟨_, rfl⟩, ss, hC.keys hl0, hJs⟩
    ·
      intro xa xb c kl yd yp w2 cnt2 hkey hlk hv hat hrg2 hlt hg2 hs2 hen
      obtain ⟨x, hx⟩ : ∃ x : Int × Int, x = (xa, xb) := ⟨_, rfl⟩
      obtain ⟨x', ex, hok⟩ := keyP.inv _ _ hkey
      have hxx : x = x' := by rw [hx]; exact keyP.inj (xa, xb) x' ex
      rw [← hxx] at hok
      clear hxx ex
      have e0 : keyP.lit x = kl := Option.some.inj ((keyP.litOf hok).symm.trans (by rw [hx]; exact hkey))
      subst e0
      subst hx
      have hJ2 : J ss w2 := hJ ss wr w2 (some W.heap.size) hJs hg2 (fun r e => by cases e; exact ⟨Nat.le_refl _, hrg.iter_walk⟩)
      have hJb : J ss (w2.alloc (.cells #[.int .i64 xa, .int .i64 xb] 93)) := hJ ss w2 _ none hJ2 (World.grownBy_alloc _ _ _) (fun r e => by cases e)
      obtain ⟨fn, tmps, assign, body, hy, hR⟩ := hY ss (xa, xb) _ hJb (by omega)
      have hkb : KeepsWalks w2 (w2.alloc (.cells #[.int .i64 xa, .int .i64 xb] 93)) := KeepsWalks.alloc _ _
      have hrgb := hrg2.of_walks hkb
      simp only [keyP] at hy
      clear hs2
      gi_wp2
      refine hR.mono ?_
      rintro e W3 ⟨rfl, hJ3, hk3⟩
      gi_wp2
      have hrg3 := hrgb.of_walks hk3
      go_roundw
      case rel => exact ⟨_, cnt2, ss ++ [(xa, xb)], hrg3, by simp; omega, hC.step hok hlk hat, hJ3⟩
      case measure => rw [hrg3.left_eq, hrg.left_eq]; exact hlt

theorem Itp.keys_gives {H : Type} (F : Fence) (n : Nat) (h10 : F.fn (73)) (hro : F.round = none) (hn : 1 ≤ n) (Bm b nn : Nat) (D0 : DataW H) {R : Value → Option (DataW H × List MemPlace)} (w : World) (hBm : Bm < w.heap.size)
    (hm : w.cell? ⟨Bm, 0, none⟩ = some (.map (some b))) (hown : w.ownsMap Tryz.prog (93) R b nn D0) :
    SeqGives F n Tryz.prog (73) #[.pointer (some ⟨Bm, 0, none⟩)] keyP.val (fun ss => KeysK keyP D0 ss) (Maps.size D0) w := fun l J W hW hJ hY h0 => by
  have hown' : W.ownsMap Tryz.prog (93) R b nn D0 := by
    have hbl := hown.lt
    obtain ⟨es, clock, hb, Ft, hs, hD⟩ := hown
    exact ⟨es, clock, (hW.block b hbl).trans hb, Ft, hs, hD⟩
  exact Itp.keys1N_in F n h10 hro hn l Bm b nn D0 J hY W hJ ((hW.cell (p := ⟨Bm, 0, none⟩) hBm).trans hm) hown' h0
noncomputable def Itp.apAssign : Code := ((Tryz.f85.body.bind rangeOf).getD (.skip, .skip)).1
noncomputable def Itp.apBody : Code := ((Tryz.f85.body.bind rangeOf).getD (.skip, .skip)).2

noncomputable def Itp.apRec (fn : FuncId) (sv : Value) (Bs D : Nat) (st : LoopState) (pend : Option Code) : Loop :=
  { state := st, pending := pend, fn, tmps := #[.slice none 0 0, sv, .pointer (some ⟨Bs, 0, none⟩), undef, .slice none 0 0, undef, sv, undef, undef, undef, undef, undef, undef], params := #[7], assign := Itp.apAssign, body := Itp.apBody, defers := D }

structure Itp.ApAt (w0 : World) (fn : FuncId) (sv : Value) (Bs l D : Nat) (ss : List (Int × Int)) (W : World) : Prop where
  box : ∃ v, W.heap[Bs]? = some (.cells #[v] (90) (0, 0)) ∧ W.ownsRow w0.heap.size (93) 2 v ss.length (recP.cells ss) ∧ (v = .slice none 0 0 ↔ ss = [])
  L : W.heap[l]? = some (.loop (Itp.apRec fn sv Bs D .ready none))
  K : W.heap[D]? = some (.deferred (some []))
  below : Below w0.heap.size w0 W

theorem Itp.ap_abides (w0 : World) (fn : FuncId) (sv : Value) (Bs l D B : Nat) (hB : w0.heap.size ≤ B) : AbidesFrom B (Itp.ApAt w0 fn sv Bs l D) := fun s W W' row h hg hrow => by
  have hrow' : ∀ r, row = some r → ∃ o : Obj, W.heap[r]? = some o ∧ o.isWalk = true := fun r e => (hrow r e).2
  obtain ⟨v, hv, hr, hn⟩ := h.box
  exact ⟨⟨v, (grownBy_keeps hg hrow' hv rfl).trans hv, ownsRow_abides_a hr hg hrow', hn⟩, (grownBy_keeps hg hrow' h.L rfl).trans h.L, (grownBy_keeps hg hrow' h.K rfl).trans h.K,
    h.below.grown hg h.below.size (fun k e => Nat.le_trans hB (hrow k e).1)⟩

set_option maxRecDepth 100000 in
set_option maxHeartbeats 2000000 in
theorem Itp.apYield (F : Fence) (m : Nat) (w0 : World) (fn : FuncId) (hfn : F.fn fn) (sv : Value) (Bs l D : Nat) (hBl : Bs ≠ l) (hDl : D ≠ l) (hDB : D ≠ Bs) (h0B : w0.heap.size ≤ Bs) (h0l : w0.heap.size ≤ l)
    (N : Nat) (hN : N ≤ maxLen) (hNb : N * 16 ≤ 140737488355328) (ss : List (Int × Int)) (x : (Int × Int)) (W : World) (h : Itp.ApAt w0 fn sv Bs l D ss W) (hlen : ss.length < N) :
    YieldAt F m Tryz.prog l #[keyP.val x] W fun e W' => e = .returned (.bool true) ∧ Itp.ApAt w0 fn sv Bs l D (ss ++ [x]) W' ∧ KeepsWalks W W' := by
  have hne : (90 : Nat) ≠ 93 := by decide
  obtain ⟨i0, hi, hz0, hz1, hz2⟩ := info_parts infoP
  obtain ⟨v, hv, hrow, _⟩ := h.box
  show YieldAt F m Tryz.prog l #[Value.agg #[.int .i64 x.1, .int .i64 x.2]] W _
  refine ⟨fn, #[.slice none 0 0, sv, .pointer (some ⟨Bs, 0, none⟩), undef, .slice none 0 0, undef, sv, .agg #[.int .i64 x.1, .int .i64 x.2], undef, undef, undef, undef, undef], Itp.apAssign, Itp.apBody, by simpa [Itp.apRec] using run_yield (P := Tryz.prog) (args := #[Value.agg #[.int .i64 x.1, .int .i64 x.2]]) h.L rfl, roundIn_of_wpIn hfn ?_⟩
  obtain ⟨Wb, hWb⟩ : ∃ Wb, W.alloc (.cells #[.int .i64 x.1, .int .i64 x.2] 93) = Wb := ⟨_, rfl⟩
  replace h : Itp.ApAt w0 fn sv Bs l D ss Wb := by rw [← hWb]; exact Itp.ap_abides w0 fn sv Bs l D _ (Nat.le_refl _) ss W _ none h (World.grownBy_alloc _ _ _) (fun r e => by cases e)
  have hbx : Blk Wb W.heap.size 93 #[.int .i64 x.1, .int .i64 x.2] := by rw [← hWb]; exact Blk.new _ _ _
  replace hv : Wb.heap[Bs]? = some (.cells #[v] 90) := by rw [← hWb]; exact (Below.heap_alloc _ _ Bs (Array.getElem?_eq_some_iff.1 hv).1).trans hv
  replace hrow : Wb.ownsRow w0.heap.size (93) 2 v ss.length (recP.cells ss) := by rw [← hWb]; exact hrow.alloc _
  have hl : l < Wb.heap.size := (Array.getElem?_eq_some_iff.1 h.L).1
  have hbr := run_beginRound (P := Tryz.prog) h.L rfl
  obtain ⟨W2, hW2⟩ : ∃ W2, Wb.putObj l (.loop { Itp.apRec fn sv Bs D .ready none with state := .busy }) = W2 := ⟨_, rfl⟩
  rw [hW2] at hbr
  have hg2 : Wb.grownBy W2 (some l) := by rw [← hW2]; exact grownBy_putObj_a _ _ _
  have hk2 : KeepsWalks W W2 := (show KeepsWalks W Wb by rw [← hWb]; exact KeepsWalks.alloc _ _).trans (by rw [← hW2]; exact KeepsWalks.putObj _ h.L rfl)
  have hv2 : W2.heap[Bs]? = some (.cells #[v] (90) (0, 0)) := by rw [← hW2]; exact (World.putObj_heap_other hBl).trans hv
  have hK2 : W2.heap[D]? = some (.deferred (some [])) := by rw [← hW2]; exact (World.putObj_heap_other hDl).trans h.K
  have hL2 : W2.heap[l]? = some (.loop { Itp.apRec fn sv Bs D .ready none with state := .busy }) := by rw [← hW2]; exact World.putObj_heap_same hl
  have hrow2 : W2.ownsRow w0.heap.size (93) 2 v ss.length (recP.cells ss) := hrow.kept hg2 (ownsRow_ne_a hrow h.L (fun cur e => by first | cases e | exact hne (Obj.cells.inj e).2.1))
  have hb2 : Below w0.heap.size w0 W2 := h.below.grown hg2 h.below.size (fun k e => by cases e; exact h0l)
  obtain ⟨hc2, hf2⟩ := cell_of_box_a hv2
  have hBlt : Bs < W2.heap.size := (Array.getElem?_eq_some_iff.1 hv2).1
  have hl2 : l < W2.heap.size := (Array.getElem?_eq_some_iff.1 hL2).1
  have hDlt : D < W2.heap.size := (Array.getElem?_eq_some_iff.1 hK2).1
  have ne_of : ∀ {j : Nat} {o : Obj}, W2.heap[j]? = some o → (∀ cur, o ≠ .cells cur (93) (0, 0)) → some j ≠ v.ownBlock := fun hj hno => by
    rcases ownsRow_ne_a hrow2 hj hno with e | e
    · rw [e]; simp
    · exact fun e' => e e'.symm
  have hbl : l ≠ W.heap.size := by
    have := h.L
    rintro rfl
    unfold Blk at hbx
    rw [hbx] at this
    cases this
  have hx0 : W2.cell? ⟨W.heap.size, 0, none⟩ = some ([.int .i64 x.1, .int .i64 x.2][0]) := by
    have : Blk W2 W.heap.size 93 #[.int .i64 x.1, .int .i64 x.2] := by rw [← hW2]; exact (World.putObj_heap_other (Ne.symm hbl)).trans hbx
    have := this.cell 0
    simpa using this
  have hx1 : W2.cell? ⟨W.heap.size, 1, none⟩ = some ([.int .i64 x.1, .int .i64 x.2][1]) := by
    have : Blk W2 W.heap.size 93 #[.int .i64 x.1, .int .i64 x.2] := by rw [← hW2]; exact (World.putObj_heap_other (Ne.symm hbl)).trans hbx
    have := this.cell 1
    simpa using this
  simp only [List.getElem_cons_zero, List.getElem_cons_succ] at hx0 hx1
  clear hW2
  simp only [Itp.apAssign, rangeOf, Tryz.f85, Option.map_some, Option.bind_some, Option.getD_some]
  gi_wp2_with gi_round_op_a
  simp only [Itp.apBody, rangeOf, Tryz.f85, Option.map_some, Option.bind_some, Option.getD_some]
  gi_wp2_with (first
    | (gi_at_builtin; refine wpListIn_append_own _ rfl _ _ (90) rfl w0.heap.size (93) i0 (.agg #[.int .i64 0, .int .i64 0]) 2 16 Tryz.underlying90 hi hz0 hz1 hz2 rfl (by decide) _ _ _ rfl (hrow2.alloc _) ⟨W2.heap.size, 0, none⟩ 1 1 (recP.cs x) rfl rfl (cells_new _ _ _) (recP.one x) (by omega) (by omega) (by have := hb2.size; simp; omega) ?_; intro v' w3 hown' hg3 hnil3
       have hv3 : w3.heap[Bs]? = some (.cells #[v] (90) (0, 0)) := (hg3.block Bs (by simp; omega) (ne_of hv2 (fun cur e => by first | cases e | exact hne (Obj.cells.inj e).2.1))).trans ((Below.heap_alloc _ _ Bs hBlt).trans hv2)
       obtain ⟨hc3, hf3⟩ := cell_of_box_a hv3
       obtain ⟨g', cap', cur', rfl, hbase', hgb', hr1, hr2, hr3, hr4⟩ : ∃ g' cap' cur', v' = .slice (some ⟨g', 0, none⟩) (ss.length + 1) cap' ∧ w0.heap.size ≤ g' ∧ w3.heap[g']? = some (.cells cur' (93) (0, 0)) ∧ ss.length + 1 ≤ cap' ∧ cap' ≤ maxLen ∧ cur'.size = cap' * 2 ∧ cur'.toList.take ((ss.length + 1) * 2) = recP.cells ss ++ recP.cs x := by
         rcases hown'.2 with ⟨_, h0⟩ | h'
         · exact absurd h0 (by omega)
         · exact h'
       go_frame)
    | gi_round_op_a)
  have hg3' : (W2.alloc (.cells #[.int .i64 x.1, .int .i64 x.2] (93))).grownBy w3 v.ownBlock := hg3
  have hL3 : w3.heap[l]? = some (.loop { Itp.apRec fn sv Bs D .ready none with state := .busy }) := (hg3'.block l (by simp; omega) (ne_of hL2 (fun cur e => by first | cases e | exact hne (Obj.cells.inj e).2.1))).trans ((Below.heap_alloc _ _ l hl2).trans hL2)
  have hK3 : w3.heap[D]? = some (.deferred (some [])) := (hg3'.block D (by simp; omega) (ne_of hK2 (fun cur e => by first | cases e | exact hne (Obj.cells.inj e).2.1))).trans ((Below.heap_alloc _ _ D hDlt).trans hK2)
  obtain ⟨w4, hw4⟩ : ∃ w4, w3.setCell ⟨Bs, 0, none⟩ (.slice (some ⟨g', 0, none⟩) (ss.length + 1) cap') = w4 := ⟨_, rfl⟩
  rw [hw4]
  have hg4 : w3.grownBy w4 (some Bs) := by rw [← hw4]; exact grownBy_setCell0_a _ _ _
  have hv4 : w4.heap[Bs]? = some (.cells #[.slice (some ⟨g', 0, none⟩) (ss.length + 1) cap'] (90) (0, 0)) := by rw [← hw4]; exact heap_setCell_box_a _ hv3
  have hL4 : w4.heap[l]? = some (.loop { Itp.apRec fn sv Bs D .ready none with state := .busy }) := (hg4.block l (Array.getElem?_eq_some_iff.1 hL3).1 (fun e => hBl (by cases e; rfl))).trans hL3
  have hK4 : w4.heap[D]? = some (.deferred (some [])) := (hg4.block D (Array.getElem?_eq_some_iff.1 hK3).1 (fun e => hDB (by cases e; rfl))).trans hK3
  have hrow4 := hown'.kept hg4 (ownsRow_ne_a hown' hv3 (fun cur e => by first | cases e | exact hne (Obj.cells.inj e).2.1))
  have hl4 : l < w4.heap.size := (Array.getElem?_eq_some_iff.1 hL4).1
  have hb3 : Below w0.heap.size w0 w3 := (hb2.alloc hb2.size _).grown hg3' (by have := hb2.size; simp; omega) (fun k e => (hrow2.lt k e).1)
  have hb4 : Below w0.heap.size w0 w4 := hb3.grown hg4 hb3.size (fun k e => by cases e; exact h0B)
  have hk4 : KeepsWalks W w4 := ((hk2.trans (KeepsWalks.alloc _ _)).trans (KeepsWalks.of_grownBy hg3' (ownsRow_not_walk_a (hrow2.alloc _)))).trans (by rw [← hw4]; exact KeepsWalks.setCell _ _ _)
  clear hw4
  refine ⟨_, _, run_endRound none hL4, rfl, ⟨⟨_, (World.putObj_heap_other hBl).trans hv4, ?_, by simp⟩, World.putObj_heap_same hl4, (World.putObj_heap_other hDl).trans hK4, hb4.grown (grownBy_putObj_a _ _ _) hb4.size (fun k e => by cases e; exact h0l)⟩, hk4.trans (KeepsWalks.putObj _ hL4 rfl)⟩
  have := hrow4.kept (grownBy_putObj_a w4 l (.loop { { Itp.apRec fn sv Bs D .ready none with state := .busy } with state := if (none : Option Code).isNone then .ready else .done, pending := none })) (ownsRow_ne_a hrow4 hL4 (fun cur e => by first | cases e | exact hne (Obj.cells.inj e).2.1))
  rw [recP.cells_app, show recP.cells [x] = recP.cs x by simp [RecT.cells]]
  rw [List.length_append]
  exact this

set_option maxRecDepth 100000 in
set_option maxHeartbeats 2000000 in
theorem Itp.appendSeq_in (F : Fence) (n : Nat) (h11 : F.fn (85)) (hro : F.round = none) (hn : 2 ≤ n) (g : Nat) (lb : Array Value) (hFg : F.fn g) (eg : ∀ args w, (callFunc g args).run Tryz.prog w = .ok (.enter g args) w)
    (S : List (Int × Int) → Prop) (N : Nat) (hN : N ≤ maxLen) (hNb : N * 16 ≤ 140737488355328) (w : World) (hseq : SeqGives F (n - 1) Tryz.prog g lb keyP.val S N w) :
    CallsIn F n Tryz.prog (85) #[.slice none 0 0, .func (.func g) #[] lb] w fun e w' => ∃ (v : Value) (ss : List (Int × Int)), e = .returned v ∧ S ss ∧ w'.ownsRow w.heap.size (93) 2 v ss.length (recP.cells ss) ∧ (v = .slice none 0 0 ↔ ss = []) ∧ Below w.heap.size w w' := by
  have h1 : 1 ≤ n := by omega
  have hne : (90 : Nat) ≠ 93 := by decide
  refine callsIn_of_wp_marks Tryz.func85 rfl h11 ?_ hro
  simp only [Tryz.ntmps85, List.size_toArray, List.length_cons, List.length_nil, Nat.reduceAdd, Nat.reduceSub, Array.replicate_succ, Array.replicate_zero, List.push_toArray, List.append_toArray, List.nil_append, List.cons_append]
  gi_wp2
  refine wpIn_rangeFunc ?_
  intro fn hfn
  rw [hro]
  obtain ⟨W0, hW0⟩ : ∃ W0, w.alloc (.cells #[.slice none 0 0] (90)) = W0 := ⟨_, rfl⟩
  have hs0 : W0.heap.size = w.heap.size + 1 := by rw [← hW0]; simp
  have hv0 : W0.heap[w.heap.size]? = some (.cells #[.slice none 0 0] (90) (0, 0)) := by rw [← hW0]; exact World.alloc_heap_new w _
  have hb0 : Below w.heap.size w W0 := by rw [← hW0]; exact (Below.refl _ w).alloc (Nat.le_refl _) _
  rw [hW0]
  obtain ⟨W1, hW1⟩ : ∃ W1, (W0.alloc (.deferred (some []))).alloc (.loop (Itp.apRec fn (.func (.func g) #[] lb) w.heap.size W0.heap.size .ready none)) = W1 := ⟨_, rfl⟩
  have hold : ∀ k, k < W0.heap.size → W1.heap[k]? = W0.heap[k]? := fun k hk => by
    rw [← hW1]; exact (Below.heap_alloc _ _ k (by simp; omega)).trans (Below.heap_alloc _ _ k hk)
  have hb1 : Below w.heap.size w W1 := by rw [← hW1]; exact (hb0.alloc hb0.size _).alloc (by have := hb0.size; simp; omega) _
  have hs1 : W1.heap.size = W0.heap.size + 2 := by rw [← hW1]; simp
  have hM : Itp.ApAt w fn (.func (.func g) #[] lb) w.heap.size (W0.heap.size + 1) W0.heap.size [] W1 :=
    ⟨⟨_, (hold w.heap.size (by omega)).trans hv0, ⟨rfl, .inl ⟨rfl, rfl⟩⟩, by simp⟩,
     by rw [← hW1]; have := World.alloc_heap_new (W0.alloc (.deferred (some []))) (.loop (Itp.apRec fn (.func (.func g) #[] lb) w.heap.size W0.heap.size .ready none)); rwa [World.size_alloc] at this,
     by rw [← hW1]; exact (Below.heap_alloc _ _ _ (by simp)).trans (World.alloc_heap_new W0 _), hb1⟩
  refine ⟨W0.heap.size + 1, [{ target := .collected W0.heap.size, args := #[] }], W1, { target := .fn (.func g) lb, args := #[.func (.yield (W0.heap.size + 1)) #[] #[]] }, W1, g,
    #[.func (.yield (W0.heap.size + 1)) #[] #[]] ++ lb, W1, ?_, ?_, ?_, ?_, fun _ => h1, ?_⟩
  · rw [← hW1]; exact run_enterLoop_outer _ _ _ _ _
  · simp [resolve, go_sem]
  · intro f' hf'; simp [Target.leads] at hf'; subst hf'; exact hFg
  · simp [invoke, go_sem, eg]
  · refine (hseq (W0.heap.size + 1) (Itp.ApAt w fn (.func (.func g) #[] lb) w.heap.size (W0.heap.size + 1) W0.heap.size) W1 hb1 (Itp.ap_abides _ _ _ _ _ _ _ hb1.size)
      (fun pre x W hJ hl => Itp.apYield F (n - 1 - 1) w fn hfn _ w.heap.size (W0.heap.size + 1) W0.heap.size (by omega) (by omega) (by omega) (Nat.le_refl _) (by omega) N hN hNb pre x W hJ hl) hM).mono ?_
    rintro e W2 ⟨⟨v0, rfl⟩, ss, hS, h2⟩
    obtain ⟨v, hv, hrow, hnil⟩ := h2.box
    have hend := run_endLoop (P := Tryz.prog) h2.L (by simp [Itp.apRec])
    obtain ⟨W3, hW3⟩ : ∃ W3, W2.putObj (W0.heap.size + 1) (.loop { Itp.apRec fn (.func (.func g) #[] lb) w.heap.size W0.heap.size .ready none with state := .exhausted }) = W3 := ⟨_, rfl⟩
    rw [hW3] at hend
    have hg3 : W2.grownBy W3 (some (W0.heap.size + 1)) := by rw [← hW3]; exact grownBy_putObj_a _ _ _
    have hv3 : W3.heap[w.heap.size]? = some (.cells #[v] (90) (0, 0)) := by rw [← hW3]; exact (World.putObj_heap_other (by omega)).trans hv
    have hK3 : W3.heap[W0.heap.size]? = some (.deferred (some [])) := by rw [← hW3]; exact (World.putObj_heap_other (by omega)).trans h2.K
    have hrow3 := hrow.kept hg3 (ownsRow_ne_a hrow h2.L (fun cur e => by first | cases e | exact hne (Obj.cells.inj e).2.1))
    have hb3 : Below w.heap.size w W3 := h2.below.grown hg3 h2.below.size (fun k e => by cases e; omega)
    obtain ⟨hc3, hf3⟩ := cell_of_box_a hv3
    clear hW3
    refine ⟨none, W3, hend, ?_⟩
    gi_wp2
    rw [← hs0]
    refine ⟨by simp, .inl ⟨_, _, rfl, run_takeDeferred hK3, ?_⟩⟩
    exact ⟨_, results_tmp rfl _ _ _, v, ss, rfl, hS, hrow3.kept (grownBy_putObj_a _ _ _) (ownsRow_ne_a hrow3 hK3 (fun cur e => by first | cases e | exact hne (Obj.cells.inj e).2.1)), hnil, hb3.grown (grownBy_putObj_a _ _ _) hb3.size (fun k e => by cases e; omega)⟩

set_option maxHeartbeats 1000000 in
theorem Itp.collect_in (F : Fence) (n : Nat) (h8 : F.fn (71)) (h11 : F.fn (85)) (hro : F.round = none) (hn : 3 ≤ n) (g : Nat) (lb : Array Value) (hFg : F.fn g) (eg : ∀ args w, (callFunc g args).run Tryz.prog w = .ok (.enter g args) w)
    (S : List (Int × Int) → Prop) (N : Nat) (hN : N ≤ maxLen) (hNb : N * 16 ≤ 140737488355328) (w : World) (hseq : SeqGives F (n - 1 - 1) Tryz.prog g lb keyP.val S N w) :
    CallsIn F n Tryz.prog (71) #[.func (.func g) #[] lb] w fun e w' => ∃ (v : Value) (ss : List (Int × Int)), e = .returned v ∧ S ss ∧ w'.ownsRow w.heap.size (93) 2 v ss.length (recP.cells ss) ∧ (v = .slice none 0 0 ↔ ss = []) ∧ Below w.heap.size w w' := by
  have h1 : 1 ≤ n := by omega
  have e11 : ∀ args w, (callFunc (85) args).run Tryz.prog w = .ok (.enter (85) args) w := enters_of Tryz.func85 (by kernel_rfl) rfl
  refine callsIn_of_wp Tryz.func71 rfl h8 ?_ hro
  simp only [Tryz.ntmps71, List.size_toArray, List.length_cons, List.length_nil, Nat.reduceAdd, Nat.reduceSub, Array.replicate_succ, Array.replicate_zero, List.push_toArray, List.append_toArray, List.nil_append, List.cons_append]
  gi_wp2_with (gi_at_fn (85); refine (Itp.appendSeq_in F (n - 1) h11 hro (by omega) g lb hFg eg S N hN hNb _ hseq).mono ?_; rintro e w' ⟨v, ss, rfl, hS, hrow, hnil, hb⟩)
  go_ret
  exact ⟨v, ss, rfl, hS, hrow, hnil, hb⟩

end Go.Proofs.YtnddaildicmneaaGreat
/-
  A row of records before and after a sort of the library's: the kit's words for it, turned into rows. Plain words.
-/
namespace Go.Proofs.YtnddaildicmneaaGreat
open Go.Proofs Go.RowKit Go.Sort
namespace RecT
variable {α : Type} [Inhabited α] {R : RecT α}
theorem flat_cells (R : RecT α) (d : Array α) : flatK R.cs R.n d = (R.cells d.toList).toArray := by
  apply Array.ext_getElem?
  intro i
  have hp := R.pos
  by_cases hi : i < d.size * R.n
  · have hq : i / R.n < d.size := (Nat.div_lt_iff_lt_mul hp).2 hi
    have hm := Nat.mod_lt i hp
    have hii : i / R.n * R.n + i % R.n = i := by rw [Nat.mul_comm]; exact Nat.div_add_mod i R.n
    have hg := R.cells_get d.toList (i / R.n) (d[i / R.n]) (by simp) (i % R.n) hm
    rw [hii] at hg
    have hl : i % R.n < (R.cs d[i / R.n]).length := by rw [R.len]; exact hm
    have e : (R.cells d.toList).toArray[i]? = some (R.cs d[i / R.n])[i % R.n] := (List.getElem?_toArray ..).trans (hg.trans (List.getElem?_eq_getElem hl))
    rw [e]
    simp [flatK, hi, hq, hl]
  · rw [Array.getElem?_eq_none (by simp; omega), Array.getElem?_eq_none (by simp [cells_len]; omega)]
theorem holdsK_of {w : World} {b cap : Nat} {d : Array α} (h : R.Row w (.slice (some ⟨b, 0, none⟩) d.size cap) d.toList) : HoldsK R.cs R.n w b 0 d := by
  rcases h.blk with ⟨h0, -⟩ | ⟨b', cap', rest, hv, hb, -, -, -⟩
  · cases h0
  · injection hv with ha _ _
    injection ha with ha
    injection ha with ha _
    subst ha
    unfold HoldsK
    rw [flat_cells]
    intro j hj
    simp only [List.size_toArray] at hj
    refine ⟨?_, hb.frozen _⟩
    rw [Nat.zero_add, hb.cell, List.getElem?_toArray, List.getElem?_append_left hj, List.getElem?_eq_getElem hj]
    simp [hj]
theorem sortWorld_row {w : World} {b cap : Nat} {d d' : Array α} (h : R.Row w (.slice (some ⟨b, 0, none⟩) d.size cap) d.toList) (hs : d'.size = d.size) (m : Nat) (os : Array Obj) :
    R.Row (sortWorldK R.cs R.n w b 0 m d' os) (.slice (some ⟨b, 0, none⟩) d.size cap) d'.toList ∧ Keeps (only b) w (sortWorldK R.cs R.n w b 0 m d' os) := by
  rcases h.blk with ⟨h0, -⟩ | ⟨b', cap', rest, hv, hb, h1, h2, h3⟩
  · cases h0
  · injection hv with ha _ hc
    injection ha with ha
    injection ha with ha _
    subst ha hc
    have hlt := hb.lt
    have hlen : (R.cells d.toList).length = (R.cells d'.toList).length := by rw [cells_len, cells_len]; simp [hs]
    have hblk : Blk (sortWorldK R.cs R.n w b 0 m d' os) b R.t (R.cells d'.toList ++ rest).toArray := by
      unfold Blk sortWorldK
      rw [heap_grow_old _ _ (by simpa [putRowK, putRow, mapBlock, Sort.ahead] using hlt)]
      unfold Blk at hb
      simp only [putRowK, putRow, mapBlock, Sort.ahead, Array.getElem?_modify, if_true, hb, Option.map_some, onCells, Option.some.injEq, Obj.cells.injEq, and_true]
      rw [flat_cells]
      apply Array.ext_getElem?
      intro j
      simp only [putCells, Array.getElem?_mapIdx, List.getElem?_toArray, Nat.zero_le, Nat.zero_add, List.size_toArray, true_and, Nat.sub_zero, id]
      by_cases hj : j < (R.cells d'.toList).length
      · rw [List.getElem?_append_left (by omega), List.getElem?_append_left hj, List.getElem?_eq_getElem (by omega), List.getElem?_eq_getElem hj]
        simp [hj]
      · rw [List.getElem?_append_right (by omega), List.getElem?_append_right (by omega), hlen]
        cases rest[j - (R.cells d'.toList).length]? <;> simp [hj]
    refine ⟨?_, ?_⟩
    · have := Row.of_blk (l := d'.toList) hblk (by simpa [hs] using h1) h3
      simpa [hs] using this
    · refine ⟨rfl, rfl, rfl, by simp [sortWorldK, grow, putRowK, putRow, mapBlock, Sort.ahead], fun k hk hne => ?_⟩
      unfold sortWorldK
      rw [heap_grow_old _ _ (by simpa [putRowK, putRow, mapBlock, Sort.ahead] using hk)]
      have : b ≠ k := fun e => hne e.symm
      simp [putRowK, putRow, mapBlock, Sort.ahead, Array.getElem?_modify, this]
end RecT
theorem perm_map_inv {α β : Type} {f : α → β} {m k : List β} (h : m.Perm k) : ∀ l : List α, k = l.map f → ∃ l' : List α, l'.Perm l ∧ m = l'.map f := by
  induction h with
  | nil => intro l hl; exact ⟨[], by rw [List.map_eq_nil_iff.1 hl.symm], rfl⟩
  | cons x _ ih =>
    intro l hl
    cases l with
    | nil => cases hl
    | cons a l =>
      simp at hl
      obtain ⟨rfl, hl⟩ := hl
      obtain ⟨l', hp, rfl⟩ := ih l hl
      exact ⟨a :: l', hp.cons a, rfl⟩
  | swap x y t =>
    intro l hl
    match l, hl with
    | a :: c :: l, hl =>
      simp at hl
      obtain ⟨rfl, rfl, rfl⟩ := hl
      exact ⟨c :: a :: l, List.Perm.swap _ _ _, rfl⟩
  | trans _ _ ih1 ih2 =>
    intro l hl
    obtain ⟨l2, hp2, h2⟩ := ih2 l hl
    obtain ⟨l1, hp1, h1⟩ := ih1 l2 h2
    exact ⟨l1, hp1.trans hp2, h1⟩
end Go.Proofs.YtnddaildicmneaaGreat
/- Layings of the shelf's contracts at this seat, in plain words (the kit's tool lay-plain.mjs wrote them; wip/layp.py). -/
namespace Go.Proofs.YtnddaildicmneaaGreat
open Go.Shelf Go.Proofs
def sortP_ren : Go.Shelf.Ren := ⟨fun | 6 => 72 | 15 => 68 | 14 => 86 | 28 => 83 | 29 => 84 | 20 => 93 | 21 => 94 | 22 => 95 | 23 => 96 | 24 => 97 | 25 => 98 | 26 => 99 | 27 => 100 | 46 => 102 | 47 => 88 | 48 => 89 | 49 => 103 | 50 => 104 | 57 => 105 | n => n, fun | 22 => 90 | 24 => 93 | 25 => 104 | 3 => 3 | 39 => 65 | 0 => 0 | 53 => 123 | 55 => 58 | 4 => 4 | 46 => 116 | 45 => 115 | 50 => 120 | 5 => 5 | 9 => 9 | 66 => 126 | 70 => 130 | 76 => 137 | 77 => 78 | n => n, fun | n => n⟩
theorem sortP : Go.Proofs.SlLaysF0.n6 Tryz.prog sortP_ren := {
  mixed := by kernel_rfl
  f6 := ⟨Tryz.f72.name, by decide, Tryz.func72.trans (congrArg some (by kernel_rfl))⟩
  f14 := ⟨Tryz.f86.name, by decide, Tryz.func86.trans (congrArg some (by kernel_rfl))⟩
  f15 := Tryz.func68.trans (congrArg some (by kernel_rfl))
  f20 := ⟨Tryz.f93.name, by decide, Tryz.func93.trans (congrArg some (by kernel_rfl))⟩
  f21 := ⟨Tryz.f94.name, by decide, Tryz.func94.trans (congrArg some (by kernel_rfl))⟩
  f22 := ⟨Tryz.f95.name, by decide, Tryz.func95.trans (congrArg some (by kernel_rfl))⟩
  f23 := ⟨Tryz.f96.name, by decide, Tryz.func96.trans (congrArg some (by kernel_rfl))⟩
  f24 := ⟨Tryz.f97.name, by decide, Tryz.func97.trans (congrArg some (by kernel_rfl))⟩
  f25 := ⟨Tryz.f98.name, by decide, Tryz.func98.trans (congrArg some (by kernel_rfl))⟩
  f26 := ⟨Tryz.f99.name, by decide, Tryz.func99.trans (congrArg some (by kernel_rfl))⟩
  f27 := ⟨Tryz.f100.name, by decide, Tryz.func100.trans (congrArg some (by kernel_rfl))⟩
  f28 := Tryz.func83.trans (congrArg some (by kernel_rfl))
  f29 := Tryz.func84.trans (congrArg some (by kernel_rfl))
  f46 := ⟨Tryz.f102.name, by decide, Tryz.func102.trans (congrArg some (by kernel_rfl))⟩
  f47 := Tryz.func88.trans (congrArg some (by kernel_rfl))
  f48 := Tryz.func89.trans (congrArg some (by kernel_rfl))
  f49 := ⟨Tryz.f103.name, by decide, Tryz.func103.trans (congrArg some (by kernel_rfl))⟩
  f50 := ⟨Tryz.f104.name, by decide, Tryz.func104.trans (congrArg some (by kernel_rfl))⟩
  f57 := ⟨Tryz.f105.name, by decide, Tryz.func105.trans (congrArg some (by kernel_rfl))⟩
  t0 := Tryz.underlying0
  a0 := Tryz.isAgg0
  z0 := Tryz.sizeOf0
  v0 := Tryz.zeroValue0
  t3 := Tryz.underlying3
  a3 := Tryz.isAgg3
  z3 := Tryz.sizeOf3
  v3 := Tryz.zeroValue3
  t4 := Tryz.underlying4
  a4 := Tryz.isAgg4
  z4 := Tryz.sizeOf4
  v4 := Tryz.zeroValue4
  t5 := Tryz.underlying5
  a5 := Tryz.isAgg5
  z5 := Tryz.sizeOf5
  v5 := Tryz.zeroValue5
  t9 := Tryz.underlying9
  a9 := Tryz.isAgg9
  z9 := Tryz.sizeOf9
  v9 := Tryz.zeroValue9
  t22 := Tryz.underlying90
  a22 := Tryz.isAgg90
  z22 := Tryz.sizeOf90
  v22 := Tryz.zeroValue90
  t25 := Tryz.underlying104
  a25 := Tryz.isAgg104
  z25 := Tryz.sizeOf104
  v25 := Tryz.zeroValue104
  t39 := Tryz.underlying65
  a39 := Tryz.isAgg65
  z39 := Tryz.sizeOf65
  v39 := Tryz.zeroValue65
  t45 := Tryz.underlying115
  a45 := Tryz.isAgg115
  z45 := Tryz.sizeOf115
  v45 := Tryz.zeroValue115
  t46 := Tryz.underlying116
  a46 := Tryz.isAgg116
  z46 := Tryz.sizeOf116
  v46 := Tryz.zeroValue116
  t50 := Tryz.underlying120
  a50 := Tryz.isAgg120
  z50 := Tryz.sizeOf120
  v50 := Tryz.zeroValue120
  t53 := Tryz.underlying123
  a53 := Tryz.isAgg123
  z53 := Tryz.sizeOf123
  v53 := Tryz.zeroValue123
  t55 := Tryz.underlying58
  a55 := Tryz.isAgg58
  z55 := Tryz.sizeOf58
  v55 := Tryz.zeroValue58
  t66 := Tryz.underlying126
  a66 := Tryz.isAgg126
  z66 := Tryz.sizeOf126
  v66 := Tryz.zeroValue126
  t70 := Tryz.underlying130
  a70 := Tryz.isAgg130
  z70 := Tryz.sizeOf130
  v70 := Tryz.zeroValue130
  t76 := Tryz.underlying137
  a76 := Tryz.isAgg137
  z76 := Tryz.sizeOf137
  v76 := Tryz.zeroValue137
  t77 := Tryz.underlying78
  a77 := Tryz.isAgg78
  z77 := Tryz.sizeOf78
  v77 := Tryz.zeroValue78 }
end Go.Proofs.YtnddaildicmneaaGreat
/-
  disk: the row of the pending writes: the map's keys, gathered and sorted by their numbers.
-/
namespace Go.Proofs.YtnddaildicmneaaGreat
open Go.Proofs Go.RowKit Go.Sort Go.Maps

set_option maxHeartbeats 1000000 in
theorem row1_any (a b c d : Int) (h : IntKind.i64.wrap (a - c) = a - c) (W : World) :
    Calls Tryz.prog 65 #[.agg #[.int .i64 a, .int .i64 b], .agg #[.int .i64 c, .int .i64 d]] W fun e w' => e = .returned (.int .i64 (a - c)) ∧ ∃ q os', w' = grow (W.drewN q) os' := by
  go_enter Tryz.func65, Tryz.ntmps65
  go_wp2
  go_ret
  exact ⟨rfl, 0, _, by rw [alloc_eq_grow, alloc_eq_grow, grow_grow]; rfl⟩

/-- the i-th place -/
def plc (sec : Nat → Int) (i : Nat) : Int × Int := ((i : Int), sec i)
def recFin (sec : Nat → Int) (n : Nat) : RecT (Fin n) := ⟨recP.t, 2, fun i => recP.cs (plc sec i.val), fun _ => rfl, fun i u hu => recP.one (plc sec i.val) u hu, by decide⟩
theorem fin_cells (sec : Nat → Int) (n : Nat) (l : List (Fin n)) : (recFin sec n).cells l = recP.cells (l.map fun i => plc sec i.val) := by
  unfold RecT.cells
  rw [List.flatMap_map]; rfl
theorem fin_row {sec : Nat → Int} {n : Nat} {l : List (Fin n)} {w : World} {v : Value} : (recFin sec n).Row w v l ↔ recP.Row w v (l.map fun i => plc sec i.val) := by
  unfold RecT.Row
  rw [fin_cells, List.length_map]; rfl
def cfF (n : Nat) (x y : Fin n) : Int := (x.val : Int) - y.val
theorem swoF (n : Nat) : SWO (ltOf (cfF n)) where
  irrefl x := by unfold ltOf cfF; simp
  trans x y z h1 h2 := by unfold ltOf cfF at *; simp only [decide_eq_true_eq] at *; omega
  ntrans x y z h1 h2 := by unfold ltOf cfF at *; simp only [decide_eq_false_iff_not] at *; omega
theorem totF (n : Nat) (x y : Fin n) (h1 : ltOf (cfF n) x y = false) (h2 : ltOf (cfF n) y x = false) : x = y := by
  unfold ltOf cfF at *
  simp only [decide_eq_false_iff_not] at *
  exact Fin.ext (by omega)
theorem sorted_fin {n : Nat} {l : List (Fin n)} (hp : l.Perm (List.finRange n)) : l.mergeSort (fun x y => !(ltOf (cfF n)) y x) = List.finRange n := by
  have e : (fun x y : Fin n => !(ltOf (cfF n)) y x) = fun x y => decide (x ≤ y) := by
    funext x y
    unfold ltOf cfF
    rw [Bool.eq_iff_iff]
    simp only [Bool.not_eq_true', decide_eq_false_iff_not, decide_eq_true_eq, Fin.le_def]
    omega
  rw [e]
  have hs : (List.finRange n).Pairwise fun x y : Fin n => decide (x ≤ y) = true := by
    have := List.pairwise_lt_finRange n
    exact this.imp fun h => by simp; omega
  have h1 : (l.mergeSort fun x y => decide (x ≤ y)).Pairwise fun x y : Fin n => decide (x ≤ y) = true := List.pairwise_mergeSort (fun a b c h1 h2 => by simp at *; omega) (fun a b => by simp; omega) l
  exact ((List.mergeSort_perm l _).trans hp).eq_of_pairwise (fun a b _ _ h1 h2 => by simp at h1 h2; exact Fin.ext (by omega)) h1 hs
theorem finRange_plc (sec : Nat → Int) (n : Nat) : (List.finRange n).map (fun i => plc sec i.val) = (List.range n).map (plc sec) := List.ext_getElem (by simp) (fun i h1 h2 => by simp [plc])

/-- slices.SortFunc of the gathered places -/
theorem psort_any (sec : Nat → Int) (n : Nat) (hn : n < 1000000) (v : Value) (ps : List (Int × Int)) (hp : ps.Perm ((List.range n).map (plc sec))) (w : World) (hr : recP.Row w v ps) :
    Calls Tryz.prog 72 #[v, .func (.func 65) #[] #[]] w fun e w' => e = .returned (.tuple #[]) ∧ recP.Row w' v ((List.range n).map (plc sec)) ∧ Keeps (fun b => v.ownBlock = some b) w w' := by
  obtain ⟨l, hl, rfl⟩ := perm_map_inv hp (List.finRange n) (finRange_plc sec n).symm
  have hlen : l.length = n := by rw [hl.length_eq, List.length_finRange]
  have hf := fin_row.2 hr
  cases n with
  | zero =>
    have : l = [] := List.eq_nil_of_length_eq_zero hlen
    subst this
    obtain ⟨A, c, rfl, -⟩ := hr.form
    refine (AnyF.slices_SortFunc_none { sortP with } A c (.func (.func 65) #[] #[]) w).mono ?_
    rintro e w' ⟨rfl, rfl⟩
    exact ⟨rfl, by simpa using hr, Keeps.refl _ _⟩
  | succ m =>
    rcases hf.blk with ⟨-, h0⟩ | ⟨b, cap, rest, rfl, hb, -, -, -⟩
    · rw [h0] at hlen; simp at hlen
    have hH := RecT.holdsK_of (R := recFin sec (m + 1)) (d := l.toArray) (by simpa using hf)
    have hcon := AnyQ.slices_SortFunc_total sortP 2 Tryz.isAgg93 Tryz.sizeOf93 (recFin sec (m + 1)).cs (fun _ => rfl) (recFin sec (m + 1)).one (cfF (m + 1)) (swoF _) 65 #[] b 0 cap l.toArray w
      (enters_of Tryz.func65 (by kernel_rfl) rfl) (fun mm os dk _ x y => row1_any (x.val : Int) (sec x.val) (y.val : Int) (sec y.val) (IntWalk.i64_in _ (by have := x.isLt; have := y.isLt; omega)) _) hH hb.lt (by simp; omega) (totF _)
    rw [show l.toArray.size = l.length by simp] at hcon
    change Calls Tryz.prog 72 _ _ _ at hcon
    refine hcon.mono ?_
    rintro e w' ⟨rfl, k, os, rfl⟩
    rw [List.toList_toArray, sorted_fin hl]
    obtain ⟨h1, h2⟩ := RecT.sortWorld_row (R := recFin sec (m + 1)) (d := l.toArray) (d' := (List.finRange (m + 1)).toArray) (by simpa using hf) (by simp [hlen]) k os
    refine ⟨rfl, ?_, h2.mono (fun _ _ h => by rw [h]; rfl)⟩
    have h3 := fin_row.1 h1
    rw [List.toList_toArray, finRange_plc, List.size_toArray] at h3
    exact h3
end Go.Proofs.YtnddaildicmneaaGreat
/-
  slices.Clone and slices.Clip at []byte: a copy in memory of the call's own; the same slice without spare room.
-/
namespace Go.Proofs.YtnddaildicmneaaGreat
open Go.RowKit

theorem infoU8 : (Tryz.prog.info? 5).map (fun i => (i.zero, i.size, i.bytes)) = some (some (.int .u8 0), 1, 1) := by kernel_rfl

/-- A slice of bytes that reads as `L`, in memory of the call's own. -/
def RetBytes (w : World) (L : List UInt8) : Ending → World → Prop := fun e w' =>
  ∃ v' g', e = .returned v' ∧ Rd w' v' g' (L.map bv) ∧ Above w.heap.size g' ∧ Keeps nowhere w w'

set_option maxHeartbeats 400000 in
theorem clone_nil (n c : Nat) (w : World) : Calls Tryz.prog 30 #[.slice none n c] w fun e w' => e = .returned (.slice none 0 0) ∧ w = w' := by
  have q22 := fun (w : World) (a : Option Addr) (n c n' c' : Nat) => Lib.run_eql_slice_nil (P := Tryz.prog) w 33 5 a n c n' c' Tryz.underlying33
  go_enter Tryz.func30, Tryz.ntmps30
  go_wp2
  go_ret
  exact ⟨rfl, rfl⟩

set_option maxHeartbeats 400000 in
theorem clone_some (a : Addr) (c : Nat) (L : List UInt8) (w : World) (hb : L.length ≤ 140737488351232)
    (hc : ∀ j u, (L.map bv)[j]? = some u → w.cell? (a.add j) = some u) (hlt : 0 < L.length → a.block < w.heap.size) :
    Calls Tryz.prog 30 #[.slice (some a) L.length c] w (RetBytes w L) := by
  have q22 := fun (w : World) (a : Option Addr) (n c n' c' : Nat) => Lib.run_eql_slice_nil (P := Tryz.prog) w 33 5 a n c n' c' Tryz.underlying33
  obtain ⟨i0, hi, hz0, hz1, hz2⟩ := info_parts infoU8
  have Hc := Lib.hid hc
  clear hc
  go_enter Tryz.func30, Tryz.ntmps30
  go_wp2_with (at_builtin; refine wpList_append_own _ rfl _ _ 33 rfl w.heap.size 5 i0 (.int .u8 0) 1 1 Tryz.underlying33 hi hz0 hz1 hz2 rfl (by decide) _ _ _ rfl (World.ownsRow_made w #[] 0 (Nat.le_refl _) (Nat.zero_le _) rfl) a L.length c (L.map bv) rfl ?qc1 ?qc2 ?qc3 ?qc4 ?qc5 ?qc6 ?_)
  case qc1 => simp
  case qc2 =>
    intro j u hj
    have hjn : j < L.length := by have := (List.getElem?_eq_some_iff.1 hj).1; simpa using this
    have := Hc.out j u hj
    rw [World.cell?_alloc_lt w _ _ (by rw [show (a.add j).block = a.block from by unfold Addr.add; split <;> rfl]; exact hlt (by omega))]
    exact this
  case qc3 => exact bv_one L
  case qc4 => unfold maxLen; omega
  case qc5 => omega
  case qc6 => simp
  intro v' w1 hown hgrow hnil
  go_wp2
  go_ret
  have hbel : Below w.heap.size w w1 := ((Below.refl _ w).alloc (Nat.le_refl _) _).grown hgrow (by simp) (by intro k hk; simp [Value.ownBlock] at hk; omega)
  exact ⟨v', v'.ownBlock, rfl, by simpa using Rd.of_own hown, fun b hb => (hown.lt b hb).1, Below.keeps hbel⟩

theorem clone_any (v : Value) (g : Option Nat) (L : List UInt8) (w : World) (hr : Rd w v g (L.map bv)) (hb : L.length ≤ 140737488351232) :
    Calls Tryz.prog 30 #[v] w (RetBytes w L) := by
  rcases hr with ⟨rfl, _, hL⟩ | ⟨a, cap, rfl, hu, hg, h1, h2, hc⟩
  · have : L = [] := by simpa using hL
    subst this
    refine (clone_nil 0 0 w).mono ?_
    rintro e w' ⟨rfl, rfl⟩
    exact ⟨_, none, rfl, .inl ⟨rfl, rfl, rfl⟩, Above.none _, Keeps.refl _ _⟩
  · rw [List.length_map] at h1 ⊢
    exact clone_some _ cap L w hb hc (fun hp => hu _ (hg (by simpa using hp)).1)

set_option maxHeartbeats 400000 in
theorem clip_any (v : Value) (g : Option Nat) (xs : List Value) (w : World) (hr : Rd w v g xs) :
    Calls Tryz.prog 37 #[v] w fun e w' => (∃ v', e = .returned v' ∧ Rd w v' g xs) ∧ w = w' := by
  have hm := hr.le
  unfold maxLen at hm
  rcases hr with ⟨rfl, rfl, rfl⟩ | ⟨a, cap, rfl, hb, hg, h1, h2, h3⟩
  · go_enter Tryz.func37, Tryz.ntmps37
    go_wp2
    go_ret
    exact ⟨⟨_, rfl, .inl ⟨rfl, rfl, rfl⟩⟩, rfl⟩
  · have hl : xs.length ≤ maxLen := by omega
    obtain ⟨n, hn⟩ : ∃ n, n = xs.length := ⟨_, rfl⟩
    rw [← hn] at h1 hm
    have H3 := Lib.hid h3
    have Hb := Lib.hid hb
    have Hg := Lib.hid hg
    clear h3 hb hg
    rw [← hn]
    have Hn := Lib.hid hn
    clear hn
    go_enter Tryz.func37, Tryz.ntmps37
    go_wp2
    go_ret
    refine ⟨⟨_, rfl, ?_⟩, rfl⟩
    have hn := Hn.out
    subst hn
    exact .inr ⟨a, xs.length, by simp, Hb.out, Hg.out, Nat.le_refl _, hl, H3.out⟩
end Go.Proofs.YtnddaildicmneaaGreat
/-
  disk: the row of the pending writes; the small methods; the deferred 'caught'.
-/
namespace Go.Proofs.YtnddaildicmneaaGreat
open Go.Proofs Go.RowKit Go.Sort Go.Maps

theorem row_low {α : Type} {R : RecT α} {w : World} {base : Nat} {v : Value} {l : List α} (h : w.ownsRow base R.t R.n v l.length (R.cells l)) : R.Row w v l :=
  ⟨h.1, h.2.imp id fun ⟨g, cap, cur, h1, _, h3⟩ => ⟨g, cap, cur, h1, Nat.zero_le _, h3⟩⟩

/-- the keys of the pending writes, gathered: in some order -/
theorem pcollect_any (w : World) (b : Nat) (ms : List ((Int × Int) × Value)) (h : KMap keyP w b ms) (hl : ms.length ≤ 100000) :
    Calls Tryz.prog 71 #[.func (.func 73) #[] #[.pointer (some ⟨w.heap.size, 0, none⟩)]] (w.alloc (.cells #[.map (some b)] 54))
      fun e w' => ∃ v ps, e = .returned v ∧ ps.Perm (ms.map (·.1)) ∧ recP.Row w' v ps ∧ Above w.heap.size v.ownBlock ∧ Keeps nowhere w w' := by
  have hka := (Keeps.refl nowhere w).alloc (.cells #[.map (some b)] 54)
  obtain ⟨D, hown, hsz, hhas⟩ := (h.same hka).has
  have hseq := Itp.keys_gives Fence.wide 3 trivial rfl (by omega) w.heap.size b _ _ (w.alloc (.cells #[.map (some b)] 54)) (by simp) ((Blk.new w _ _).cell 0) hown
  refine Calls.mono ((callsIn_wide (n := 5)).1 (Itp.collect_in Fence.wide 5 trivial trivial rfl (by omega) 73 _ trivial (enters_of Tryz.func73 (by kernel_rfl) rfl) _ _
    (by rw [hsz]; unfold maxLen; omega) (by rw [hsz]; omega) _ hseq)) ?_
  rintro e w' ⟨v, ss, rfl, hk, hrow, -, hb⟩
  refine ⟨v, ss, rfl, hk.perm h.ok h.nd hhas, row_low (R := recP) hrow, fun b hb' => ?_, hka.more (_root_.Go.Proofs.YtnddaildicmneaaGreat.Below.keeps hb)⟩
  have := (hrow.lt b hb').1
  simp at this
  omega

set_option maxHeartbeats 1000000 in
theorem prow_any (w : World) (d b n : Nat) (sec : Nat → Int) (ms : List ((Int × Int) × Value)) (c2 : w.cell? ⟨d, 2, none⟩ = some (.map (some b))) (h : KMap keyP w b ms) (hms : ms.map (·.1) = (List.range n).map (plc sec)) (hn : n ≤ 100000) :
    Calls Tryz.prog 52 #[.pointer (some ⟨d, 0, none⟩)] w fun e w' => ∃ v, e = .returned v ∧ recP.Row w' v ((List.range n).map (plc sec)) ∧ Above w.heap.size v.ownBlock ∧ Keeps nowhere w w' := by
  have hml : ms.length = n := by have := congrArg List.length hms; simpa using this
  have hK : Calls Tryz.prog 64 #[.map (some b)] w fun e w' => e = .returned (.func (.func 73) #[] #[.pointer (some ⟨w.heap.size, 0, none⟩)]) ∧ w' = w.alloc (.cells #[.map (some b)] 54) :=
    (callsIn_wide (n := 6)).1 (Itp.keys_in Fence.wide 6 trivial rfl (some b) w)
  have hC := pcollect_any w b ms h (by omega)
  rw [hms] at hC
  have hS : Calls Tryz.prog 63 #[.func (.func 73) #[] #[.pointer (some ⟨w.heap.size, 0, none⟩)], .func (.func 65) #[] #[]] (w.alloc (.cells #[.map (some b)] 54))
      fun e w' => ∃ v, e = .returned v ∧ recP.Row w' v ((List.range n).map (plc sec)) ∧ Above w.heap.size v.ownBlock ∧ Keeps nowhere w w' := by
    obtain ⟨W, hW⟩ : ∃ W, W = w.alloc (.cells #[.map (some b)] 54) := ⟨_, rfl⟩
    rw [← hW] at hC ⊢
    clear hK h c2
    have HC := Lib.hid hC
    have Hms := Lib.hid hms
    have HW := Lib.hid hW
    clear hC hms hW
    go_enter Tryz.func63, Tryz.ntmps63
    go_wp2_with fail
    refine HC.out.mono ?_
    rintro e w1 ⟨v, ps, rfl, hp, hrow, hab, hk⟩
    have hs := psort_any sec n (by omega) v ps hp w1 hrow
    have Hp := Lib.hid hp
    have Hrow := Lib.hid hrow
    have Hab := Lib.hid hab
    have Hk := Lib.hid hk
    have Hs := Lib.hid hs
    clear hp hrow hab hk hs
    go_wp2_with fail
    refine Hs.out.mono ?_
    rintro e w2 ⟨rfl, hrow2, hk2⟩
    have Hrow2 := Lib.hid hrow2
    have Hk2 := Lib.hid hk2
    clear hrow2 hk2
    go_wp2_with fail
    go_ret
    exact ⟨v, rfl, Hrow2.out, Hab.out, Hk.out.trans Hk2.out (fun b hb e => absurd (Hab.out b e) (by omega))⟩
  clear hC
  have HS := Lib.hid hS
  have HK := Lib.hid hK
  have H := Lib.hid h
  have Hms := Lib.hid hms
  clear hS hK h hms
  go_enter Tryz.func52, Tryz.ntmps52
  go_wp2_with fail
  refine HK.out.mono ?_
  rintro e w1 ⟨rfl, rfl⟩
  go_wp2_with fail
  refine HS.out.mono ?_
  rintro e w2 ⟨v, rfl, hrow, hab, hk2⟩
  have Hrow := Lib.hid hrow
  have Hab := Lib.hid hab
  have Hk2 := Lib.hid hk2
  clear hrow hab hk2
  go_wp2_with fail
  go_ret
  exact ⟨v, rfl, Hrow.out, Hab.out, Hk2.out⟩

/-! ### small methods -/
theorem right_any (s z : Int) (w : World) : Calls Tryz.prog 24 #[.int .i64 s, .int .i64 z] w fun e w' => e = .returned (.bool (decide (1 ≤ s) && decide (s ≤ 16384) && decide (64 ≤ z) && decide (z ≤ 1024))) ∧ w = w' := by
  by_cases h1 : 1 ≤ s
  · by_cases h2 : s ≤ 16384
    · by_cases h3 : 64 ≤ z
      · by_cases h4 : z ≤ 1024
        · go_enter Tryz.func24, Tryz.ntmps24
          go_wp2
          go_ret
          simp [h1, h2, h3, h4]
        · go_enter Tryz.func24, Tryz.ntmps24
          go_wp2
          go_ret
          simp [h1, h2, h3, h4]
      · go_enter Tryz.func24, Tryz.ntmps24
        go_wp2
        go_ret
        simp [h1, h2, h3]
        omega
    · go_enter Tryz.func24, Tryz.ntmps24
      go_wp2
      go_ret
      simp [h1, h2]
      omega
  · go_enter Tryz.func24, Tryz.ntmps24
    go_wp2
    go_ret
    simp [h1]
    omega

set_option maxHeartbeats 400000 in
theorem dcaught_idle (p : Nat) (w : World) :
    CallsD Tryz.prog 53 #[.pointer (some ⟨p, 0, none⟩)] .returning w fun e u' w' => e = .returned (.tuple #[]) ∧ u' = .returning ∧ w' = w := by
  refine callsD_of_wpS Tryz.func53 rfl fun c₀ cs hu => ?_
  apply wpS_seq
  apply wpS_region
  simp [wpOpsS, go_sem, recoverD, hu, Tryz.ntmps53, Exit.thenS, Array.replicate_succ]
  refine wpS_of_wp ?_
  go_wp2
  cases c₀
  simp_all [bodyPostS, results, Tryz.results53]

set_option maxHeartbeats 400000 in
theorem dcaught_panic (p : Nat) (x : Int) (y : Value) (older : List PanicEntry) (w : World) (hb : Blk w p 26 #[y]) :
    CallsD Tryz.prog 53 #[.pointer (some ⟨p, 0, none⟩)] (.panicking ({ v := .iface 26 (.int .i64 x), recovered := false } :: older)) w fun e u' w' =>
      e = .returned (.tuple #[]) ∧ u' = .panicking ({ v := .iface 26 (.int .i64 x), recovered := true } :: older) ∧ w' = w.setCell ⟨p, 0, none⟩ (.int .i64 x) := by
  have hc1 := hb.cell 0
  have hf1 := hb.frozen 0
  simp at hc1
  clear hb
  have hta : ∀ w, (Instr.typeAssert (.iface 26 (.int .i64 x)) 20 26 true).run Tryz.prog w = .ok (.tuple #[.int .i64 x, .bool true]) w := fun _ => by kernel_rfl
  have heq : ∀ w, (binOp .eql 20 (.iface 26 (.int .i64 x)) .nilIface).run Tryz.prog w = .ok (.bool false) w := fun _ => by kernel_rfl
  refine callsD_of_wpS Tryz.func53 rfl fun c₀ cs hu => ?_
  apply wpS_seq
  apply wpS_region
  simp [wpOpsS, go_sem, recoverD, hu, Tryz.ntmps53, Exit.thenS, Array.replicate_succ]
  refine wpS_of_wp ?_
  go_wp2
  simp [bodyPostS, results, Tryz.results53]
end Go.Proofs.YtnddaildicmneaaGreat
/-
  The conversion of bytes to a string, at any slice that reads.
-/
namespace Go.Proofs.YtnddaildicmneaaGreat
open Go.RowKit

def strOf (L : List UInt8) : ByteArray := ⟨L.toArray⟩
theorem strOf_inj {L M : List UInt8} : strOf L = strOf M ↔ L = M := by
  unfold strOf
  constructor
  · intro h; injection h with h; simpa using congrArg Array.toList h
  · rintro rfl; rfl

theorem strOf_toList (L : List UInt8) : (strOf L).toList = L := by
  rw [ByteArray.toList_eq]
  simp [strOf]
theorem strOf_eq {L M : List UInt8} (h : L = M) : ((strOf L).toList == M) = true := by rw [strOf_toList, h]; simp
theorem strOf_beq {L M : List UInt8} (h : L = M) : ((strOf L).toList == (strOf M).toList) = true := by rw [h]; simp

set_option maxRecDepth 20000 in
theorem conv_str (v : Value) (g : Option Nat) (L : List UInt8) (w : World) (hr : Rd w v g (L.map bv)) : (convert 33 9 v).run Tryz.prog w = .ok (.string (strOf L)) w := by
  by_cases hL : L = []
  · subst hL
    obtain ⟨A, c, rfl, _⟩ := hr.form
    cases A with
    | none => exact run_convert_bytes_nil w 33 5 Tryz.underlying33 Tryz.underlying5 0 c _ Tryz.underlying9
    | some a =>
      have hl : (loadCells a 0).run Tryz.prog w = .ok (([] : List Int).map (Value.int .u8)).toArray w := run_loadCells_list w a [] (fun j v h => by simp at h)
      simp only [List.map_nil, List.length_nil]
      rw [run_convert_bytes_string w 33 9 5 _ 0 c Tryz.underlying33 Tryz.underlying5 Tryz.underlying9, run_bytesToString w _ 0 c [] hl]
      rfl
  · obtain ⟨b, off, cap, rfl, _, _, h1, h2, hc⟩ := hr.plain (by simpa using List.length_pos_iff.2 hL)
    rw [List.length_map]
    have h := run_convert_bytes_arg w 33 5 Tryz.underlying33 Tryz.underlying5 b off L.length cap (L.map fun x => (x.toNat : Int)) (by simp) (fun i hi => ?_) _ Tryz.underlying9
    · rw [h]
      congr 2
      unfold strOfNums strOf
      congr 2
      rw [List.map_map]
      conv => rhs; rw [← List.map_id L]
      apply List.map_congr_left
      intro a _
      simp
    · rw [hc i (bv (L[i])) (get_bv L i hi)]
      simp [bv, hi]
end Go.Proofs.YtnddaildicmneaaGreat
/-
  Rows of bytes; a string as bytes.
-/
namespace Go.Proofs.YtnddaildicmneaaGreat
open Go.RowKit
def recB : RecT UInt8 := ⟨5, 1, fun x => [bv x], fun _ => rfl, fun _ u hu => by rw [List.mem_singleton.1 hu]; rfl, by decide⟩
theorem conv_bytes (s : List UInt8) (hl : s.length ≤ 1000000000) (w : World) : ∃ c W, (convert 9 33 (.string (strOf s))).run Tryz.prog w = .ok (.slice (some ⟨w.heap.size, 0, none⟩) s.length c) W ∧ recB.Rd W (.slice (some ⟨w.heap.size, 0, none⟩) s.length c) (some w.heap.size) s ∧ Keeps nowhere w W := by
  have hsz : (strOf s).size = s.length := by simp [strOf, ByteArray.size]
  have hrun := run_bytes_of_string (P := Tryz.prog) w 9 33 5 (strOf s) Tryz.underlying9 Tryz.underlying33 Tryz.underlying5
  obtain ⟨cap, hcap⟩ : ∃ cap, cap = grownCap w (strOf s).size 0 5 := ⟨_, rfl⟩
  have hge : s.length ≤ cap := by rw [hcap, ← hsz]; exact grownCap_ge w _ 0 _
  have hle : cap ≤ maxLen := by rw [hcap]; exact grownCap_le_maxLen w _ 0 _ (by rw [hsz]; unfold maxLen; omega)
  rw [← hcap, hsz] at hrun
  refine ⟨cap, _, hrun, ?_, ((Keeps.refl nowhere w).drew).alloc _⟩
  refine ⟨_, cap, rfl, hge, hle, fun b hb => by injection hb with hb; rw [← hb]; simp, fun _ => ⟨w.heap.size, 0, rfl, rfl, fun i t hi k hk => ?_⟩, fun h => by cases h⟩
  have hk0 : k = 0 := by have : k < 1 := hk; omega
  subst hk0
  have hil := (List.getElem?_eq_some_iff.1 hi).1
  rw [show 0 + i * recB.n + 0 = i by show 0 + i * 1 + 0 = i; omega]
  have hcell := cell_of_row (w.drew.alloc (.cells (bytesRow (strOf s) cap) 5 ((bytesRow (strOf s) cap).size, (bytesRow (strOf s) cap).size + 1))) w.heap.size i _ _ _ (heap_alloc_new w.drew _)
  rw [hcell]
  unfold bytesRow
  rw [Array.getElem?_append_left (by simp [strOf]; exact hil)]
  simp [strOf, hi, recB, bv]
end Go.Proofs.YtnddaildicmneaaGreat
