/-
  Plain words on memory that all texts of this seat share: which blocks a call keeps, a block known whole, a slice that reads as a list. No program in sight.
-/
import Derived.WalkKit
import Derived.Below
import Derived.Laws.OwnMore
import Derived.Laws.BytesArg
import Derived.Deep.Draws
import Derived.Lib.Hide
namespace Go.Proofs.Ytnddaildicmneaa
open Go.RowKit

/-- `w'` is `w` but for the blocks in `S`, new blocks and draws. -/
structure Keeps (S : Nat → Prop) (w w' : World) : Prop where
  os : w'.os = w.os
  tape : w'.tape = w.tape
  output : w'.output = w.output
  size : w.heap.size ≤ w'.heap.size
  block : ∀ k, k < w.heap.size → ¬ S k → w'.heap[k]? = w.heap[k]?

/-- nothing but new blocks -/
def nowhere : Nat → Prop := fun _ => False
def only (p : Nat) : Nat → Prop := fun k => k = p
def only2 (p : Nat) (g : Option Nat) : Nat → Prop := fun k => k = p ∨ some k = g

section
variable {S T : Nat → Prop} {w w1 w' : World}
theorem Keeps.refl (S : Nat → Prop) (w : World) : Keeps S w w := ⟨rfl, rfl, rfl, Nat.le_refl _, fun _ _ _ => rfl⟩
theorem Keeps.trans (h : Keeps S w w1) (k : Keeps T w1 w') (hT : ∀ b, b < w.heap.size → T b → S b) : Keeps S w w' :=
  ⟨k.os.trans h.os, k.tape.trans h.tape, k.output.trans h.output, Nat.le_trans h.size k.size,
    fun b hb hs => (k.block b (Nat.lt_of_lt_of_le hb h.size) (fun ht => hs (hT b hb ht))).trans (h.block b hb hs)⟩
theorem Keeps.mono (h : Keeps S w w') (hT : ∀ b, b < w.heap.size → S b → T b) : Keeps T w w' :=
  ⟨h.os, h.tape, h.output, h.size, fun b hb ht => h.block b hb (fun hs => ht (hT b hb hs))⟩
theorem Keeps.drew (h : Keeps S w w') : Keeps S w w'.drew := ⟨h.os, h.tape, h.output, h.size, h.block⟩
theorem Keeps.drewN (h : Keeps S w w') (n : Nat) : Keeps S w (w'.drewN n) := ⟨h.os, h.tape, h.output, h.size, h.block⟩
theorem Keeps.alloc (h : Keeps S w w') (o : Obj) : Keeps S w (w'.alloc o) :=
  ⟨h.os, h.tape, h.output, by have := h.size; simp; omega, fun b hb hs => (Below.heap_alloc _ _ _ (Nat.lt_of_lt_of_le hb h.size)).trans (h.block b hb hs)⟩
theorem Keeps.setCell (h : Keeps S w w') {p : Addr} (hp : p.block < w.heap.size → S p.block) (u : Value) : Keeps S w (w'.setCell p u) :=
  ⟨h.os, h.tape, h.output, by have := h.size; simpa [World.setCell] using this, fun b hb hs => (Below.heap_setCell _ _ _ _ (fun e => hs (by subst e; exact hp hb))).trans (h.block b hb hs)⟩
theorem Keeps.grown (h : Keeps S w w1) {row : Option Nat} (hg : w1.grownBy w' row) (hr : ∀ k, row = some k → k < w.heap.size → S k) : Keeps S w w' :=
  h.trans (T := fun b => some b = row) ⟨hg.os, hg.tape, hg.output, hg.size, fun b hb hs => hg.block b hb hs⟩ fun b hb e => hr b e.symm hb
theorem Keeps.below (h : Keeps S w w') {B : Nat} (hB : B ≤ w.heap.size) (hS : ∀ b, b < B → ¬ S b) : Below B w w' :=
  ⟨h.os, h.tape, h.output, h.size, fun b hb => h.block b (Nat.lt_of_lt_of_le hb hB) (hS b hb)⟩
theorem Below.keeps (h : Below w.heap.size w w') : Keeps S w w' := ⟨h.os, h.tape, h.output, h.size, fun b hb _ => h.block b hb⟩
theorem Keeps.cell (h : Keeps S w w') {p : Addr} (hp : p.block < w.heap.size) (hs : ¬ S p.block) : w'.cell? p = w.cell? p := World.cell?_of_block (w := w) (h.block _ hp hs)
theorem Keeps.frozen (h : Keeps S w w') {p : Addr} (hp : p.block < w.heap.size) (hs : ¬ S p.block) : w'.frozen? p = w.frozen? p := World.frozen?_of_block (w := w) (h.block _ hp hs)
end

/-- `g1` is `g` or lies from `n` on -/
def From (g : Option Nat) (n : Nat) (g1 : Option Nat) : Prop := ∀ b, g1 = some b → g = some b ∨ n ≤ b
theorem From.refl (g : Option Nat) (n : Nat) : From g n g := fun _ h => .inl h
theorem From.trans {g g1 g2 : Option Nat} {n m : Nat} (h : From g n g1) (k : From g1 m g2) (hm : n ≤ m) : From g n g2 := fun b hb => by
  rcases k b hb with h1 | h1
  · exact h b h1
  · exact .inr (by omega)
theorem From.mono {g g1 : Option Nat} {n m : Nat} (h : From g n g1) (hm : m ≤ n) : From g m g1 := fun b hb => (h b hb).imp_right (by omega)
theorem not_only2 {p B : Nat} {g : Option Nat} (hp : p < B) (hg : ∀ b, g = some b → b < B) : ¬ only2 p g B := fun h =>
  h.elim (fun e => by omega) (fun e => absurd (hg _ e.symm) (by omega))
theorem not_only2_from {p B n : Nat} {g g1 : Option Nat} (h : ¬ only2 p g B) (hg : From g n g1) (hB : B < n) : ¬ only2 p g1 B := fun h1 =>
  h1.elim (fun e => h (.inl e)) (fun e => (hg B e.symm).elim (fun e' => h (.inr e'.symm)) (fun e' => by omega))
theorem Keeps.trans2 {p n : Nat} {g g1 : Option Nat} {w w1 w2 : World} (hk : Keeps (only2 p g) w w1) (hg : From g n g1) (hn : w.heap.size ≤ n) (hk1 : Keeps (only2 p g1) w1 w2) : Keeps (only2 p g) w w2 :=
  hk.trans hk1 fun b hb h => h.elim (fun e => .inl e) (fun e => (hg b e.symm).elim (fun e' => .inr e'.symm) (fun e' => by omega))

/-- `g`, if any, lies from `n` on | below `n` -/
def Above (n : Nat) (g : Option Nat) : Prop := ∀ b, g = some b → n ≤ b
def Under (n : Nat) (g : Option Nat) : Prop := ∀ b, g = some b → b < n
theorem Above.none (n : Nat) : Above n none := fun _ h => by cases h
theorem Under.none (n : Nat) : Under n none := fun _ h => by cases h
theorem Above.of_from {g g1 : Option Nat} {n m : Nat} (h : Above n g) (k : From g m g1) (hm : n ≤ m) : Above n g1 := fun b hb => (k b hb).elim (h b) (by omega)
theorem Above.mono {g : Option Nat} {n m : Nat} (h : Above n g) (hm : m ≤ n) : Above m g := fun b hb => Nat.le_trans hm (h b hb)
theorem Under.mono {g : Option Nat} {n m : Nat} (h : Under n g) (hm : n ≤ m) : Under m g := fun b hb => Nat.lt_of_lt_of_le (h b hb) hm
theorem Keeps.fresh {p : Nat} {w w1 w' : World} (h : Keeps nowhere w w1) (k : Keeps (only p) w1 w') (hp : w.heap.size ≤ p) : Keeps nowhere w w' :=
  h.trans k fun b hb e => by unfold only at e; omega
theorem Keeps.fresh2 {p : Nat} {g : Option Nat} {w w1 w' : World} (h : Keeps nowhere w w1) (k : Keeps (only2 p g) w1 w') (hp : w.heap.size ≤ p) (hg : Above w.heap.size g) : Keeps nowhere w w' :=
  h.trans k fun b hb e => e.elim (fun e => by omega) (fun e => by have := hg b e.symm; omega)
theorem Keeps.more {w w1 w' : World} (h : Keeps nowhere w w1) (k : Keeps nowhere w1 w') : Keeps nowhere w w' := h.trans k fun _ _ e => e

/-- Block `g` is just the cells `cs` of element type `t`, none frozen. -/
def Blk (w : World) (g : Nat) (t : TypeId) (cs : Array Value) : Prop := w.heap[g]? = some (.cells cs t (0, 0))

section
variable {w w' : World} {g : Nat} {t : TypeId} {cs : Array Value}
theorem Blk.lt (h : Blk w g t cs) : g < w.heap.size := by
  rcases Nat.lt_or_ge g w.heap.size with hlt | hge
  · exact hlt
  · unfold Blk at h; rw [Array.getElem?_eq_none hge] at h; cases h
theorem Blk.cell (h : Blk w g t cs) (i : Nat) : w.cell? ⟨g, i, none⟩ = cs[i]? := cell_of_row w g i cs t (0, 0) h
theorem Blk.frozen (h : Blk w g t cs) (i : Nat) : w.frozen? ⟨g, i, none⟩ = false := frozen_of_row w g i cs t h
theorem Blk.new (w : World) (t : TypeId) (cs : Array Value) : Blk (w.alloc (.cells cs t)) w.heap.size t cs := heap_alloc_new w _
theorem Blk.drew (h : Blk w g t cs) : Blk w.drew g t cs := h
theorem Blk.drewN (h : Blk w g t cs) (n : Nat) : Blk (w.drewN n) g t cs := h
theorem Blk.alloc (h : Blk w g t cs) (o : Obj) : Blk (w.alloc o) g t cs := (Below.heap_alloc w o g h.lt).trans h
theorem Blk.set_ (h : Blk w g t cs) (i : Nat) (u : Value) : Blk (w.setCell ⟨g, i, none⟩ u) g t (cs.setIfInBounds i u) := by
  unfold Blk at h ⊢
  simp [World.setCell, Array.getElem?_modify, h]
theorem Blk.far (h : Blk w g t cs) {p : Addr} (hp : g ≠ p.block) (u : Value) : Blk (w.setCell p u) g t cs := (Below.heap_setCell w p u g hp).trans h
theorem Blk.keep {S : Nat → Prop} (h : Blk w g t cs) (hk : Keeps S w w') (hs : ¬ S g) : Blk w' g t cs := (hk.block g h.lt hs).trans h
theorem Blk.grown {row : Option Nat} (h : Blk w g t cs) (hb : w.grownBy w' row) (hg : some g ≠ row) : Blk w' g t cs := (hb.block g h.lt hg).trans h
theorem Blk.ne_ {g' : Nat} {t' : TypeId} {cs' : Array Value} (h : Blk w g t cs) (h' : Blk w g' t' cs') (hne : t ≠ t') : g ≠ g' := by
  rintro rfl
  unfold Blk at h h'
  rw [h] at h'
  injection h' with h'
  injection h' with _ ht
  exact hne ht
theorem Blk.inj {cs' : Array Value} {t' : TypeId} (h : Blk w g t cs) (h' : Blk w g t' cs') : cs = cs' := by
  unfold Blk at h h'
  rw [h] at h'
  injection h' with h'
  injection h'
theorem own_blk_ne {base : Nat} {e : TypeId} {size n : Nat} {v : Value} {xs : List Value} (h : w.ownsRow base e size v n xs) (hg : Blk w g t cs) (hne : e ≠ t) : v.ownBlock ≠ some g := by
  rcases h.2 with ⟨rfl, _⟩ | ⟨g', cap, cur, rfl, _, hh, _⟩
  · simp [Value.ownBlock]
  · intro he
    have : g' = g := by simpa [Value.ownBlock] using he
    subst this
    exact Blk.ne_ (t := e) hh hg hne rfl
theorem own_keep {base : Nat} {e : TypeId} {size n : Nat} {v : Value} {xs : List Value} {S : Nat → Prop} (h : w.ownsRow base e size v n xs) (hk : Keeps S w w') (hs : ∀ b, v.ownBlock = some b → ¬ S b) : w'.ownsRow base e size v n xs := by
  obtain ⟨h1, h2⟩ := h
  refine ⟨h1, ?_⟩
  rcases h2 with h2 | ⟨g, cap, cur, rfl, hb, hg, rest⟩
  · exact .inl h2
  · exact .inr ⟨g, cap, cur, rfl, hb, (hk.block g (Array.getElem?_eq_some_iff.1 hg).1 (hs g rfl)).trans hg, rest⟩
end

/-- A slice value that reads as the cells `xs` (one cell an element); nil reads as nothing. `g` is the block that is read, if any. Of a slice without elements the address is not looked at. -/
def Rd (w : World) (v : Value) (g : Option Nat) (xs : List Value) : Prop :=
  (v = .slice none 0 0 ∧ g = none ∧ xs = []) ∨
  ∃ a cap, v = .slice (some a) xs.length cap ∧ Under w.heap.size g ∧ (0 < xs.length → g = some a.block ∧ a.spot = none) ∧ xs.length ≤ cap ∧ cap ≤ maxLen ∧ ∀ j u, xs[j]? = some u → w.cell? (a.add j) = some u

theorem add_block (a : Addr) (j : Nat) : (a.add j).block = a.block := by unfold Addr.add; split <;> rfl
theorem add_add' (a : Addr) (i j : Nat) : (a.add i).add j = a.add (i + j) := by
  unfold Addr.add
  by_cases hi : i = 0 <;> by_cases hj : j = 0 <;> simp [hi, hj, Nat.add_assoc]
theorem pos_of_get {α : Type} {l : List α} {j : Nat} {u : α} (h : l[j]? = some u) : 0 < l.length := by
  have := (List.getElem?_eq_some_iff.1 h).1
  omega

section
variable {w w' : World} {v : Value} {g : Option Nat} {xs : List Value}
theorem Rd.keep {S : Nat → Prop} (h : Rd w v g xs) (hk : Keeps S w w') (hs : ∀ b, g = some b → ¬ S b) : Rd w' v g xs := by
  rcases h with h | ⟨a, cap, hv, hu, hg, h1, h2, h3⟩
  · exact .inl h
  · exact .inr ⟨a, cap, hv, hu.mono hk.size, hg, h1, h2, fun j u hj => by
      have hga := (hg (pos_of_get hj)).1
      exact (hk.cell (p := a.add j) (by rw [add_block]; exact hu _ hga) (by rw [add_block]; exact hs _ hga)).trans (h3 j u hj)⟩
theorem Rd.lt (h : Rd w v g xs) : Under w.heap.size g := by
  rcases h with ⟨_, hg, _⟩ | ⟨a, cap, hv, hu, _⟩
  · rw [hg]; exact Under.none _
  · exact hu
theorem Rd.nil (w : World) : Rd w (.slice none 0 0) none [] := .inl ⟨rfl, rfl, rfl⟩
theorem Rd.of_own {e : TypeId} {base : Nat} {n : Nat} (h : w.ownsRow base e 1 v n xs) : Rd w v v.ownBlock xs := by
  have hc := fun g (hg : v.ownBlock = some g) => h.cells hg
  have hlt := h.lt
  obtain ⟨h1, h2⟩ := h
  rcases h2 with ⟨rfl, h2⟩ | ⟨b, cap, cur, rfl, hb, hg, h3, h4, h5, h6⟩
  · exact .inl ⟨rfl, rfl, List.eq_nil_of_length_eq_zero (by omega)⟩
  · have hl : xs.length = n := by omega
    exact .inr ⟨⟨b, 0, none⟩, cap, by rw [hl], fun b hb => (hlt b hb).2, fun _ => ⟨rfl, rfl⟩, by omega, h4, hc b rfl⟩
theorem Rd.le (h : Rd w v g xs) : xs.length ≤ maxLen := by
  rcases h with ⟨_, _, rfl⟩ | ⟨a, cap, hv, _, _, h1, h2, _⟩
  · simp [maxLen]
  · omega
/-- `x[:k]` -/
theorem Rd.take (h : Rd w v g xs) (k : Nat) (hk : k ≤ xs.length) : ∀ A n c, v = .slice A n c → Rd w (.slice A k c) g (xs.take k) := by
  intro A n c hv
  rcases h with ⟨h1, h2, h3⟩ | ⟨a, cap, hv', hu, hg, h1, h2, h3⟩
  · subst h3; rw [h1] at hv; injection hv with ha hn hc; subst ha; subst hc
    have : k = 0 := by simpa using hk
    subst this
    exact .inl ⟨rfl, h2, by simp⟩
  · rw [hv'] at hv; injection hv with ha hn hc; subst ha; subst hc
    have hl : (xs.take k).length = k := by simp; omega
    refine .inr ⟨a, cap, by rw [hl], hu, fun hp => hg (by omega), by omega, h2, fun j u hj => ?_⟩
    rw [List.getElem?_take] at hj
    split at hj
    · exact h3 j u hj
    · cases hj
/-- `x[k:]` as the model spells it -/
theorem Rd.drop (h : Rd w v g xs) (k : Nat) (hk : k ≤ xs.length) : ∀ A n c, v = .slice A n c → Rd w (.slice (if c = k then A else A.map (·.add (k * 1))) (n - k) (c - k)) g (xs.drop k) := by
  intro A n c hv
  rcases h with ⟨h1, h2, h3⟩ | ⟨a, cap, hv', hu, hg, h1, h2, h3⟩
  · subst h3; rw [h1] at hv; injection hv with ha hn hc; subst ha; subst hc; subst hn
    have : k = 0 := by simpa using hk
    subst this
    exact .inl ⟨by simp, h2, by simp⟩
  · rw [hv'] at hv; injection hv with ha hn hc; subst ha; subst hc; subst hn
    by_cases hc : cap = k
    · have hkx : k = xs.length := by omega
      refine .inr ⟨a, cap - k, by simp [hc], hu, fun hp => absurd hp (by simp; omega), by simp; omega, by omega, fun j u hj => ?_⟩
      rw [List.getElem?_drop, List.getElem?_eq_none (by omega)] at hj
      cases hj
    · refine .inr ⟨a.add k, cap - k, by simp [hc], hu, fun hp => ?_, by simp; omega, by omega, fun j u hj => ?_⟩
      · have := hg (by simp at hp; omega)
        refine ⟨by rw [add_block]; exact this.1, ?_⟩
        unfold Addr.add
        split
        · exact this.2
        · rfl
      · rw [List.getElem?_drop] at hj
        rw [add_add']
        exact h3 _ u hj
/-- a whole block as a slice -/
theorem Rd.full {t : TypeId} {b : Nat} {cs : Array Value} {fz : Nat × Nat} (h : w.heap[b]? = some (.cells cs t fz)) (hm : cs.size ≤ maxLen) : Rd w (.slice (some ⟨b, 0, none⟩) cs.size cs.size) (some b) cs.toList :=
  .inr ⟨⟨b, 0, none⟩, cs.size, by simp, fun b' hb' => by injection hb' with hb'; subst hb'; exact (Array.getElem?_eq_some_iff.1 h).1, fun _ => ⟨rfl, rfl⟩, by simp, hm, fun j u hj => by rw [Addr.add_lit, Nat.zero_add, cell_of_row w b j cs t fz h]; simpa using hj⟩
/-- its form -/
theorem Rd.form (h : Rd w v g xs) : ∃ A c, v = .slice A xs.length c ∧ xs.length ≤ c ∧ c ≤ maxLen := by
  rcases h with ⟨rfl, _, rfl⟩ | ⟨a, cap, hv, _, _, h1, h2, _⟩
  · exact ⟨none, 0, rfl, Nat.le_refl _, Nat.zero_le _⟩
  · exact ⟨_, cap, hv, h1, h2⟩
/-- where there are elements -/
theorem Rd.plain (h : Rd w v g xs) (hp : 0 < xs.length) : ∃ b off cap, v = .slice (some ⟨b, off, none⟩) xs.length cap ∧ g = some b ∧ b < w.heap.size ∧ xs.length ≤ cap ∧ cap ≤ maxLen ∧ ∀ j u, xs[j]? = some u → w.cell? ⟨b, off + j, none⟩ = some u := by
  rcases h with ⟨_, _, rfl⟩ | ⟨⟨b, off, spot⟩, cap, hv, hu, hg, h1, h2, h3⟩
  · simp at hp
  · obtain ⟨hg1, rfl⟩ := hg hp
    exact ⟨b, off, cap, hv, hg1, hu _ hg1, h1, h2, fun j u hj => by rw [← Addr.add_lit]; exact h3 j u hj⟩
end

/-- a byte as a value -/
def bv (b : UInt8) : Value := .int .u8 (b.toNat : Int)
theorem bv_one (L : List UInt8) : ∀ u ∈ L.map bv, u.oneCell' = true := by
  intro u hu
  obtain ⟨x, _, rfl⟩ := List.mem_map.1 hu
  rfl
theorem get_bv (L : List UInt8) (j : Nat) (h : j < L.length) : (L.map bv)[j]? = some (bv L[j]) := by simp [h]
end Go.Proofs.Ytnddaildicmneaa
