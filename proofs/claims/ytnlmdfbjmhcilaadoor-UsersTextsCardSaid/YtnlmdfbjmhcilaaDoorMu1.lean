/-
  Parts of the proof, joined in build order: Base, Region, Rec, Rec2, Str, RecSt, Us0, TxP, Bits, Tx1, Tx2, Tx3, LayS, Tx4, RecBy, Tx5.
-/
import Derived.WalkKit
import Derived.Below
import Derived.Laws.OwnMore
import Derived.Laws.BytesArg
import Derived.Deep.Draws
import Derived.Lib.Hide
import Derived.OrdersHeld
import Derived.Deep.RegionHeld3
import Derived.Test.YtnlmdfbjmhcilaaDoorRows
import Derived.Lib.Walk
import Derived.WalkSpells
import Derived.IntWalk
import Derived.Maps.AppendAt
import Derived.Laws.AppendOwnNone
import Derived.Deep.AppendLies
import Derived.Shelf.Abstract
import Derived.Laws.Bits64
import Derived.Laws.BitsAllLaws
import Derived.Test.YtnlmdfbjmhcilaaDoorChecked
import Derived.Deep.Cut
import Derived.Test.YtnlmdfbjmhcilaaDoorProg
import Derived.Shelf.Strings.Search3
import Derived.Ground.NamesProg
import Derived.Laws.IdiomStrings
set_option linter.unusedVariables false
set_option linter.unusedSimpArgs false
/-
  Plain words on memory that all texts of this seat share: which blocks a call keeps, a block known whole, a slice that reads as a list. No program in sight.
-/
namespace Go.Proofs.YtnlmdfbjmhcilaaDoor
open Go.RowKit

/-- `w'` is `w` but for the blocks in `S`, new blocks and draws. -/
structure Keeps (S : Nat → Prop) (w w' : World) : Prop where
  os : w'.os = w.os
  tape : w'.tape = w.tape
  output : w'.output = w.output
  size : w.heap.size ≤ w'.heap.size
  block : ∀ k, k < w.heap.size → ¬ S k → w'.heap[k]? = w.heap[k]?

/-- nothing but new blocks -/
def nowhere : Nat → Prop := fun _ => False
def only (p : Nat) : Nat → Prop := fun k => k = p
def only2 (p : Nat) (g : Option Nat) : Nat → Prop := fun k => k = p ∨ some k = g

section
variable {S T : Nat → Prop} {w w1 w' : World}
theorem Keeps.refl (S : Nat → Prop) (w : World) : Keeps S w w := ⟨rfl, rfl, rfl, Nat.le_refl _, fun _ _ _ => rfl⟩
theorem Keeps.trans (h : Keeps S w w1) (k : Keeps T w1 w') (hT : ∀ b, b < w.heap.size → T b → S b) : Keeps S w w' :=
  ⟨k.os.trans h.os, k.tape.trans h.tape, k.output.trans h.output, Nat.le_trans h.size k.size,
    fun b hb hs => (k.block b (Nat.lt_of_lt_of_le hb h.size) (fun ht => hs (hT b hb ht))).trans (h.block b hb hs)⟩
theorem Keeps.mono (h : Keeps S w w') (hT : ∀ b, b < w.heap.size → S b → T b) : Keeps T w w' :=
  ⟨h.os, h.tape, h.output, h.size, fun b hb ht => h.block b hb (fun hs => ht (hT b hb hs))⟩
theorem Keeps.drew (h : Keeps S w w') : Keeps S w w'.drew := ⟨h.os, h.tape, h.output, h.size, h.block⟩
theorem Keeps.drewN (h : Keeps S w w') (n : Nat) : Keeps S w (w'.drewN n) := ⟨h.os, h.tape, h.output, h.size, h.block⟩
theorem Keeps.alloc (h : Keeps S w w') (o : Obj) : Keeps S w (w'.alloc o) :=
  ⟨h.os, h.tape, h.output, by have := h.size; simp; omega, fun b hb hs => (Below.heap_alloc _ _ _ (Nat.lt_of_lt_of_le hb h.size)).trans (h.block b hb hs)⟩
theorem Keeps.setCell (h : Keeps S w w') {p : Addr} (hp : p.block < w.heap.size → S p.block) (u : Value) : Keeps S w (w'.setCell p u) :=
  ⟨h.os, h.tape, h.output, by have := h.size; simpa [World.setCell] using this, fun b hb hs => (Below.heap_setCell _ _ _ _ (fun e => hs (by subst e; exact hp hb))).trans (h.block b hb hs)⟩
theorem Keeps.grown (h : Keeps S w w1) {row : Option Nat} (hg : w1.grownBy w' row) (hr : ∀ k, row = some k → k < w.heap.size → S k) : Keeps S w w' :=
  h.trans (T := fun b => some b = row) ⟨hg.os, hg.tape, hg.output, hg.size, fun b hb hs => hg.block b hb hs⟩ fun b hb e => hr b e.symm hb
theorem Keeps.below (h : Keeps S w w') {B : Nat} (hB : B ≤ w.heap.size) (hS : ∀ b, b < B → ¬ S b) : Below B w w' :=
  ⟨h.os, h.tape, h.output, h.size, fun b hb => h.block b (Nat.lt_of_lt_of_le hb hB) (hS b hb)⟩
theorem Below.keeps (h : Below w.heap.size w w') : Keeps S w w' := ⟨h.os, h.tape, h.output, h.size, fun b hb _ => h.block b hb⟩
theorem Keeps.cell (h : Keeps S w w') {p : Addr} (hp : p.block < w.heap.size) (hs : ¬ S p.block) : w'.cell? p = w.cell? p := World.cell?_of_block (w := w) (h.block _ hp hs)
theorem Keeps.frozen (h : Keeps S w w') {p : Addr} (hp : p.block < w.heap.size) (hs : ¬ S p.block) : w'.frozen? p = w.frozen? p := World.frozen?_of_block (w := w) (h.block _ hp hs)
end

/-- `g1` is `g` or lies from `n` on -/
def From (g : Option Nat) (n : Nat) (g1 : Option Nat) : Prop := ∀ b, g1 = some b → g = some b ∨ n ≤ b
theorem From.refl (g : Option Nat) (n : Nat) : From g n g := fun _ h => .inl h
theorem From.trans {g g1 g2 : Option Nat} {n m : Nat} (h : From g n g1) (k : From g1 m g2) (hm : n ≤ m) : From g n g2 := fun b hb => by
  rcases k b hb with h1 | h1
  · exact h b h1
  · exact .inr (by omega)
theorem From.mono {g g1 : Option Nat} {n m : Nat} (h : From g n g1) (hm : m ≤ n) : From g m g1 := fun b hb => (h b hb).imp_right (by omega)
theorem not_only2 {p B : Nat} {g : Option Nat} (hp : p < B) (hg : ∀ b, g = some b → b < B) : ¬ only2 p g B := fun h =>
  h.elim (fun e => by omega) (fun e => absurd (hg _ e.symm) (by omega))
theorem not_only2_from {p B n : Nat} {g g1 : Option Nat} (h : ¬ only2 p g B) (hg : From g n g1) (hB : B < n) : ¬ only2 p g1 B := fun h1 =>
  h1.elim (fun e => h (.inl e)) (fun e => (hg B e.symm).elim (fun e' => h (.inr e'.symm)) (fun e' => by omega))
theorem Keeps.trans2 {p n : Nat} {g g1 : Option Nat} {w w1 w2 : World} (hk : Keeps (only2 p g) w w1) (hg : From g n g1) (hn : w.heap.size ≤ n) (hk1 : Keeps (only2 p g1) w1 w2) : Keeps (only2 p g) w w2 :=
  hk.trans hk1 fun b hb h => h.elim (fun e => .inl e) (fun e => (hg b e.symm).elim (fun e' => .inr e'.symm) (fun e' => by omega))

/-- `g`, if any, lies from `n` on | below `n` -/
def Above (n : Nat) (g : Option Nat) : Prop := ∀ b, g = some b → n ≤ b
def Under (n : Nat) (g : Option Nat) : Prop := ∀ b, g = some b → b < n
theorem Above.none (n : Nat) : Above n none := fun _ h => by cases h
theorem Under.none (n : Nat) : Under n none := fun _ h => by cases h
theorem Above.of_from {g g1 : Option Nat} {n m : Nat} (h : Above n g) (k : From g m g1) (hm : n ≤ m) : Above n g1 := fun b hb => (k b hb).elim (h b) (by omega)
theorem Above.mono {g : Option Nat} {n m : Nat} (h : Above n g) (hm : m ≤ n) : Above m g := fun b hb => Nat.le_trans hm (h b hb)
theorem Under.mono {g : Option Nat} {n m : Nat} (h : Under n g) (hm : n ≤ m) : Under m g := fun b hb => Nat.lt_of_lt_of_le (h b hb) hm
theorem Keeps.fresh {p : Nat} {w w1 w' : World} (h : Keeps nowhere w w1) (k : Keeps (only p) w1 w') (hp : w.heap.size ≤ p) : Keeps nowhere w w' :=
  h.trans k fun b hb e => by unfold only at e; omega
theorem Keeps.fresh2 {p : Nat} {g : Option Nat} {w w1 w' : World} (h : Keeps nowhere w w1) (k : Keeps (only2 p g) w1 w') (hp : w.heap.size ≤ p) (hg : Above w.heap.size g) : Keeps nowhere w w' :=
  h.trans k fun b hb e => e.elim (fun e => by omega) (fun e => by have := hg b e.symm; omega)
theorem Keeps.more {w w1 w' : World} (h : Keeps nowhere w w1) (k : Keeps nowhere w1 w') : Keeps nowhere w w' := h.trans k fun _ _ e => e

/-- Block `g` is just the cells `cs` of element type `t`, none frozen. -/
def Blk (w : World) (g : Nat) (t : TypeId) (cs : Array Value) : Prop := w.heap[g]? = some (.cells cs t (0, 0))

section
variable {w w' : World} {g : Nat} {t : TypeId} {cs : Array Value}
theorem Blk.lt (h : Blk w g t cs) : g < w.heap.size := by
  rcases Nat.lt_or_ge g w.heap.size with hlt | hge
  · exact hlt
  · unfold Blk at h; rw [Array.getElem?_eq_none hge] at h; cases h
theorem Blk.cell (h : Blk w g t cs) (i : Nat) : w.cell? ⟨g, i, none⟩ = cs[i]? := cell_of_row w g i cs t (0, 0) h
theorem Blk.frozen (h : Blk w g t cs) (i : Nat) : w.frozen? ⟨g, i, none⟩ = false := frozen_of_row w g i cs t h
theorem Blk.new (w : World) (t : TypeId) (cs : Array Value) : Blk (w.alloc (.cells cs t)) w.heap.size t cs := heap_alloc_new w _
theorem Blk.drew (h : Blk w g t cs) : Blk w.drew g t cs := h
theorem Blk.drewN (h : Blk w g t cs) (n : Nat) : Blk (w.drewN n) g t cs := h
theorem Blk.alloc (h : Blk w g t cs) (o : Obj) : Blk (w.alloc o) g t cs := (Below.heap_alloc w o g h.lt).trans h
theorem Blk.set_ (h : Blk w g t cs) (i : Nat) (u : Value) : Blk (w.setCell ⟨g, i, none⟩ u) g t (cs.setIfInBounds i u) := by
  unfold Blk at h ⊢
  simp [World.setCell, Array.getElem?_modify, h]
theorem Blk.far (h : Blk w g t cs) {p : Addr} (hp : g ≠ p.block) (u : Value) : Blk (w.setCell p u) g t cs := (Below.heap_setCell w p u g hp).trans h
theorem Blk.keep {S : Nat → Prop} (h : Blk w g t cs) (hk : Keeps S w w') (hs : ¬ S g) : Blk w' g t cs := (hk.block g h.lt hs).trans h
theorem Blk.grown {row : Option Nat} (h : Blk w g t cs) (hb : w.grownBy w' row) (hg : some g ≠ row) : Blk w' g t cs := (hb.block g h.lt hg).trans h
theorem Blk.ne_ {g' : Nat} {t' : TypeId} {cs' : Array Value} (h : Blk w g t cs) (h' : Blk w g' t' cs') (hne : t ≠ t') : g ≠ g' := by
  rintro rfl
  unfold Blk at h h'
  rw [h] at h'
  injection h' with h'
  injection h' with _ ht
  exact hne ht
theorem Blk.inj {cs' : Array Value} {t' : TypeId} (h : Blk w g t cs) (h' : Blk w g t' cs') : cs = cs' := by
  unfold Blk at h h'
  rw [h] at h'
  injection h' with h'
  injection h'
theorem own_blk_ne {base : Nat} {e : TypeId} {size n : Nat} {v : Value} {xs : List Value} (h : w.ownsRow base e size v n xs) (hg : Blk w g t cs) (hne : e ≠ t) : v.ownBlock ≠ some g := by
  rcases h.2 with ⟨rfl, _⟩ | ⟨g', cap, cur, rfl, _, hh, _⟩
  · simp [Value.ownBlock]
  · intro he
    have : g' = g := by simpa [Value.ownBlock] using he
    subst this
    exact Blk.ne_ (t := e) hh hg hne rfl
theorem own_keep {base : Nat} {e : TypeId} {size n : Nat} {v : Value} {xs : List Value} {S : Nat → Prop} (h : w.ownsRow base e size v n xs) (hk : Keeps S w w') (hs : ∀ b, v.ownBlock = some b → ¬ S b) : w'.ownsRow base e size v n xs := by
  obtain ⟨h1, h2⟩ := h
  refine ⟨h1, ?_⟩
  rcases h2 with h2 | ⟨g, cap, cur, rfl, hb, hg, rest⟩
  · exact .inl h2
  · exact .inr ⟨g, cap, cur, rfl, hb, (hk.block g (Array.getElem?_eq_some_iff.1 hg).1 (hs g rfl)).trans hg, rest⟩
end

/-- A slice value that reads as the cells `xs` (one cell an element); nil reads as nothing. `g` is the block that is read, if any. Of a slice without elements the address is not looked at. -/
def Rd (w : World) (v : Value) (g : Option Nat) (xs : List Value) : Prop :=
  (v = .slice none 0 0 ∧ g = none ∧ xs = []) ∨
  ∃ a cap, v = .slice (some a) xs.length cap ∧ Under w.heap.size g ∧ (0 < xs.length → g = some a.block ∧ a.spot = none) ∧ xs.length ≤ cap ∧ cap ≤ maxLen ∧ ∀ j u, xs[j]? = some u → w.cell? (a.add j) = some u

theorem add_block (a : Addr) (j : Nat) : (a.add j).block = a.block := by unfold Addr.add; split <;> rfl
theorem add_add' (a : Addr) (i j : Nat) : (a.add i).add j = a.add (i + j) := by
  unfold Addr.add
  by_cases hi : i = 0 <;> by_cases hj : j = 0 <;> simp [hi, hj, Nat.add_assoc]
theorem pos_of_get {α : Type} {l : List α} {j : Nat} {u : α} (h : l[j]? = some u) : 0 < l.length := by
  have := (List.getElem?_eq_some_iff.1 h).1
  omega

section
variable {w w' : World} {v : Value} {g : Option Nat} {xs : List Value}
theorem Rd.keep {S : Nat → Prop} (h : Rd w v g xs) (hk : Keeps S w w') (hs : ∀ b, g = some b → ¬ S b) : Rd w' v g xs := by
  rcases h with h | ⟨a, cap, hv, hu, hg, h1, h2, h3⟩
  · exact .inl h
  · exact .inr ⟨a, cap, hv, hu.mono hk.size, hg, h1, h2, fun j u hj => by
      have hga := (hg (pos_of_get hj)).1
      exact (hk.cell (p := a.add j) (by rw [add_block]; exact hu _ hga) (by rw [add_block]; exact hs _ hga)).trans (h3 j u hj)⟩
theorem Rd.lt (h : Rd w v g xs) : Under w.heap.size g := by
  rcases h with ⟨_, hg, _⟩ | ⟨a, cap, hv, hu, _⟩
  · rw [hg]; exact Under.none _
  · exact hu
theorem Rd.nil (w : World) : Rd w (.slice none 0 0) none [] := .inl ⟨rfl, rfl, rfl⟩
theorem Rd.of_own {e : TypeId} {base : Nat} {n : Nat} (h : w.ownsRow base e 1 v n xs) : Rd w v v.ownBlock xs := by
  have hc := fun g (hg : v.ownBlock = some g) => h.cells hg
  have hlt := h.lt
  obtain ⟨h1, h2⟩ := h
  rcases h2 with ⟨rfl, h2⟩ | ⟨b, cap, cur, rfl, hb, hg, h3, h4, h5, h6⟩
  · exact .inl ⟨rfl, rfl, List.eq_nil_of_length_eq_zero (by omega)⟩
  · have hl : xs.length = n := by omega
    exact .inr ⟨⟨b, 0, none⟩, cap, by rw [hl], fun b hb => (hlt b hb).2, fun _ => ⟨rfl, rfl⟩, by omega, h4, hc b rfl⟩
theorem Rd.le (h : Rd w v g xs) : xs.length ≤ maxLen := by
  rcases h with ⟨_, _, rfl⟩ | ⟨a, cap, hv, _, _, h1, h2, _⟩
  · simp [maxLen]
  · omega
/-- `x[:k]` -/
theorem Rd.take (h : Rd w v g xs) (k : Nat) (hk : k ≤ xs.length) : ∀ A n c, v = .slice A n c → Rd w (.slice A k c) g (xs.take k) := by
  intro A n c hv
  rcases h with ⟨h1, h2, h3⟩ | ⟨a, cap, hv', hu, hg, h1, h2, h3⟩
  · subst h3; rw [h1] at hv; injection hv with ha hn hc; subst ha; subst hc
    have : k = 0 := by simpa using hk
    subst this
    exact .inl ⟨rfl, h2, by simp⟩
  · rw [hv'] at hv; injection hv with ha hn hc; subst ha; subst hc
    have hl : (xs.take k).length = k := by simp; omega
    refine .inr ⟨a, cap, by rw [hl], hu, fun hp => hg (by omega), by omega, h2, fun j u hj => ?_⟩
    rw [List.getElem?_take] at hj
    split at hj
    · exact h3 j u hj
    · cases hj
/-- `x[k:]` as the model spells it -/
theorem Rd.drop (h : Rd w v g xs) (k : Nat) (hk : k ≤ xs.length) : ∀ A n c, v = .slice A n c → Rd w (.slice (if c = k then A else A.map (·.add (k * 1))) (n - k) (c - k)) g (xs.drop k) := by
  intro A n c hv
  rcases h with ⟨h1, h2, h3⟩ | ⟨a, cap, hv', hu, hg, h1, h2, h3⟩
  · subst h3; rw [h1] at hv; injection hv with ha hn hc; subst ha; subst hc; subst hn
    have : k = 0 := by simpa using hk
    subst this
    exact .inl ⟨by simp, h2, by simp⟩
  · rw [hv'] at hv; injection hv with ha hn hc; subst ha; subst hc; subst hn
    by_cases hc : cap = k
    · have hkx : k = xs.length := by omega
      refine .inr ⟨a, cap - k, by simp [hc], hu, fun hp => absurd hp (by simp; omega), by simp; omega, by omega, fun j u hj => ?_⟩
      rw [List.getElem?_drop, List.getElem?_eq_none (by omega)] at hj
      cases hj
    · refine .inr ⟨a.add k, cap - k, by simp [hc], hu, fun hp => ?_, by simp; omega, by omega, fun j u hj => ?_⟩
      · have := hg (by simp at hp; omega)
        refine ⟨by rw [add_block]; exact this.1, ?_⟩
        unfold Addr.add
        split
        · exact this.2
        · rfl
      · rw [List.getElem?_drop] at hj
        rw [add_add']
        exact h3 _ u hj
/-- a whole block as a slice -/
theorem Rd.full {t : TypeId} {b : Nat} {cs : Array Value} {fz : Nat × Nat} (h : w.heap[b]? = some (.cells cs t fz)) (hm : cs.size ≤ maxLen) : Rd w (.slice (some ⟨b, 0, none⟩) cs.size cs.size) (some b) cs.toList :=
  .inr ⟨⟨b, 0, none⟩, cs.size, by simp, fun b' hb' => by injection hb' with hb'; subst hb'; exact (Array.getElem?_eq_some_iff.1 h).1, fun _ => ⟨rfl, rfl⟩, by simp, hm, fun j u hj => by rw [Addr.add_lit, Nat.zero_add, cell_of_row w b j cs t fz h]; simpa using hj⟩
/-- its form -/
theorem Rd.form (h : Rd w v g xs) : ∃ A c, v = .slice A xs.length c ∧ xs.length ≤ c ∧ c ≤ maxLen := by
  rcases h with ⟨rfl, _, rfl⟩ | ⟨a, cap, hv, _, _, h1, h2, _⟩
  · exact ⟨none, 0, rfl, Nat.le_refl _, Nat.zero_le _⟩
  · exact ⟨_, cap, hv, h1, h2⟩
/-- where there are elements -/
theorem Rd.plain (h : Rd w v g xs) (hp : 0 < xs.length) : ∃ b off cap, v = .slice (some ⟨b, off, none⟩) xs.length cap ∧ g = some b ∧ b < w.heap.size ∧ xs.length ≤ cap ∧ cap ≤ maxLen ∧ ∀ j u, xs[j]? = some u → w.cell? ⟨b, off + j, none⟩ = some u := by
  rcases h with ⟨_, _, rfl⟩ | ⟨⟨b, off, spot⟩, cap, hv, hu, hg, h1, h2, h3⟩
  · simp at hp
  · obtain ⟨hg1, rfl⟩ := hg hp
    exact ⟨b, off, cap, hv, hg1, hu _ hg1, h1, h2, fun j u hj => by rw [← Addr.add_lit]; exact h3 j u hj⟩
end

/-- a byte as a value -/
def bv (b : UInt8) : Value := .int .u8 (b.toNat : Int)
theorem bv_one (L : List UInt8) : ∀ u ∈ L.map bv, u.oneCell' = true := by
  intro u hu
  obtain ⟨x, _, rfl⟩ := List.mem_map.1 hu
  rfl
theorem get_bv (L : List UInt8) (j : Nat) (h : j < L.length) : (L.map bv)[j]? = some (bv L[j]) := by simp [h]
end Go.Proofs.YtnlmdfbjmhcilaaDoor
/-
  A region that draws its order, by a script: quiet operations are taken as soon as they may come up, the others come one by one, and a condition on the world need hold only as long as a quiet one may still be waiting.
  No program in sight. It stands on the library's law that an operation which yields one value in every world of a class may be taken first.
-/
namespace Go.Proofs.YtnlmdfbjmhcilaaDoor
open Go.RowKit

section
variable {P : Program} {ops : Array Oper} {Q : Exit → Act → World → Prop} {S : World → Prop}

/-- operation `k` waits for `f` -/
def waits (ops : Array Oper) (k f : Nat) : Bool := ((ops[k]?).map (·.after.any fun e => Region.binds .any e && e.on == f)).getD false
/-- `f` must have come up: one that waits for it has -/
def usedBy (ops : Array Oper) (F : List Nat) (listed : Array Bool) : Nat → Nat → Bool
  | 0, _ => false
  | n + 1, f => (List.range ops.size).any fun k => waits ops k f && (if F.contains k then usedBy ops F listed n k else listed.getD k false)
/-- the condition on the world is still wanted -/
def need (ops : Array Oper) (F W : List Nat) (listed : Array Bool) : Bool := W.any fun f => listed.getD f false && !usedBy ops F listed ops.size f

/-- with an operation all that it waits for has come up -/
def Closed (ops : Array Oper) (L : Array Bool) : Prop := ∀ k o, ops[k]? = some o → L.getD k false = true → ∀ e ∈ o.after, Region.binds .any e = true → L.getD e.on false = true

theorem closed_start (n : Nat) : Closed ops (Array.replicate n false) := by
  intro k o _ h
  rw [Array.getD_eq_getD_getElem?] at h
  by_cases hk : k < n
  · simp [hk] at h
  · simp [hk] at h

theorem Closed.set {L : Array Bool} {i : Nat} (h : Closed ops L) (hr : i ∈ Region.ready .any ops L) : Closed ops (L.setIfInBounds i true) := by
  obtain ⟨_, o, ho, hall⟩ := mem_ready.1 hr
  intro k ok hk hl e he hb
  by_cases hki : k = i
  · subst hki
    rw [ho] at hk
    injection hk with hk
    subst hk
    exact getD_set_true (hall e he hb)
  · rw [getD_set_ne false (Ne.symm hki)] at hl
    exact getD_set_true (h k ok hk hl e he hb)

theorem usedBy_listed {F : List Nat} {L L' : Array Bool} (hc : Closed ops L) (hl : ∀ k, F.contains k = false → L'.getD k false = true → L.getD k false = true) :
    ∀ (n f : Nat), usedBy ops F L' n f = true → L.getD f false = true
  | 0, _, h => by cases h
  | n + 1, f, h => by
    simp only [usedBy, List.any_eq_true, List.mem_range, Bool.and_eq_true] at h
    obtain ⟨k, _, hw, hk⟩ := h
    have hkl : L.getD k false = true := by
      split at hk
      · exact usedBy_listed hc hl n k hk
      · rename_i hF
        exact hl k (by simpa using hF) hk
    unfold waits at hw
    cases ho : ops[k]? with
    | none => rw [ho] at hw; cases hw
    | some o =>
      rw [ho] at hw
      simp only [Option.map_some, Option.getD_some] at hw
      obtain ⟨e, he, hb⟩ := Array.any_eq_true'.1 hw
      simp only [Bool.and_eq_true, beq_iff_eq] at hb
      have := hc k o ho hkl e he hb.1
      rwa [hb.2] at this

/-- Whatever order is picked; the condition on the world holds behind each operation behind which it is wanted. -/
def wpAnyN (P : Program) (ops : Array Oper) (Q : Exit → Act → World → Prop) (S : World → Prop) (F W : List Nat) : Nat → Array Bool → Act → World → Prop
  | 0, L, a, w => Region.ready .any ops L = [] ∧ Q .normal a w
  | n + 1, L, a, w => (Region.ready .any ops L = [] → Q .normal a w) ∧
    ∀ i ∈ Region.ready .any ops L, wpOp P ops Q i (fun a' w' => (need ops F W (L.setIfInBounds i true) = true → S w') ∧ wpAnyN P ops Q S F W n (L.setIfInBounds i true) a' w') a w

theorem wpAny_of_N {F W : List Nat} : ∀ (n : Nat) (L : Array Bool) (a : Act) (w : World), wpAnyN P ops Q S F W n L a w → wpAny P .any ops Q n L a w
  | 0, _, _, _, h => h
  | n + 1, _, _, _, h => ⟨h.1, fun i hi => wpOp_mono (fun a' w' h' => wpAny_of_N n _ a' w' h'.2) (h.2 i hi)⟩

theorem wpAnyN_first {F W : List Nat} {i : Nat} {oi : Oper} {v : Value} (hi : ops[i]? = some oi) (hF : F.contains i = true) (hWi : W.contains i = true) (hsel : ∀ (j : Nat) (o : Oper) cs b, ops[j]? = some o → o.op ≠ .select cs b)
    (hQ : ∀ c a w, Q (.panic c) (a.put oi.dst v) w → Q (.panic c) a w) :
    ∀ (n : Nat) (L : Array Bool) (a : Act) (w : World),
      (∀ j oj, ops[j]? = some oj → j ≠ i → L.getD j true = false → (∀ e ∈ oj.after, Region.binds .any e = true → e.on ≠ i) → oi.apart ops oj = true) →
      Closed ops L → i ∈ Region.ready .any ops L → YieldsIf P ops S oi v a → S w →
      wpAnyN P ops Q S F W n (L.setIfInBounds i true) (a.put oi.dst v) w → wpAnyN P ops Q S F W (n + 1) L a w := by
  intro n
  induction n with
  | zero =>
    intro L a w hfree hcl hr hy hS H
    refine ⟨fun h => (by rw [h] at hr; cases hr), fun j hj => ?_⟩
    by_cases hji : j = i
    · subst hji; exact hy.wpOp hi hS ⟨fun _ => hS, H⟩
    · have := ready_mono hj hji
      rw [H.1] at this
      cases this
  | succ n ih =>
    intro L a w hfree hcl hr hy hS H
    refine ⟨fun h => (by rw [h] at hr; cases hr), fun j hj => ?_⟩
    by_cases hji : j = i
    · subst hji; exact hy.wpOp hi hS ⟨fun _ => hS, H⟩
    · have h1 := H.2 j (ready_mono hj hji)
      obtain ⟨hjun, oj, hoj, hall⟩ := mem_ready.1 hj
      have hiun := (mem_ready.1 hr).1
      have hilt : i < L.size := by
        rcases Nat.lt_or_ge i L.size with h' | h'
        · exact h'
        · simp [Array.getElem?_eq_none h'] at hiun
      have hif : L.getD i false = false := by simpa [hilt] using hiun
      have hnot : ∀ e ∈ oj.after, Region.binds .any e = true → e.on ≠ i := fun e he hb heq => by
        have h1 := hall e he hb
        rw [heq, hif] at h1
        cases h1
      have h2 := wpOp_putIf hoj (hfree j oj hoj hji hjun hnot) (fun cs b => hsel i oi cs b hi) (fun cs b => hsel j oj cs b hoj) hQ hy h1
      have hcl' : Closed ops (L.setIfInBounds j true) := hcl.set hj
      have hneed : need ops F W ((L.setIfInBounds i true).setIfInBounds j true) = true := by
        unfold need
        rw [List.any_eq_true]
        refine ⟨i, by simpa using hWi, ?_⟩
        have e1 : ((L.setIfInBounds i true).setIfInBounds j true).getD i false = true := by
          rw [getD_set_ne false hji]
          simp [hilt]
        rw [e1, Bool.true_and, Bool.not_eq_true']
        cases hu : usedBy ops F ((L.setIfInBounds i true).setIfInBounds j true) ops.size i with
        | false => rfl
        | true =>
          have := usedBy_listed (L := L.setIfInBounds j true) hcl' (fun k hk hl => ?_) _ _ hu
          · rw [getD_set_ne false hji, hif] at this
            cases this
          · have hki : k ≠ i := fun e => by rw [e, hF] at hk; cases hk
            rw [Array.setIfInBounds_comm _ _ (Ne.symm hji), getD_set_ne false (Ne.symm hki)] at hl
            exact hl
      have hfree' : ∀ k ok, ops[k]? = some ok → k ≠ i → (L.setIfInBounds j true).getD k true = false →
          (∀ e ∈ ok.after, Region.binds .any e = true → e.on ≠ i) → oi.apart ops ok = true := fun k ok hk hki hun hno => by
        refine hfree k ok hk hki ?_ hno
        by_cases hjk : j = k
        · subst hjk; exact hjun
        · rw [getD_set_ne true hjk] at hun; exact hun
      refine wpOp_mono (fun a' w' h3 => ⟨fun _ => h3.2.1 hneed, ih (L.setIfInBounds j true) a' w' hfree' hcl' (ready_mono hr (Ne.symm hji)) h3.1 (h3.2.1 hneed) ?_⟩) h2
      rw [Array.setIfInBounds_comm _ _ hji]
      exact h3.2.2

theorem usedBy_set {F : List Nat} {i : Nat} {L : Array Bool} (hF : F.contains i = true) : ∀ (n f : Nat), usedBy ops F (L.setIfInBounds i true) n f = usedBy ops F L n f
  | 0, _ => rfl
  | n + 1, f => by
    simp only [usedBy]
    congr 1
    funext k
    congr 1
    split
    · exact usedBy_set hF n k
    · rename_i hk
      have hki : i ≠ k := fun e => hk (by rw [← e]; exact hF)
      exact getD_set_ne false hki

theorem need_set {F W : List Nat} {i : Nat} {L : Array Bool} (hF : F.contains i = true) (hW : W.contains i = false) : need ops F W (L.setIfInBounds i true) = need ops F W L := by
  unfold need
  rw [Bool.eq_iff_iff, List.any_eq_true, List.any_eq_true]
  have key : ∀ f ∈ W, ((L.setIfInBounds i true).getD f false && !usedBy ops F (L.setIfInBounds i true) ops.size f) = (L.getD f false && !usedBy ops F L ops.size f) := fun f hf => by
    have hfi : i ≠ f := fun e => by rw [← e] at hf; simp [hf] at hW
    rw [getD_set_ne false hfi, usedBy_set hF]
  constructor
  · rintro ⟨f, hf, h⟩; exact ⟨f, hf, by rw [← key f hf]; exact h⟩
  · rintro ⟨f, hf, h⟩; exact ⟨f, hf, by rw [key f hf]; exact h⟩

theorem wpAnyN_pure {F W : List Nat} {i : Nat} {oi : Oper} {v : Value} (hi : ops[i]? = some oi) (hF : F.contains i = true) (hWi : W.contains i = false) (hsel : ∀ (j : Nat) (o : Oper) cs b, ops[j]? = some o → o.op ≠ .select cs b)
    (hQ : ∀ c a w, Q (.panic c) (a.put oi.dst v) w → Q (.panic c) a w) :
    ∀ (n : Nat) (L : Array Bool) (a : Act) (w : World),
      (∀ j oj, ops[j]? = some oj → j ≠ i → L.getD j true = false → (∀ e ∈ oj.after, Region.binds .any e = true → e.on ≠ i) → oi.apart ops oj = true) →
      i ∈ Region.ready .any ops L → YieldsIf P ops (fun _ => True) oi v a → (need ops F W L = true → S w) →
      wpAnyN P ops Q S F W n (L.setIfInBounds i true) (a.put oi.dst v) w → wpAnyN P ops Q S F W (n + 1) L a w := by
  intro n
  induction n with
  | zero =>
    intro L a w hfree hr hy hS H
    refine ⟨fun h => (by rw [h] at hr; cases hr), fun j hj => ?_⟩
    by_cases hji : j = i
    · subst hji; exact hy.wpOp hi trivial ⟨fun h => hS (by rwa [need_set hF hWi] at h), H⟩
    · have := ready_mono hj hji
      rw [H.1] at this
      cases this
  | succ n ih =>
    intro L a w hfree hr hy hS H
    refine ⟨fun h => (by rw [h] at hr; cases hr), fun j hj => ?_⟩
    by_cases hji : j = i
    · subst hji; exact hy.wpOp hi trivial ⟨fun h => hS (by rwa [need_set hF hWi] at h), H⟩
    · have h1 := H.2 j (ready_mono hj hji)
      obtain ⟨hjun, oj, hoj, hall⟩ := mem_ready.1 hj
      have hiun := (mem_ready.1 hr).1
      have hilt : i < L.size := by
        rcases Nat.lt_or_ge i L.size with h' | h'
        · exact h'
        · simp [Array.getElem?_eq_none h'] at hiun
      have hif : L.getD i false = false := by simpa [hilt] using hiun
      have hnot : ∀ e ∈ oj.after, Region.binds .any e = true → e.on ≠ i := fun e he hb heq => by
        have h1 := hall e he hb
        rw [heq, hif] at h1
        cases h1
      have h2 := wpOp_putIf hoj (hfree j oj hoj hji hjun hnot) (fun cs b => hsel i oi cs b hi) (fun cs b => hsel j oj cs b hoj) hQ hy h1
      have hfree' : ∀ k ok, ops[k]? = some ok → k ≠ i → (L.setIfInBounds j true).getD k true = false →
          (∀ e ∈ ok.after, Region.binds .any e = true → e.on ≠ i) → oi.apart ops ok = true := fun k ok hk hki hun hno => by
        refine hfree k ok hk hki ?_ hno
        by_cases hjk : j = k
        · subst hjk; exact hjun
        · rw [getD_set_ne true hjk] at hun; exact hun
      have hn : ∀ {w' : World}, (need ops F W ((L.setIfInBounds i true).setIfInBounds j true) = true → S w') → need ops F W (L.setIfInBounds j true) = true → S w' := fun h hh => h (by
        rw [Array.setIfInBounds_comm _ _ (Ne.symm hji), need_set hF hWi]; exact hh)
      refine wpOp_mono (fun a' w' h3 => ⟨hn h3.2.1, ih (L.setIfInBounds j true) a' w' hfree' (ready_mono hr (Ne.symm hji)) h3.1 (hn h3.2.1) ?_⟩) h2
      rw [Array.setIfInBounds_comm _ _ hji]
      exact h3.2.2

/-- a script's steps: quiet ones that read the world | quiet ones that do not | others, and whether the condition is wanted behind the last of them -/
inductive Mv where
  | fs (l : List Nat)
  | ps (l : List Nat)
  | es (l : List Nat) (nd : Bool)

def Mv.len : Mv → Nat
  | .fs l => l.length
  | .ps l => l.length
  | .es l _ => l.length

def chkF (ops : Array Oper) (F W : List Nat) (rd : Bool) : List Nat → Array Bool → Option (Array Bool)
  | [], L => some L
  | i :: l, L => if F.contains i && (W.contains i == rd) && (Region.ready .any ops L).contains i && Region.free .any ops L i then chkF ops F W rd l (L.setIfInBounds i true) else none
def chkE (ops : Array Oper) (F W : List Nat) (nd : Bool) : List Nat → Array Bool → Option (Array Bool)
  | [], L => some L
  | i :: l, L => if Region.ready .any ops L == [i] && (!need ops F W (L.setIfInBounds i true) || (l.isEmpty && nd)) then chkE ops F W nd l (L.setIfInBounds i true) else none
def chk (ops : Array Oper) (F W : List Nat) : List Mv → Array Bool → Bool
  | [], L => (Region.ready .any ops L).isEmpty
  | .fs l :: r, L => match chkF ops F W true l L with | some L' => chk ops F W r L' | none => false
  | .ps l :: r, L => match chkF ops F W false l L with | some L' => chk ops F W r L' | none => false
  | .es l nd :: r, L => match chkE ops F W nd l L with | some L' => chk ops F W r L' | none => false

/-- quiet operations, each with its one value -/
def quietL (P : Program) (ops : Array Oper) (S : World → Prop) : List Nat → (Act → Prop) → Act → Prop
  | [], K, a => K a
  | i :: l, K, a => ∃ o, ops[i]? = some o ∧ ∃ v, YieldsIf P ops S o v a ∧ quietL P ops S l K (a.put o.dst v)

/-- the walk along a script; the condition may be made stronger wherever the world is read -/
def wpS (P : Program) (ops : Array Oper) (QN : Act → World → Prop) (Q : Exit → Act → World → Prop) : List Mv → (World → Prop) → Act → World → Prop
  | [], _, a, w => QN a w
  | .fs l :: r, S, a, w => ∃ S' : World → Prop, (∀ w, S' w → S w) ∧ S' w ∧ quietL P ops S' l (fun a' => wpS P ops QN Q r S' a' w) a
  | .ps l :: r, S, a, w => quietL P ops (fun _ => True) l (fun a' => wpS P ops QN Q r S a' w) a
  | .es l nd :: r, S, a, w => wpOps P ops (Exit.then (fun a' w' => (nd = true → S w') ∧ wpS P ops QN Q r S a' w') Q) l a w

theorem wpAnyN_mono {S' : World → Prop} {F W : List Nat} (hS : ∀ w, S' w → S w) : ∀ (n : Nat) (L : Array Bool) (a : Act) (w : World), wpAnyN P ops Q S' F W n L a w → wpAnyN P ops Q S F W n L a w
  | 0, _, _, _, h => h
  | n + 1, _, _, _, h => ⟨h.1, fun i hi => wpOp_mono (fun a' w' h' => ⟨fun hn => hS _ (h'.1 hn), wpAnyN_mono hS n _ a' w' h'.2⟩) (h.2 i hi)⟩

theorem script_F {F W : List Nat} (hsel : Region.noSelect ops = true) (hQ : ∀ (i : Nat) (o : Oper), ops[i]? = some o → ∀ c a v w, Q (.panic c) (Act.put a o.dst v) w → Q (.panic c) a w) {n : Nat} {K : Act → Prop} {w : World} (hS : S w) :
    ∀ (l : List Nat) (L L' : Array Bool) (a : Act), chkF ops F W true l L = some L' → Closed ops L →
      (∀ a', Closed ops L' → K a' → wpAnyN P ops Q S F W n L' a' w) → quietL P ops S l K a → wpAnyN P ops Q S F W (l.length + n) L a w
  | [], L, L', a, hc, hcl, hK, h => by
    simp only [chkF, Option.some.injEq] at hc
    subst hc
    rw [List.length_nil, Nat.zero_add]
    exact hK a hcl h
  | i :: l, L, L', a, hc, hcl, hK, h => by
    simp only [chkF] at hc
    split at hc
    · rename_i hcond
      simp only [Bool.and_eq_true, beq_iff_eq] at hcond
      obtain ⟨⟨⟨h1, h0⟩, h2⟩, h3⟩ := hcond
      obtain ⟨o, ho, v, hy, hrest⟩ := h
      have hr : i ∈ Region.ready .any ops L := by simpa using h2
      have := script_F hsel hQ hS l _ L' (a.put o.dst v) hc (hcl.set hr) hK hrest
      rw [List.length_cons, Nat.add_right_comm]
      exact wpAnyN_first ho h1 h0 (Region.noSelect_spec hsel) (fun c a w => hQ _ _ ho c a _ w) _ L a w (Region.free_spec ho h3) hcl hr hy hS this
    · cases hc

theorem script_P {F W : List Nat} (hsel : Region.noSelect ops = true) (hQ : ∀ (i : Nat) (o : Oper), ops[i]? = some o → ∀ c a v w, Q (.panic c) (Act.put a o.dst v) w → Q (.panic c) a w) {n : Nat} {K : Act → Prop} {w : World} :
    ∀ (l : List Nat) (L L' : Array Bool) (a : Act), chkF ops F W false l L = some L' → Closed ops L → (need ops F W L = true → S w) →
      (∀ a', Closed ops L' → (need ops F W L' = true → S w) → K a' → wpAnyN P ops Q S F W n L' a' w) → quietL P ops (fun _ => True) l K a → wpAnyN P ops Q S F W (l.length + n) L a w
  | [], L, L', a, hc, hcl, hS, hK, h => by
    simp only [chkF, Option.some.injEq] at hc
    subst hc
    rw [List.length_nil, Nat.zero_add]
    exact hK a hcl hS h
  | i :: l, L, L', a, hc, hcl, hS, hK, h => by
    simp only [chkF] at hc
    split at hc
    · rename_i hcond
      simp only [Bool.and_eq_true, beq_iff_eq] at hcond
      obtain ⟨⟨⟨h1, h0⟩, h2⟩, h3⟩ := hcond
      obtain ⟨o, ho, v, hy, hrest⟩ := h
      have hr : i ∈ Region.ready .any ops L := by simpa using h2
      have := script_P hsel hQ l _ L' (a.put o.dst v) hc (hcl.set hr) (fun h => hS (by rwa [need_set h1 h0] at h)) hK hrest
      rw [List.length_cons, Nat.add_right_comm]
      exact wpAnyN_pure ho h1 h0 (Region.noSelect_spec hsel) (fun c a w => hQ _ _ ho c a _ w) _ L a w (Region.free_spec ho h3) hr hy hS this
    · cases hc

theorem script_E {F W : List Nat} {nd : Bool} {n : Nat} {K : Act → World → Prop} :
    ∀ (l : List Nat) (L L' : Array Bool) (a : Act) (w : World), chkE ops F W nd l L = some L' → Closed ops L → l ≠ [] →
      (∀ a' w', Closed ops L' → (need ops F W L' = true → S w') → K a' w' → wpAnyN P ops Q S F W n L' a' w') →
      wpOps P ops (Exit.then (fun a' w' => (nd = true → S w') ∧ K a' w') Q) l a w → wpAnyN P ops Q S F W (l.length + n) L a w
  | [], L, L', a, w, hc, hcl, hne, hK, h => absurd rfl hne
  | i :: l, L, L', a, w, hc, hcl, _, hK, h => by
    simp only [chkE] at hc
    split at hc
    · rename_i hcond
      simp only [Bool.and_eq_true, Bool.or_eq_true, Bool.not_eq_true', beq_iff_eq] at hcond
      obtain ⟨hr, hnd⟩ := hcond
      have hri : i ∈ Region.ready .any ops L := by rw [hr]; simp
      rw [List.length_cons, Nat.add_right_comm]
      refine ⟨fun h0 => (by rw [hr] at h0; cases h0), fun j hj => ?_⟩
      have hji : j = i := by rw [hr] at hj; simpa using hj
      subst hji
      rw [wpOps_cons] at h
      -- the same operation under the post without its end
      have hstep : wpOp P ops Q j (wpOps P ops (Exit.then (fun a' w' => (nd = true → S w') ∧ K a' w') Q) l) a w := by
        unfold wpOp at h ⊢
        cases ho : ops[j]? with
        | none => simp only [ho] at h ⊢; exact h
        | some o =>
          simp only [ho] at h ⊢
          by_cases hw : Region.wanted o (yielded ops a.tmps) = true
          · rw [if_pos hw] at h ⊢
            rcases h with h | ⟨h1, h2⟩
            · refine .inl ?_
              unfold Oper.wp at h ⊢
              generalize (execOp a.eval _).run P w = r at *
              cases r with
              | ok nx w' =>
                cases nx <;> simp only [Oper.upon] at h ⊢ <;> first | exact h | (refine Calls.mono h fun e w'' he => ?_; cases e <;> exact he)
              | halt x w' => cases x <;> simp only [Oper.upon] at h ⊢ <;> exact h
            · exact .inr ⟨h1, h2⟩
          · rw [if_neg hw] at h ⊢
            exact h
      refine wpOp_mono (fun a' w' h' => ?_) hstep
      cases l with
      | nil =>
        simp only [chkE, Option.some.injEq] at hc
        subst hc
        simp only [wpOps, Exit.then] at h'
        have hS : need ops F W (L.setIfInBounds j true) = true → S w' := fun hn => by
          rcases hnd with hnd | hnd
          · rw [hnd] at hn; cases hn
          · exact h'.1 hnd.2
        refine ⟨hS, ?_⟩
        rw [List.length_nil, Nat.zero_add]
        exact hK a' w' (hcl.set hri) hS h'.2
      | cons k l =>
        have hn0 : need ops F W (L.setIfInBounds j true) = false := by
          rcases hnd with hnd | hnd
          · exact hnd
          · simp at hnd
        exact ⟨fun hn => (by rw [hn0] at hn; cases hn), script_E (k :: l) _ L' a' w' hc (hcl.set hri) (by simp) hK h'⟩
    · cases hc

def Mv.full : Mv → Bool
  | .es l _ => !l.isEmpty
  | _ => true

theorem script_all {F W : List Nat} {QN : Act → World → Prop} (hsel : Region.noSelect ops = true) (hQ : ∀ (i : Nat) (o : Oper), ops[i]? = some o → ∀ c a v w, Q (.panic c) (Act.put a o.dst v) w → Q (.panic c) a w) (hN : ∀ a w, QN a w → Q .normal a w) :
    ∀ (s : List Mv) (S : World → Prop) (L : Array Bool) (a : Act) (w : World), chk ops F W s L = true → s.all Mv.full = true → Closed ops L → (need ops F W L = true → S w) → wpS P ops QN Q s S a w → wpAnyN P ops Q S F W ((s.map Mv.len).sum) L a w
  | [], S, L, a, w, hc, _, _, _, h => by
    simp only [chk, List.isEmpty_iff] at hc
    exact ⟨hc, hN a w h⟩
  | .fs l :: r, S, L, a, w, hc, hf, hcl, hS, h => by
    simp only [chk] at hc
    split at hc
    · rename_i L' hL'
      have hf' : r.all Mv.full = true := by simp only [List.all_cons, Bool.and_eq_true] at hf; exact hf.2
      obtain ⟨S', hS', hw, hq⟩ := h
      exact wpAnyN_mono hS' _ _ _ _ (script_F hsel hQ hw l L L' a hL' hcl (fun a' hcl' hK => script_all hsel hQ hN r S' L' a' w hc hf' hcl' (fun _ => hw) hK) hq)
    · cases hc
  | .ps l :: r, S, L, a, w, hc, hf, hcl, hS, h => by
    simp only [chk] at hc
    split at hc
    · rename_i L' hL'
      have hf' : r.all Mv.full = true := by simp only [List.all_cons, Bool.and_eq_true] at hf; exact hf.2
      exact script_P hsel hQ l L L' a hL' hcl hS (fun a' hcl' hS' hK => script_all hsel hQ hN r S L' a' w hc hf' hcl' hS' hK) h
    · cases hc
  | .es l nd :: r, S, L, a, w, hc, hf, hcl, hS, h => by
    simp only [chk] at hc
    split at hc
    · rename_i L' hL'
      simp only [List.all_cons, Bool.and_eq_true, Mv.full, Bool.not_eq_true'] at hf
      exact script_E l L L' a w hL' hcl (by intro e; rw [e] at hf; simp at hf) (fun a' w' hcl' hS' hK => script_all hsel hQ hN r S L' a' w' hc hf.2 hcl' hS' hK) h
    · cases hc

/-- THE RULE: a script that is right (closed facts), the region shown not to panic; the walk goes along the script in the world behind the draw. `F`: the quiet operations, `W`: those of them that read the world. -/
theorem wp_region_script {id : Nat} {a : Act} {w : World} (F W : List Nat) (s : List Mv) (S : World → Prop) (hm : P.follows .mixedOrders = true)
    (hc : (Region.noSelect ops && chk ops F W s (Array.replicate ops.size false) && s.all Mv.full && (s.map Mv.len).sum == ops.size) = true)
    (h : wpS P ops (Q .normal) (NoPanic Q) s S a w.drew) : (Code.region id ops true).wp P Q a w := by
  simp only [Bool.and_eq_true, beq_iff_eq] at hc
  obtain ⟨⟨⟨h1, h2⟩, h3⟩, h4⟩ := hc
  refine wp_region_noPanic (wp_region_any hm (wpAny_of_N (S := S) (F := F) (W := W) _ _ _ _ ?_))
  have h0 : need ops F W (Array.replicate ops.size false) = true → S w.drew := fun hn => by
    unfold need at hn
    obtain ⟨f, _, hf⟩ := List.any_eq_true.1 hn
    have : (Array.replicate ops.size false).getD f false = false := by
      rw [Array.getD_eq_getD_getElem?]
      by_cases hk : f < ops.size <;> simp [hk]
    rw [this] at hf
    cases hf
  have := script_all (P := P) (Q := NoPanic Q) h1 (fun _ _ _ c a v w h => h.elim) (fun a w h => h) s S _ a w.drew h2 h3 (closed_start _) h0 h
  rw [h4] at this
  exact this

/-- THE RULE where a call within the region may panic: `Q` at a panic does not ask for what the region's operations yield. -/
theorem wp_region_script_p {id : Nat} {a : Act} {w : World} (F W : List Nat) (s : List Mv) (S : World → Prop) (hm : P.follows .mixedOrders = true)
    (hQ : ∀ (i : Nat) (o : Oper), ops[i]? = some o → ∀ c a v w, Q (.panic c) (Act.put a o.dst v) w → Q (.panic c) a w)
    (hc : (Region.noSelect ops && chk ops F W s (Array.replicate ops.size false) && s.all Mv.full && (s.map Mv.len).sum == ops.size) = true)
    (h : wpS P ops (Q .normal) Q s S a w.drew) : (Code.region id ops true).wp P Q a w := by
  simp only [Bool.and_eq_true, beq_iff_eq] at hc
  obtain ⟨⟨⟨h1, h2⟩, h3⟩, h4⟩ := hc
  refine wp_region_any hm (wpAny_of_N (S := S) (F := F) (W := W) _ _ _ _ ?_)
  have h0 : need ops F W (Array.replicate ops.size false) = true → S w.drew := fun hn => by
    unfold need at hn
    obtain ⟨f, _, hf⟩ := List.any_eq_true.1 hn
    have : (Array.replicate ops.size false).getD f false = false := by
      rw [Array.getD_eq_getD_getElem?]
      by_cases hk : f < ops.size <;> simp [hk]
    rw [this] at hf
    cases hf
  have := script_all (P := P) (Q := Q) h1 hQ (fun a w h => h) s S _ a w.drew h2 h3 (closed_start _) h0 h
  rw [h4] at this
  exact this

/-- quiet operations, as a list of operations -/
def quietO (P : Program) (ops : Array Oper) (S : World → Prop) : List Oper → (Act → Prop) → Act → Prop
  | [], K, a => K a
  | o :: l, K, a => ∃ v, YieldsIf P ops S o v a ∧ quietO P ops S l K (a.put o.dst v)
theorem quietL_of_O {K : Act → Prop} : ∀ (l : List Nat) (a : Act), l.all (fun i => (ops[i]?).isSome) = true → quietO P ops S (l.map fun i => (ops[i]?).getD default) K a → quietL P ops S l K a
  | [], _, _, h => h
  | i :: l, a, hl, h => by
    simp only [List.all_cons, Bool.and_eq_true] at hl
    obtain ⟨o, ho⟩ := Option.isSome_iff_exists.1 hl.1
    rw [List.map_cons, ho, Option.getD_some] at h
    obtain ⟨v, hy, h⟩ := h
    exact ⟨o, ho, v, hy, quietL_of_O l _ hl.2 h⟩
theorem quietO_cons {l : List Oper} {K : Act → Prop} {a : Act} {o : Oper} (v : Value) (hw : Region.wanted o (yielded ops a.tmps) = true)
    (hr : ∀ w, S w → (execOp a.eval o).run P w = .ok (.value v) w) (h : quietO P ops S l K (a.put o.dst v)) : quietO P ops S (o :: l) K a :=
  ⟨v, .inl ⟨hw, hr⟩, h⟩
theorem quietO_skip {l : List Oper} {K : Act → Prop} {a : Act} {o : Oper} (hw : Region.wanted o (yielded ops a.tmps) = false)
    (h : quietO P ops S l K (a.put o.dst undef)) : quietO P ops S (o :: l) K a :=
  ⟨undef, .inr ⟨hw, rfl⟩, h⟩
theorem quietO_nil {K : Act → Prop} {a : Act} (h : K a) : quietO P ops S [] K a := h
/-- the others, as a list for the walk -/
theorem wpOps_pick : ∀ (l : List Nat) (a : Act) (w : World), l.all (fun i => (ops[i]?).isSome) = true → wpList P ops Q (l.map fun i => (ops[i]?).getD default) a w → wpOps P ops Q l a w
  | [], _, _, _, h => h
  | i :: l, a, w, hl, h => by
    simp only [List.all_cons, Bool.and_eq_true] at hl
    obtain ⟨o, ho⟩ := Option.isSome_iff_exists.1 hl.1
    rw [List.map_cons, ho, Option.getD_some] at h
    simp only [wpOps, ho]
    unfold wpList at h
    split
    · rename_i hw
      rw [if_pos hw] at h
      rcases h with h | h
      · exact .inl (Oper.wp_mono (fun a w h' => wpOps_pick l a w hl.2 h') h)
      · exact .inr h
    · rename_i hw
      rw [if_neg hw] at h
      exact wpOps_pick l _ w hl.2 h

section
variable {QN : Act → World → Prop} {r : List Mv} {l : List Nat} {a : Act} {w : World} {nd : Bool}
theorem wpS_ps (hl : l.all (fun i => (ops[i]?).isSome) = true) (h : ∀ K : Act → Prop, (∀ a', wpS P ops QN Q r S a' w → K a') → quietO P ops (fun _ => True) (l.map fun i => (ops[i]?).getD default) K a) : wpS P ops QN Q (.ps l :: r) S a w :=
  quietL_of_O l a hl (h _ fun _ h => h)
theorem wpS_fs (hl : l.all (fun i => (ops[i]?).isSome) = true) (hS : S w) (h : ∀ K : Act → Prop, (∀ a', wpS P ops QN Q r S a' w → K a') → quietO P ops S (l.map fun i => (ops[i]?).getD default) K a) : wpS P ops QN Q (.fs l :: r) S a w :=
  ⟨S, fun _ h => h, hS, quietL_of_O l a hl (h _ fun _ h => h)⟩
theorem wpS_fx (hl : l.all (fun i => (ops[i]?).isSome) = true) (S' : World → Prop) (hS' : ∀ w, S' w → S w) (hS : S' w) (h : ∀ K : Act → Prop, (∀ a', wpS P ops QN Q r S' a' w → K a') → quietO P ops S' (l.map fun i => (ops[i]?).getD default) K a) : wpS P ops QN Q (.fs l :: r) S a w :=
  ⟨S', hS', hS, quietL_of_O l a hl (h _ fun _ h => h)⟩
theorem wpS_es (hl : l.all (fun i => (ops[i]?).isSome) = true) (h : ∀ K : Act → World → Prop, (∀ a' w', (nd = true → S w') → wpS P ops QN Q r S a' w' → K a' w') → wpList P ops (Exit.then K Q) (l.map fun i => (ops[i]?).getD default) a w) : wpS P ops QN Q (.es l nd :: r) S a w :=
  wpOps_pick l a w hl (h _ fun _ _ h1 h2 => ⟨h1, h2⟩)
theorem wpS_nil (h : QN a w) : wpS P ops QN Q [] S a w := h
end
end
end Go.Proofs.YtnlmdfbjmhcilaaDoor
/-
  Rows of records in memory: a slice of them that reads, one that is owned. For any type of record: how many cells it has, and which.
-/
namespace Go.Proofs.YtnlmdfbjmhcilaaDoor
open Go.RowKit

structure RecT (α : Type) where
  t : TypeId
  n : Nat
  cs : α → List Value
  len : ∀ a, (cs a).length = n
  one : ∀ a, ∀ u ∈ cs a, u.oneCell' = true
  pos : 0 < n

namespace RecT
variable {α : Type} (R : RecT α)

def cells (l : List α) : List Value := l.flatMap R.cs
theorem cells_len : ∀ l : List α, (R.cells l).length = l.length * R.n
  | [] => by simp [cells]
  | j :: l => by
    have := cells_len l
    unfold cells at this ⊢
    rw [List.flatMap_cons, List.length_append, this, R.len, List.length_cons, Nat.succ_mul]; omega
theorem cells_app (l m : List α) : R.cells (l ++ m) = R.cells l ++ R.cells m := by simp [cells]
theorem cells_get : ∀ (l : List α) (i : Nat) (t : α), l[i]? = some t → ∀ k, k < R.n → (R.cells l)[i * R.n + k]? = (R.cs t)[k]?
  | [], i, t, h => by simp at h
  | j :: l, 0, t, h => fun k hk => by
    simp at h; subst h
    unfold cells
    rw [List.flatMap_cons, List.getElem?_append_left (by rw [R.len]; omega), Nat.zero_mul, Nat.zero_add]
  | j :: l, i + 1, t, h => fun k hk => by
    have := cells_get l i t (by simpa using h) k hk
    unfold cells at this ⊢
    rw [List.flatMap_cons, List.getElem?_append_right (by rw [R.len, Nat.succ_mul]; omega), ← this]
    congr 1; rw [R.len, Nat.succ_mul]; omega
theorem cells_one (l : List α) : ∀ u ∈ R.cells l, u.oneCell' = true := by
  intro u hu
  obtain ⟨j, _, hj⟩ := List.mem_flatMap.1 hu
  exact R.one j u hj
theorem cells_split (l : List α) (k : Nat) : R.cells l = R.cells (l.take k) ++ R.cells (l.drop k) := by rw [← cells_app, List.take_append_drop]
theorem cells_take (l : List α) (k : Nat) : (R.cells l).take (k * R.n) = R.cells (l.take k) := by
  by_cases h : k ≤ l.length
  · have hl : (R.cells (l.take k)).length = k * R.n := by rw [cells_len, List.length_take, Nat.min_eq_left h]
    conv => lhs; rw [R.cells_split l k, ← hl]
    exact List.take_left
  · rw [List.take_of_length_le (by rw [cells_len]; exact Nat.mul_le_mul_right _ (by omega)), List.take_of_length_le (by omega)]
theorem cells_drop (l : List α) (k : Nat) : (R.cells l).drop (k * R.n) = R.cells (l.drop k) := by
  by_cases h : k ≤ l.length
  · have hl : (R.cells (l.take k)).length = k * R.n := by rw [cells_len, List.length_take, Nat.min_eq_left h]
    conv => lhs; rw [R.cells_split l k, ← hl]
    exact List.drop_left
  · rw [List.drop_of_length_le (by rw [cells_len]; exact Nat.mul_le_mul_right _ (by omega)), List.drop_of_length_le (by omega)]; rfl

/-- the cells of a record at the place `a` of the block `b` -/
def At (w : World) (b a : Nat) (x : α) : Prop := ∀ k, k < R.n → w.cell? ⟨b, a + k, none⟩ = (R.cs x)[k]?
/-- The slice `v` reads as the records `l`; `g`: the block that is read, if any. -/
def Rd (w : World) (v : Value) (g : Option Nat) (l : List α) : Prop :=
  ∃ A cap, v = .slice A l.length cap ∧ l.length ≤ cap ∧ cap ≤ maxLen ∧ Under w.heap.size g ∧ (0 < l.length → ∃ b off, A = some ⟨b, off, none⟩ ∧ g = some b ∧ ∀ i t, l[i]? = some t → R.At w b (off + i * R.n) t) ∧ (A = none → cap = 0)
/-- ... and is owned: from the beginning of a block of its own on -/
def Row (w : World) (v : Value) (l : List α) : Prop := w.ownsRow 0 R.t R.n v l.length (R.cells l)

variable {R} {w w' : World} {v : Value} {g : Option Nat} {l : List α} {S : Nat → Prop}
theorem At.keep {b a : Nat} {x : α} (h : R.At w b a x) (hk : Keeps S w w') (hb : b < w.heap.size) (hs : ¬ S b) : R.At w' b a x :=
  fun k hk' => (hk.cell (p := ⟨b, a + k, none⟩) hb hs).trans (h k hk')
theorem Rd.keep (h : R.Rd w v g l) (hk : Keeps S w w') (hs : ∀ b, g = some b → ¬ S b) : R.Rd w' v g l := by
  obtain ⟨A, cap, hv, h1, h2, hu, h3, h4⟩ := h
  refine ⟨A, cap, hv, h1, h2, hu.mono hk.size, fun hp => ?_, h4⟩
  obtain ⟨b, off, hA, hg, hc⟩ := h3 hp
  exact ⟨b, off, hA, hg, fun i t hi => (hc i t hi).keep hk (hu b hg) (hs b hg)⟩
theorem Rd.same (h : R.Rd w v g l) (hk : Keeps nowhere w w') : R.Rd w' v g l := h.keep hk (fun _ _ h => h)
theorem Row.keep (h : R.Row w v l) (hk : Keeps S w w') (hs : ∀ b, v.ownBlock = some b → ¬ S b) : R.Row w' v l := own_keep h hk hs
theorem Row.same (h : R.Row w v l) (hk : Keeps nowhere w w') : R.Row w' v l := h.keep hk (fun _ _ h => h)
theorem Row.lt (h : R.Row w v l) : Under w.heap.size v.ownBlock := fun b hb => (World.ownsRow.lt h b hb).2
theorem Row.blk (h : R.Row w v l) : (v = .slice none 0 0 ∧ l = []) ∨ ∃ b cap rest, v = .slice (some ⟨b, 0, none⟩) l.length cap ∧ Blk w b R.t (R.cells l ++ rest).toArray ∧ l.length * R.n + rest.length = cap * R.n ∧ l.length ≤ cap ∧ cap ≤ maxLen := by
  obtain ⟨h1, h2⟩ := h
  rcases h2 with ⟨rfl, h2⟩ | ⟨b, cap, cur, rfl, hb, hg, h3, h4, h5, h6⟩
  · exact .inl ⟨rfl, List.eq_nil_of_length_eq_zero h2⟩
  · refine .inr ⟨b, cap, cur.toList.drop (l.length * R.n), rfl, ?_, ?_, h3, h4⟩
    · rw [← h6, List.take_append_drop]; exact hg
    · have : l.length * R.n ≤ cap * R.n := Nat.mul_le_mul_right _ h3
      rw [List.length_drop, show cur.toList.length = cap * R.n from h5]; omega
theorem Row.of_blk {b cap : Nat} {rest : List Value} (h : Blk w b R.t (R.cells l ++ rest).toArray) (h1 : l.length * R.n + rest.length = cap * R.n) (h2 : cap ≤ maxLen) : R.Row w (.slice (some ⟨b, 0, none⟩) l.length cap) l := by
  refine ⟨R.cells_len l, .inr ⟨b, cap, _, rfl, Nat.zero_le _, h, Nat.le_of_mul_le_mul_right (by omega) R.pos, h2, ?_, ?_⟩⟩
  · simp [R.cells_len]; omega
  · rw [List.take_append_of_le_length (by rw [R.cells_len]; exact Nat.le_refl _), List.take_of_length_le (by rw [R.cells_len]; exact Nat.le_refl _)]
theorem Row.rd (h : R.Row w v l) : R.Rd w v v.ownBlock l := by
  rcases h.blk with ⟨rfl, rfl⟩ | ⟨b, cap, rest, rfl, hb, h1, h2, h3⟩
  · exact ⟨none, 0, rfl, Nat.le_refl _, Nat.zero_le _, Under.none _, fun hp => absurd hp (by simp), fun _ => rfl⟩
  · refine ⟨_, cap, rfl, h2, h3, fun b' hb' => (by cases hb'; exact hb.lt), fun _ => ⟨b, 0, rfl, rfl, fun i t hi k hk => ?_⟩, fun h => by cases h⟩
    have hil : i < l.length := (List.getElem?_eq_some_iff.1 hi).1
    have hlt : i * R.n + k < l.length * R.n := by
      have : (i + 1) * R.n ≤ l.length * R.n := Nat.mul_le_mul_right _ hil
      rw [Nat.succ_mul] at this; omega
    rw [Nat.zero_add, hb.cell, List.getElem?_toArray, List.getElem?_append_left (by rw [R.cells_len]; exact hlt), R.cells_get l i t hi k hk]
theorem Rd.nil (R : RecT α) (w : World) : R.Rd w (.slice none 0 0) none [] := ⟨none, 0, rfl, Nat.le_refl _, Nat.zero_le _, Under.none _, fun hp => absurd hp (by simp), fun _ => rfl⟩
theorem Row.nil (R : RecT α) (w : World) : R.Row w (.slice none 0 0) [] := ⟨by simp [cells], .inl ⟨rfl, rfl⟩⟩
theorem Row.empty (R : RecT α) (w : World) : R.Row (w.alloc (.cells #[] R.t)) (.slice (some ⟨w.heap.size, 0, none⟩) 0 0) [] := by
  have := World.ownsRow_made (e := R.t) (size := R.n) w #[] 0 (Nat.zero_le _) (Nat.zero_le _) (by simp)
  simpa [Row, cells] using this
theorem Row.form (h : R.Row w v l) : ∃ A c, v = .slice A l.length c ∧ l.length ≤ c ∧ c ≤ maxLen ∧ (A = none → c = 0) := by
  obtain ⟨A, cap, hv, h1, h2, -, -, h4⟩ := h.rd
  exact ⟨A, cap, hv, h1, h2, h4⟩
theorem Row.at_ {b cap n : Nat} (hr : R.Row w (.slice (some ⟨b, 0, none⟩) n cap) l) {j : Nat} {t : α} (ht : l[j]? = some t) : R.At w b (j * R.n) t := by
  obtain ⟨A, c, hv, _, _, _, h3, _⟩ := hr.rd
  have hp : 0 < l.length := by have := (List.getElem?_eq_some_iff.1 ht).1; omega
  obtain ⟨b', off, hA, _, hc⟩ := h3 hp
  injection hv with ha _ _
  rw [hA] at ha
  injection ha with ha
  injection ha with ha hb
  subst ha hb
  have := hc j t ht
  rwa [Nat.zero_add] at this
theorem Row.take {b cap : Nat} (hr : R.Row w (.slice (some ⟨b, 0, none⟩) l.length cap) l) {i : Nat} (hi : i ≤ l.length) : R.Row w (.slice (some ⟨b, 0, none⟩) (l.take i).length cap) (l.take i) := by
  rcases hr.blk with ⟨h, _⟩ | ⟨b', cap', rest, hv, hb, h1, h2, h3⟩
  · cases h
  · injection hv with ha _ hc
    injection ha with ha
    injection ha with ha
    subst ha hc
    have hti : (l.take i).length = i := by simp; omega
    refine Row.of_blk (rest := R.cells (l.drop i) ++ rest) ?_ ?_ h3
    · rw [← List.append_assoc, ← R.cells_split]; exact hb
    · rw [List.length_append, R.cells_len, List.length_drop, hti, ← h1, Nat.sub_mul, ← Nat.add_assoc]
      have : i * R.n ≤ l.length * R.n := Nat.mul_le_mul_right _ hi
      omega
/-- `x[:k]`, `x[k:]` of a slice that reads -/
theorem Rd.take {A : Option Addr} {n cap : Nat} (h : R.Rd w (.slice A n cap) g l) (k : Nat) (hk : k ≤ l.length) : R.Rd w (.slice A k cap) g (l.take k) := by
  obtain ⟨A', cap', hv, h1, h2, hu, h3, h4⟩ := h
  injection hv with ha hn hc
  subst ha hc
  have hl : (l.take k).length = k := by simp; omega
  refine ⟨_, _, by rw [hl], by omega, h2, hu, fun hp => ?_, h4⟩
  obtain ⟨b, off, hA, hg, hc⟩ := h3 (by omega)
  refine ⟨b, off, hA, hg, fun i t hi => hc i t ?_⟩
  rw [List.getElem?_take] at hi
  split at hi
  · exact hi
  · cases hi
theorem Rd.drop {b off n cap : Nat} (h : R.Rd w (.slice (some ⟨b, off, none⟩) n cap) g l) (k : Nat) (hk : k ≤ l.length) : R.Rd w (.slice (some ⟨b, off + k * R.n, none⟩) (n - k) (cap - k)) g (l.drop k) := by
  obtain ⟨A', cap', hv, h1, h2, hu, h3, h4⟩ := h
  injection hv with ha hn hc
  subst ha hc
  refine ⟨_, cap - k, by rw [List.length_drop, ← hn], by rw [List.length_drop]; omega, by omega, hu, fun hp => ?_, fun h => by cases h⟩
  rw [List.length_drop] at hp
  obtain ⟨b', off', hA, hg, hc⟩ := h3 (by omega)
  injection hA with hA
  injection hA with hb ho
  subst hb ho
  refine ⟨b, _, rfl, hg, fun i t hi => ?_⟩
  rw [List.getElem?_drop] at hi
  have := hc _ t hi
  rwa [Nat.add_mul, ← Nat.add_assoc] at this
/-- a record in a block of its own, as buildSlice lays it -/
theorem Rd.one (R : RecT α) (w : World) (j : α) : R.Rd (w.alloc (.cells (R.cs j).toArray R.t)) (.slice (some ⟨w.heap.size, 0, none⟩) 1 1) (some w.heap.size) [j] := by
  have h := Blk.new w R.t (R.cs j).toArray
  refine ⟨_, 1, rfl, Nat.le_refl _, by decide, fun b hb => (by cases hb; exact h.lt), fun _ => ⟨w.heap.size, 0, rfl, rfl, fun i t hi k hk => ?_⟩, fun h => by cases h⟩
  have : i = 0 := by have := (List.getElem?_eq_some_iff.1 hi).1; simp at this; exact this
  subst this
  simp at hi
  subst hi
  rw [h.cell]
  simp

theorem Rd.cells_ {b off cap : Nat} (h : R.Rd w (.slice (some ⟨b, off, none⟩) l.length cap) g l) : ∀ j u, (R.cells l)[j]? = some u → w.cell? ((⟨b, off, none⟩ : Addr).add j) = some u := by
  intro j u hj
  have hjl : j < l.length * R.n := by have := (List.getElem?_eq_some_iff.1 hj).1; rwa [R.cells_len] at this
  have hq : j / R.n < l.length := (Nat.div_lt_iff_lt_mul R.pos).2 hjl
  obtain ⟨t, ht⟩ : ∃ t, l[j / R.n]? = some t := ⟨_, List.getElem?_eq_getElem hq⟩
  have hm := Nat.mod_lt j R.pos
  have hjj : j / R.n * R.n + j % R.n = j := by rw [Nat.mul_comm]; exact Nat.div_add_mod j R.n
  have hg := R.cells_get l (j / R.n) t ht (j % R.n) hm
  rw [hjj, hj] at hg
  obtain ⟨A, cap', hv, _, _, _, h3⟩ := h
  obtain ⟨b', off', hA, _, hc⟩ := h3.1 (Nat.lt_of_le_of_lt (Nat.zero_le _) hq)
  injection hv with ha hn hc'
  subst ha
  injection hA with hA
  injection hA with hb ho
  subst hb ho
  have := hc _ t ht (j % R.n) hm
  rw [Addr.add_lit, hg, ← this, Nat.add_assoc, hjj]

/-- append onto an owned row -/
theorem run_append {P : Program} {ts ty : TypeId} {z : Value} {by_ : Nat} (ht : P.underlying ts = some (.slice R.t)) (hinfo : (P.info? R.t).map (fun i => (i.zero, i.size, i.bytes)) = some (some z, R.n, by_)) (hz : z.cells.size = R.n) (hby : by_ ≤ 1000000)
    (hown : R.Row w v l) {vx : Value} {gx : Option Nat} {m : List α} (hr : R.Rd w vx gx m) (hb : l.length + m.length ≤ 100000000) :
    ∃ v' w', (Builtin.append_ #[ts, ts] ty #[v, vx]).run P w = .ok v' w' ∧ R.Row w' v' (l ++ m) ∧ w.grownBy w' v.ownBlock ∧ From v.ownBlock w.heap.size v'.ownBlock := by
  obtain ⟨i0, hi, hz0, hz1, hz2⟩ := info_parts hinfo
  have hbb : (l.length + m.length) * by_ ≤ 140737488355328 := Nat.le_trans (Nat.mul_le_mul hb hby) (by decide)
  by_cases hm : m = []
  · subst hm
    obtain ⟨A, cap, rfl, h1, h2, _, h3⟩ := hr
    cases A with
    | none =>
      obtain rfl : cap = 0 := by obtain ⟨-, h⟩ := h3; exact h rfl
      refine ⟨v, w, run_append_owned_none (P := P) (w := w) 0 ts ty R.t i0 R.n ht hi v l.length (R.cells l) hown, by rw [List.append_nil]; exact hown, World.grownBy.refl w _, From.refl _ _⟩
    | some a =>
      obtain ⟨v', w', hrun, h2, h3, _, h5⟩ := run_append_own_at (P := P) w 0 ts ty R.t i0 _ R.n by_ ht hi hz0 hz1 hz2 hz R.pos v l.length (R.cells l) hown a 0 cap [] (by simp)
        (fun j u hj => by simp at hj) (fun u hu => by simp at hu) (by unfold maxLen; simp at hb; omega) (by simpa using hbb) (Nat.zero_le _)
      refine ⟨v', w', hrun, by simpa [Row] using h2, h3, fun b hb => h5.elim (fun e => .inl (by rw [← e, hb])) (fun e => .inr (by rw [hb] at e; injection e with e; omega))⟩
  · have hp : 0 < m.length := List.length_pos_iff.2 hm
    have hr' := hr
    obtain ⟨A, cap, rfl, h1, h2, _, h3, _⟩ := hr
    obtain ⟨b, off, rfl, _, _⟩ := h3 hp
    obtain ⟨v', w', hrun, h2, h3, _, h5⟩ := run_append_own_at (P := P) w 0 ts ty R.t i0 _ R.n by_ ht hi hz0 hz1 hz2 hz R.pos v l.length (R.cells l) hown ⟨b, off, none⟩ m.length cap (R.cells m) (R.cells_len m)
      hr'.cells_ (R.cells_one m) (by unfold maxLen; omega) hbb (Nat.zero_le _)
    refine ⟨v', w', hrun, ?_, h3, fun b hb => h5.elim (fun e => .inl (by rw [← e, hb])) (fun e => .inr (by rw [hb] at e; injection e with e; omega))⟩
    unfold Row
    rw [R.cells_app, List.length_append]
    exact h2
theorem wpList_append {P : Program} {ops : Array Oper} {rest : List Oper} {o : Oper} {a : Act} {Q : Exit → Act → World → Prop} {ts : TypeId} {z : Value} {by_ : Nat}
    (ht : P.underlying ts = some (.slice R.t)) (hinfo : (P.info? R.t).map (fun i => (i.zero, i.size, i.bytes)) = some (some z, R.n, by_)) (hz : z.cells.size = R.n) (hby : by_ ≤ 1000000)
    (hgd : o.guard = none) (s x : Operand) (ho : o.op = .call { callee := .builtin .append, args := #[s, x], argTypes := #[ts, ts] })
    (v : Value) (l : List α) (hs : a.eval s = v) (hown : R.Row w v l) (vx : Value) (gx : Option Nat) (m : List α) (hx : a.eval x = vx) (hr : R.Rd w vx gx m) (hb : l.length + m.length ≤ 100000000)
    (h : ∀ v' w', R.Row w' v' (l ++ m) → Keeps (fun b => v.ownBlock = some b) w w' → From v.ownBlock w.heap.size v'.ownBlock → wpList P ops Q rest (a.put o.dst v') w') : wpList P ops Q (o :: rest) a w :=
  wpList_plain hgd fun K hK => by
    obtain ⟨v', w', hrun, h2, h3, h4⟩ := run_append (ty := o.type) ht hinfo hz hby hown hr hb
    unfold Oper.wp execOp
    simp only [ho, resolve, invoke, builtin, Sem.run_bind, Sem.run_pure, Result.andThen_ok, List.map_toArray, List.map_cons, List.map_nil, hs, hx, hrun]
    exact hK _ _ (h v' w' h2 ((Keeps.refl _ w).grown h3 (fun _ h _ => h)) h4)

/-- a list with some of its elements put anew -/
def sets : List Value → Nat → List Value → List Value
  | L, _, [] => L
  | L, o, u :: us => sets (L.set o u) (o + 1) us
theorem sets_app : ∀ (us A B C : List Value), B.length = us.length → sets (A ++ B ++ C) A.length us = A ++ us ++ C
  | [], A, B, C, h => by
    have : B = [] := List.eq_nil_of_length_eq_zero h
    subst this; simp [sets]
  | u :: us, A, [], C, h => by simp at h
  | u :: us, A, b :: B, C, h => by
    have := sets_app us (A ++ [u]) B C (by simpa using h)
    rw [sets, show ((A ++ b :: B ++ C).set A.length u) = (A ++ [u]) ++ B ++ C by simp, show A.length + 1 = (A ++ [u]).length by simp, this]
    simp
theorem blk_sets {b : Nat} {T : TypeId} : ∀ (us : List Value) (o : Nat) (w : World) (L : List Value), Blk w b T L.toArray → Blk (w.setCells b o us) b T (sets L o us).toArray ∧ Keeps (only b) w (w.setCells b o us)
  | [], o, w, L, h => ⟨h, Keeps.refl _ _⟩
  | u :: us, o, w, L, h => by
    have h1 := h.set_ o u
    rw [List.setIfInBounds_toArray] at h1
    obtain ⟨h2, h3⟩ := blk_sets us (o + 1) (w.setCell ⟨b, o, none⟩ u) _ h1
    exact ⟨h2, ((Keeps.refl (only b) w).setCell (p := ⟨b, o, none⟩) (fun _ => rfl) u).trans h3 (fun _ _ h => h)⟩
theorem cells_set (R : RecT α) (l : List α) (i : Nat) (t : α) (hi : i < l.length) (rest : List Value) : sets (R.cells l ++ rest) (i * R.n) (R.cs t) = R.cells (l.set i t) ++ rest := by
  have h1 : R.cells l = R.cells (l.take i) ++ R.cs l[i] ++ R.cells (l.drop (i + 1)) := by
    have e : l = l.take i ++ l[i] :: l.drop (i + 1) := by rw [← List.drop_eq_getElem_cons hi, List.take_append_drop]
    exact (congrArg R.cells e).trans (by rw [cells_app]; simp only [cells, List.flatMap_cons, List.append_assoc])
  have h2 : R.cells (l.set i t) = R.cells (l.take i) ++ R.cs t ++ R.cells (l.drop (i + 1)) := by
    rw [List.set_eq_take_append_cons_drop, if_pos hi, cells_app]
    simp [cells]
  have hl : (R.cells (l.take i)).length = i * R.n := by rw [cells_len, List.length_take, Nat.min_eq_left (by omega)]
  rw [h1, h2, ← hl, List.append_assoc, sets_app _ _ _ _ (by rw [R.len, R.len])]
  simp
/-- a record is stored into a row -/
theorem Row.store {b cap : Nat} (hr : R.Row w (.slice (some ⟨b, 0, none⟩) l.length cap) l) {i : Nat} (hi : i < l.length) (t : α) :
    (∀ k, k < R.n → (∃ u, w.cell? ⟨b, i * R.n + k, none⟩ = some u) ∧ w.frozen? ⟨b, i * R.n + k, none⟩ = false) ∧
    R.Row (w.setCells b (i * R.n) (R.cs t)) (.slice (some ⟨b, 0, none⟩) l.length cap) (l.set i t) ∧ Keeps (only b) w (w.setCells b (i * R.n) (R.cs t)) := by
  rcases hr.blk with ⟨h, _⟩ | ⟨b', cap', rest, hv, hb, h1, h2, h3⟩
  · cases h
  · injection hv with ha _ hc
    injection ha with ha
    injection ha with ha
    subst ha hc
    obtain ⟨h4, h5⟩ := blk_sets (R.cs t) (i * R.n) w _ hb
    rw [cells_set R l i t hi] at h4
    refine ⟨fun k hk => ⟨?_, hb.frozen _⟩, ?_, h5⟩
    · refine ⟨_, (hb.cell _).trans (Array.getElem?_eq_getElem ?_)⟩
      have : (i + 1) * R.n ≤ l.length * R.n := Nat.mul_le_mul_right _ hi
      rw [Nat.succ_mul] at this
      simp [R.cells_len]; omega
    · have := Row.of_blk (l := l.set i t) h4 (by rw [List.length_set]; exact h1) h3
      rwa [List.length_set] at this
theorem zeroCells_mem {cs : Array Value} (h : ∀ u ∈ cs.toList, u.oneCell' = true) (n : Nat) : ∀ v ∈ (Builtin.zeroCells cs n).toList, v.oneCell' = true := by
  intro v hv
  unfold Builtin.zeroCells at hv
  rw [Array.toList_map] at hv
  obtain ⟨i, hi, rfl⟩ := List.mem_map.1 hv
  rw [Array.toList_range, List.mem_range] at hi
  have hs : 0 < cs.size := Nat.pos_of_ne_zero fun e => by rw [e] at hi; omega
  have hlt := Nat.mod_lt i hs
  rw [getElem!_pos cs (i % cs.size) hlt]
  exact h _ (by simp)
/-- what lies behind a row is cleared -/
theorem Row.clear {P : Program} {ts : TypeId} {z : Value} (ht : P.underlying ts = some (.slice R.t)) (hzv : ∀ w, (zeroValue R.t).run P w = .ok z w) (hz : z.cells.size = R.n) (hz1 : ∀ u ∈ z.cells.toList, u.oneCell' = true)
    (b cap n c : Nat) (hr : R.Row w (.slice (some ⟨b, 0, none⟩) l.length cap) l) (hn : 0 < n) (hle : l.length + n ≤ cap) :
    ∃ w', (∀ ty, (Builtin.clear_ #[ts] ty #[.slice (some ⟨b, l.length * R.n, none⟩) n c]).run P w = .ok (.tuple #[]) w') ∧ R.Row w' (.slice (some ⟨b, 0, none⟩) l.length cap) l ∧ Keeps (only b) w w' := by
  rcases hr.blk with ⟨h, _⟩ | ⟨b', cap', rest, hv, hb, h1, h2, h3⟩
  · cases h
  · injection hv with ha _ hc
    injection ha with ha
    injection ha with ha
    subst ha hc
    obtain ⟨Z, hZ⟩ : ∃ Z, Z = (Builtin.zeroCells z.cells n).toList := ⟨_, rfl⟩
    have hZl : Z.length = n * R.n := by rw [hZ, Array.length_toList, size_zeroCells, hz]
    have hmul : (l.length + n) * R.n ≤ cap * R.n := Nat.mul_le_mul_right _ hle
    rw [Nat.add_mul] at hmul
    have hsz : (R.cells l ++ rest).toArray.size = cap * R.n := by simp [R.cells_len]; omega
    have hcell : ∀ j, j < Z.length → (w.cell? ⟨b, l.length * R.n + j, none⟩).isSome = true := fun j hj => by
      rw [hb.cell, Array.getElem?_eq_getElem (by rw [hsz]; omega)]; rfl
    have hst := run_storeCells_cells (P := P) b (l.length * R.n) Z 0 w (by simpa using hcell) (fun j _ => by simpa using hb.frozen _) (by
      intro v hv
      rw [hZ] at hv
      exact zeroCells_mem hz1 n v hv)
    simp only [Nat.add_zero] at hst
    obtain ⟨h4, h7⟩ := blk_sets Z (l.length * R.n) w _ hb
    refine ⟨w.setCells b (l.length * R.n) Z, fun ty => ?_, ?_, h7⟩
    · obtain ⟨m, rfl⟩ : ∃ m, n = m + 1 := ⟨n - 1, by omega⟩
      simp [Builtin.clear_, run_underlying ht, hzv, ← hZ, hst]
    · have hres : sets (R.cells l ++ rest) (l.length * R.n) Z = R.cells l ++ (Z ++ rest.drop Z.length) := by
        rw [← R.cells_len]
        have e : R.cells l ++ rest = R.cells l ++ rest.take Z.length ++ rest.drop Z.length := by rw [List.append_assoc, List.take_append_drop]
        rw [e, sets_app _ _ _ _ (by rw [List.length_take]; omega), List.append_assoc]
      rw [hres] at h4
      refine Row.of_blk h4 ?_ h3
      rw [List.length_append, List.length_drop]
      omega
end RecT
end Go.Proofs.YtnlmdfbjmhcilaaDoor
/-
  Lists that are searched and sifted. Plain words.
-/
namespace Go.Proofs.YtnlmdfbjmhcilaaDoor
open Go.RowKit

section
variable {α : Type}
/-- the first place with `p`, or -1 -/
def idxR (p : α → Bool) (l : List α) : Int := match l.findIdx? p with | some i => (i : Nat) | none => -1
theorem idxR_some {p : α → Bool} {l : List α} {i : Nat} (hi : i < l.length) (hp : p l[i] = true) (hn : ∀ j (hj : j < i), p (l[j]'(by omega)) = false) : idxR p l = i := by
  have : l.findIdx? p = some i := List.findIdx?_eq_some_iff_getElem.2 ⟨hi, hp, fun j hj => by rw [hn j hj]; simp⟩
  unfold idxR; rw [this]
theorem idxR_none {p : α → Bool} {l : List α} (h : ∀ t ∈ l, p t = false) : idxR p l = -1 := by
  have : l.findIdx? p = none := List.findIdx?_eq_none_iff.2 h
  unfold idxR; rw [this]
theorem idxR_cases (p : α → Bool) (l : List α) : (idxR p l = -1 ∧ ∀ t ∈ l, p t = false) ∨ ∃ i : Nat, ∃ hi : i < l.length, idxR p l = i ∧ p l[i] = true ∧ ∀ j (hj : j < i), p (l[j]'(by omega)) = false := by
  cases h : l.findIdx? p with
  | none => exact .inl ⟨by unfold idxR; rw [h], List.findIdx?_eq_none_iff.1 h⟩
  | some i =>
    obtain ⟨h1, h2, h3⟩ := List.findIdx?_eq_some_iff_getElem.1 h
    exact .inr ⟨i, h1, by unfold idxR; rw [h], h2, fun j hj => by have := h3 j hj; simpa using this⟩
theorem idxR_any (p : α → Bool) (l : List α) : decide (0 ≤ idxR p l) = l.any p := by
  rcases idxR_cases p l with ⟨h, hn⟩ | ⟨i, hi, h, hp, -⟩
  · rw [h, List.any_eq_false.2 (fun x hx => by rw [hn x hx]; simp)]; rfl
  · rw [h, List.any_eq_true.2 ⟨l[i], List.getElem_mem _, hp⟩]; simp

/-- the row while it is sifted: the first `i` are those that stay of the first `j`, from `j` on all is as it was -/
structure SiftR (p : α → Bool) (l l' : List α) (i j : Nat) : Prop where
  len : l'.length = l.length
  jl : j ≤ l.length
  ij : i < j
  head : l'.take i = (l.take j).filter fun x => !p x
  tail : l'.drop j = l.drop j
theorem SiftR.start {p : α → Bool} {l : List α} {i : Nat} (hi : i < l.length) (hp : p l[i] = true) (hn : ∀ j (hj : j < i), p (l[j]'(by omega)) = false) : SiftR p l l i (i + 1) := by
  refine ⟨rfl, hi, by omega, ?_, rfl⟩
  rw [List.take_succ_eq_append_getElem hi, List.filter_append]
  have h1 : (l.take i).filter (fun x => !p x) = l.take i := by
    rw [List.filter_eq_self]
    intro x hx
    obtain ⟨j, hj, rfl⟩ := List.getElem_of_mem hx
    have : j < i := by simp at hj; omega
    rw [List.getElem_take, hn j this]; rfl
  rw [h1]
  simp [hp]
theorem SiftR.get {p : α → Bool} {l l' : List α} {i j : Nat} (h : SiftR p l l' i j) (hj : j < l.length) : l'[j]? = some l[j] := by
  have := congrArg (fun x => x[0]?) h.tail
  simp only [List.getElem?_drop, Nat.add_zero] at this
  rw [this]; exact List.getElem?_eq_getElem hj
theorem SiftR.skip {p : α → Bool} {l l' : List α} {i j : Nat} (h : SiftR p l l' i j) (hj : j < l.length) (hp : p l[j] = true) : SiftR p l l' i (j + 1) := by
  refine ⟨h.len, hj, by have := h.ij; omega, ?_, ?_⟩
  · rw [h.head, List.take_succ_eq_append_getElem hj, List.filter_append]; simp [hp]
  · rw [← List.drop_drop, h.tail, List.drop_drop]
theorem SiftR.keep {p : α → Bool} {l l' : List α} {i j : Nat} (h : SiftR p l l' i j) (hj : j < l.length) (hp : p l[j] = false) : SiftR p l (l'.set i l[j]) (i + 1) (j + 1) := by
  have hij := h.ij
  have hl := h.len
  have hil : i < (l'.set i l[j]).length := by rw [List.length_set]; omega
  refine ⟨by rw [List.length_set]; exact hl, hj, by omega, ?_, ?_⟩
  · rw [List.take_succ_eq_append_getElem hil, List.take_set_of_le (Nat.le_refl i), h.head, List.take_succ_eq_append_getElem hj, List.filter_append, List.getElem_set_self]
    simp [hp]
  · rw [List.drop_set_of_lt (by omega), ← List.drop_drop, h.tail, List.drop_drop]
theorem SiftR.last {p : α → Bool} {l l' : List α} {i j : Nat} (h : SiftR p l l' i j) (hj : j = l.length) : l'.take i = l.filter (fun x => !p x) ∧ i < l.length := by
  subst hj
  exact ⟨by rw [h.head, List.take_length], h.ij⟩
theorem filterR_all {p : α → Bool} {l : List α} (h : ∀ t ∈ l, p t = false) : l.filter (fun x => !p x) = l := by
  rw [List.filter_eq_self]; intro x hx; rw [h x hx]; rfl
theorem filter_take_succ {l : List α} {k : Nat} {x : α} (hx : l[k]? = some x) (p : α → Bool) : (l.take (k + 1)).filter p = (l.take k).filter p ++ (if p x = true then [x] else []) := by
  obtain ⟨hk, rfl⟩ := List.getElem?_eq_some_iff.1 hx
  rw [List.take_succ_eq_append_getElem hk, List.filter_append]
  congr 1
  cases h : p l[k] <;> simp [h]
/-- a predicate, a function with what it holds, that may lay blocks of its own and reads nothing of the block `b` -/
def PredR (val : α → Value) (g : Nat) (lb : Array Value) (p : α → Bool) (b : Nat) (w : World) : Prop :=
  ∀ (W : World) (j : α), Keeps (only b) w W → Calls Tryd.prog g (#[val j] ++ lb) W fun e w' => e = .returned (.bool (p j)) ∧ Keeps nowhere W w'
end
def RetInt (i : Int) (w : World) : Ending → World → Prop := fun e w' => e = .returned (.int .i64 i) ∧ Keeps nowhere w w'
def RetBool (b : Bool) (w : World) : Ending → World → Prop := fun e w' => e = .returned (.bool b) ∧ Keeps nowhere w w'
end Go.Proofs.YtnlmdfbjmhcilaaDoor
/-
  The conversion of bytes to a string, at any slice that reads.
-/
namespace Go.Proofs.YtnlmdfbjmhcilaaDoor
open Go.RowKit

def strOf (L : List UInt8) : ByteArray := ⟨L.toArray⟩
theorem strOf_inj {L M : List UInt8} : strOf L = strOf M ↔ L = M := by
  unfold strOf
  constructor
  · intro h; injection h with h; simpa using congrArg Array.toList h
  · rintro rfl; rfl

theorem strOf_toList (L : List UInt8) : (strOf L).toList = L := by
  rw [ByteArray.toList_eq]
  simp [strOf]
theorem strOf_eq {L M : List UInt8} (h : L = M) : ((strOf L).toList == M) = true := by rw [strOf_toList, h]; simp
theorem strOf_beq {L M : List UInt8} (h : L = M) : ((strOf L).toList == (strOf M).toList) = true := by rw [h]; simp

set_option maxRecDepth 20000 in
theorem conv_str (v : Value) (g : Option Nat) (L : List UInt8) (w : World) (hr : Rd w v g (L.map bv)) : (convert 25 9 v).run Tryd.prog w = .ok (.string (strOf L)) w := by
  by_cases hL : L = []
  · subst hL
    obtain ⟨A, c, rfl, _⟩ := hr.form
    cases A with
    | none => exact run_convert_bytes_nil w 25 5 Tryd.underlying25 Tryd.underlying5 0 c _ Tryd.underlying9
    | some a =>
      have hl : (loadCells a 0).run Tryd.prog w = .ok (([] : List Int).map (Value.int .u8)).toArray w := run_loadCells_list w a [] (fun j v h => by simp at h)
      simp only [List.map_nil, List.length_nil]
      rw [run_convert_bytes_string w 25 9 5 _ 0 c Tryd.underlying25 Tryd.underlying5 Tryd.underlying9, run_bytesToString w _ 0 c [] hl]
      rfl
  · obtain ⟨b, off, cap, rfl, _, _, h1, h2, hc⟩ := hr.plain (by simpa using List.length_pos_iff.2 hL)
    rw [List.length_map]
    have h := run_convert_bytes_arg w 25 5 Tryd.underlying25 Tryd.underlying5 b off L.length cap (L.map fun x => (x.toNat : Int)) (by simp) (fun i hi => ?_) _ Tryd.underlying9
    · rw [h]
      congr 2
      unfold strOfNums strOf
      congr 2
      rw [List.map_map]
      conv => rhs; rw [← List.map_id L]
      apply List.map_congr_left
      intro a _
      simp
    · rw [hc i (bv (L[i])) (get_bv L i hi)]
      simp [bv, hi]
end Go.Proofs.YtnlmdfbjmhcilaaDoor
/-
  Rows of strings.
-/
namespace Go.Proofs.YtnlmdfbjmhcilaaDoor
open Go.RowKit
def recStr : RecT (List UInt8) := ⟨9, 1, fun L => [.string (strOf L)], fun _ => rfl, fun _ u hu => by rw [List.mem_singleton.1 hu]; rfl, by decide⟩
theorem infoStr : (Tryd.prog.info? 9).map (fun i => (i.zero, i.size, i.bytes)) = some (some (.string ⟨#[]⟩), 1, 16) := by kernel_rfl
def NotS (w : World) (k : Nat) : Prop := ∀ cs T fr, w.heap[k]? = some (.cells cs T fr) → T ≠ 9
theorem row_notS {w : World} {v : Value} {l : List (List UInt8)} (h : recStr.Row w v l) {k : Nat} (hk : NotS w k) : v.ownBlock ≠ some k := by
  intro e
  rcases h.blk with ⟨rfl, -⟩ | ⟨b', c, rest, rfl, hb2, -⟩
  · simp [Value.ownBlock] at e
  · simp only [Value.ownBlock, Option.some.injEq] at e
    subst e
    exact hk _ _ _ hb2 rfl
theorem notS_blk {w : World} {q : Nat} {T : TypeId} {cs : Array Value} (h : Blk w q T cs) (h1 : T ≠ 9) : NotS w q := fun cs2 T2 fr hh => by
  unfold Blk at h
  rw [h] at hh
  injection hh with hh
  injection hh with _ hh
  rw [← hh]; exact h1
theorem setSt {w : World} {b n cap : Nat} {L : List (List UInt8)} (h : recStr.Row w (.slice (some ⟨b, 0, none⟩) n cap) L) (hn : n = L.length) {i : Nat} (hi : i < n) (x : List UInt8) :
    (∃ u, w.cell? ⟨b, i, none⟩ = some u) ∧ w.frozen? ⟨b, i, none⟩ = false ∧ recStr.Row (w.setCell ⟨b, i, none⟩ (.string (strOf x))) (.slice (some ⟨b, 0, none⟩) n cap) (L.set i x) ∧ Keeps (only b) w (w.setCell ⟨b, i, none⟩ (.string (strOf x))) := by
  subst hn
  obtain ⟨h1, h2, h3⟩ := h.store hi x
  obtain ⟨h4, h5⟩ := h1 0 (by decide)
  have ew : w.setCells b (i * recStr.n) (recStr.cs x) = w.setCell ⟨b, i, none⟩ (.string (strOf x)) := by show w.setCell ⟨b, i * 1, none⟩ _ = _; rw [Nat.mul_one]
  rw [ew] at h2 h3
  rw [Nat.add_zero, show i * recStr.n = i from Nat.mul_one i] at h4 h5
  exact ⟨h4, h5, h2, h3⟩
theorem rdSt_cell {w : World} {A : Option Addr} {n c : Nat} {g : Option Nat} {L : List (List UInt8)} (h : recStr.Rd w (.slice A n c) g L) {i : Nat} {x : List UInt8} (hx : L[i]? = some x) : ∃ b o, A = some ⟨b, o, none⟩ ∧ w.cell? ⟨b, o + i, none⟩ = some (.string (strOf x)) := by
  obtain ⟨A', c', hv, -, -, -, h3, -⟩ := h
  injection hv with h1 _ _
  obtain ⟨b, o, hA, -, hc⟩ := h3 (by have := (List.getElem?_eq_some_iff.1 hx).1; omega)
  refine ⟨b, o, h1.trans hA, ?_⟩
  have := hc i x hx 0 (by decide)
  rw [show i * recStr.n = i from Nat.mul_one i] at this
  simpa [recStr] using this
end Go.Proofs.YtnlmdfbjmhcilaaDoor
/-
  slices of strings: Index, Contains, Clone.
-/
namespace Go.Proofs.YtnlmdfbjmhcilaaDoor
open Go.RowKit Go.Proofs
attribute [local go_sem] strOf_toList

theorem atSt {w : World} {b a : Nat} {x : List UInt8} (h : recStr.At w b a x) : w.cell? ⟨b, a, none⟩ = some (.string (strOf x)) := h 0 (by decide)
set_option maxHeartbeats 1000000 in
theorem sindex_any (v : Value) (gb : Option Nat) (l : List (List UInt8)) (x : List UInt8) (w : World) (hr : recStr.Rd w v gb l) (hl : l.length ≤ 9223372036854775807) :
    Calls Tryd.prog 96 #[v, .string (strOf x)] w (RetInt (idxR (fun y => y == x) l) w) := by
  obtain ⟨A, cap, rfl, h1, h2, hu, h3, -⟩ := hr
  obtain ⟨L, hL⟩ : ∃ L, L = l.length := ⟨_, rfl⟩
  rw [← hL] at hl ⊢
  have H3 := Lib.hid h3
  have Hu := Lib.hid hu
  have HL := Lib.hid hL
  clear h3 hu hL
  go_enter Tryd.func96, Tryd.ntmps96
  go_wp2_with fail
  go_loopw [8] (fun iv wr => ∃ i : Nat, iv = .int .i64 i ∧ i ≤ L ∧ Keeps nowhere w wr ∧ ∀ j t, j < i → l[j]? = some t → (t == x) = false) (fun iv _ => L - (intOf iv).toNat)
  case atStart => exact ⟨0, rfl, Nat.zero_le _, Keeps.refl _ _, fun j t hj => absurd hj (by omega)⟩
  case round =>
    obtain ⟨i, rfl, hi, hk, hno⟩ := hrel
    by_cases hlt : i < L
    · have hltI : (i : Int) < L := by omega
      have hi0 : (0 : Int) ≤ (i : Int) := by omega
      have hi1 : IntKind.i64.wrap ((i : Int) + 1) = i + 1 := IntWalk.i64_in _ (by omega)
      obtain ⟨b, off, rfl, hg, hc⟩ := H3.out (by rw [← HL.out]; omega)
      have hil : i < l.length := by rw [← HL.out]; exact hlt
      obtain ⟨t, ht⟩ : ∃ t, l[i]? = some t := ⟨_, List.getElem?_eq_getElem hil⟩
      have hj := atSt ((hc i _ ht).keep hk (Hu.out b hg) (fun h => h))
      rw [show i * recStr.n = i from Nat.mul_one i] at hj
      clear hc
      by_cases hx : t = x
      · have hxe : ((strOf x).toList == (strOf t).toList) = true := by rw [hx]; simp
        have hxf : (x == t) = true := by rw [hx]; simp
        have hidx : idxR (fun y => y == x) l = i := idxR_some hil (by rw [(List.getElem?_eq_some_iff.1 ht).2]; simpa using hx) (fun j hj => hno j _ hj (List.getElem?_eq_getElem (by omega)))
        have Hk := Lib.hid hk
        have Hno := Lib.hid hno
        have Hidx := Lib.hid hidx
        have Ht := Lib.hid ht
        have Hg := Lib.hid hg
        have Hil := Lib.hid hil
        have Hx := Lib.hid hx
        clear hk hno hidx ht hg hil hx
        go_wp2_with fail
        go_ret
        exact ⟨by rw [Hidx.out]; rfl, Hk.out⟩
      · have hxe : ((strOf x).toList == (strOf t).toList) = false := by rw [strOf_toList, strOf_toList]; simp; exact fun h => hx h.symm
        have hxf : (x == t) = false := by simp; exact fun h => hx h.symm
        have Hk := Lib.hid hk
        have Hno := Lib.hid hno
        have Ht := Lib.hid ht
        have Hg := Lib.hid hg
        have Hil := Lib.hid hil
        have Hx := Lib.hid hx
        clear hk hno ht hg hil hx
        go_wp2_with fail
        go_roundw
        case rel => exact ⟨i + 1, by simp, by omega, Hk.out, fun j t' hj htj => by
          by_cases e : j = i
          · subst e; rw [Ht.out] at htj; injection htj with htj; rw [← htj]; simpa using Hx.out
          · exact Hno.out j t' (by omega) htj⟩
        case measure => simp [intOf]; omega
    · obtain rfl : i = L := by omega
      have hidx : idxR (fun y => y == x) l = -1 := idxR_none (fun t ht => by
        obtain ⟨j, hj, rfl⟩ := List.getElem_of_mem ht
        exact hno j _ (by rw [HL.out]; exact hj) (List.getElem?_eq_getElem hj))
      have Hk := Lib.hid hk
      have Hno := Lib.hid hno
      have Hidx := Lib.hid hidx
      clear hk hno hidx
      go_wp2_with fail
      go_ret
      exact ⟨by rw [Hidx.out]; rfl, Hk.out⟩

theorem scontains_any (v : Value) (gb : Option Nat) (l : List (List UInt8)) (x : List UInt8) (w : World) (hr : recStr.Rd w v gb l) (hl : l.length ≤ 9223372036854775807) :
    Calls Tryd.prog 68 #[v, .string (strOf x)] w (RetBool (l.contains x) w) := by
  have hI := sindex_any v gb l x w hr hl
  rw [show l.contains x = l.any (fun y => y == x) by rw [List.contains_eq_any_beq]; congr 1; funext y; exact Bool.beq_comm .. , ← idxR_any]
  clear hr
  have HI := Lib.hid hI
  clear hI
  go_enter Tryd.func68, Tryd.ntmps68
  go_wp2_with fail
  refine HI.out.mono ?_
  rintro e w1 ⟨rfl, hk1⟩
  have Hk1 := Lib.hid hk1
  clear hk1
  go_wp2_with fail
  go_ret
  exact ⟨rfl, Hk1.out⟩

def RetRowS (w : World) (l : List (List UInt8)) : Ending → World → Prop := fun e w' => ∃ v', e = .returned v' ∧ recStr.Row w' v' l ∧ Above w.heap.size v'.ownBlock ∧ Keeps nowhere w w'
set_option maxHeartbeats 1000000 in
theorem sclone_any (v : Value) (g : Option Nat) (l : List (List UInt8)) (w : World) (hr : recStr.Rd w v g l) (hb : l.length ≤ 100000000) : Calls Tryd.prog 95 #[v] w (RetRowS w l) := by
  have q22 := fun (w : World) (a : Option Addr) (n c n' c' : Nat) => Lib.run_eql_slice_nil (P := Tryd.prog) w 47 9 a n c n' c' Tryd.underlying47
  have hr0 := hr
  obtain ⟨A, cap, rfl, h1, h2, hu, h3, h4⟩ := hr
  cases A with
  | none =>
    have h0 := h4 rfl
    have hl : l = [] := List.eq_nil_of_length_eq_zero (by omega)
    subst hl
    subst h0
    clear hr0 h3 h4 hu
    go_enter Tryd.func95, Tryd.ntmps95
    go_wp2
    go_ret
    exact ⟨_, rfl, RecT.Row.nil _ _, Above.none _, Keeps.refl _ _⟩
  | some a =>
    have hka : Keeps nowhere w (w.alloc (.cells #[] 9)) := (Keeps.refl nowhere w).alloc _
    have hrow0 : recStr.Row (w.alloc (.cells #[] 9)) (.slice (some ⟨w.heap.size, 0, none⟩) 0 0) [] := RecT.Row.empty recStr w
    have hrd := hr0.same hka
    have hlb : ([] : List (List UInt8)).length + l.length ≤ 100000000 := by simpa using hb
    obtain ⟨n, hn⟩ : ∃ n, n = l.length := ⟨_, rfl⟩
    rw [← hn] at hrd h1 ⊢
    clear h3 h4 hu hr0
    have Hka := Lib.hid hka
    have Hrow0 := Lib.hid hrow0
    have Hrd := Lib.hid hrd
    have Hlb := Lib.hid hlb
    have Hn := Lib.hid hn
    clear hka hrow0 hrd hlb hn
    go_enter Tryd.func95, Tryd.ntmps95
    go_wp2_with (at_builtin; go_must (refine RecT.wpList_append (R := recStr) Tryd.underlying47 infoStr rfl (by decide) rfl (.tmp 5) (.tmp 6) rfl _ [] rfl Hrow0.out _ _ l rfl Hrd.out Hlb.out ?_))
    intro v' w' hrow hk hf
    try rw [List.nil_append] at hrow
    have hab : Above w.heap.size v'.ownBlock := fun b hb => by
      rcases hf b hb with h | h
      · simp [Value.ownBlock] at h; omega
      · have := Hka.out.size; (try simp at this); (try simp at h); omega
    have hk2 : Keeps nowhere w w' := Hka.out.trans hk (fun b hb e => by simp [Value.ownBlock] at e; omega)
    clear hk hf
    have Hrow := Lib.hid hrow
    have Hab := Lib.hid hab
    have Hk2 := Lib.hid hk2
    clear hrow hab hk2
    go_wp2_with fail
    go_ret
    exact ⟨v', rfl, Hrow.out, Hab.out, Hk2.out⟩
end Go.Proofs.YtnlmdfbjmhcilaaDoor
/-
  text: code points, texts, names: plain words. No program in sight.
-/
namespace Go.Proofs.YtnlmdfbjmhcilaaDoor

def byteN (s : List UInt8) (i : Nat) : Nat := ((s[i]?).getD 0).toNat
theorem byteN_lt (s : List UInt8) (i : Nat) : byteN s i < 256 := UInt8.toNat_lt _
theorem byteN_drop (s : List UInt8) (k i : Nat) : byteN (s.drop k) i = byteN s (k + i) := by
  unfold byteN; rw [List.getElem?_drop]
def headS (c : Nat) : Option (Nat × Nat × Nat) :=
  if c < 128 then some (0, c, 0) else if c / 32 = 6 then some (1, c % 32, 128) else if c / 16 = 14 then some (2, c % 16, 2048) else if c / 8 = 30 then some (3, c % 8, 65536) else none
/-- the value behind `k` more bytes -/
def contV (s : List UInt8) (v0 : Nat) : Nat → Option Nat
  | 0 => some v0
  | k + 1 => match contV s v0 k with
    | none => none
    | some v => if byteN s (k + 1) / 64 = 2 then some (v * 64 + byteN s (k + 1) % 64) else none
def okV (v least : Nat) : Bool := decide (least ≤ v) && decide (v ≤ 1114111) && !(decide (55296 ≤ v) && decide (v ≤ 57343))
/-- the bytes of the first code point; 0: there is none -/
def rune1 (s : List UInt8) : Nat := match headS (byteN s 0) with
  | none => 0
  | some (n, v, least) => if s.length ≤ n then 0 else match contV s v n with
    | none => 0
    | some u => if okV u least = true then n + 1 else 0
def runesF : Nat → List UInt8 → Option Nat
  | 0, s => if s = [] then some 0 else none
  | f + 1, s => if s = [] then some 0 else if rune1 s = 0 then none else (runesF f (s.drop (rune1 s))).map (· + 1)
def runesS (s : List UInt8) : Option Nat := runesF s.length s
def validS (s : List UInt8) : Bool := (runesS s).isSome && decide (s.length ≤ 64) && !s.contains 0
def nameBad (s : List UInt8) : Bool := !validS s || s == [] || s == [46] || s == [46, 46]
def nameE (s : List UInt8) : Int := if nameBad s = true then 6 else if s.any (fun c => decide (c.toNat < 32) || c.toNat == 47) = true then 6 else if 28 < s.length then 3 else 0
theorem headS_n {c n v l : Nat} (h : headS c = some (n, v, l)) : n ≤ 3 ∧ v < 128 := by
  unfold headS at h
  split at h
  · injection h with h; injection h with h1 h2; injection h2 with h2 h3; omega
  · split at h
    · injection h with h; injection h with h1 h2; injection h2 with h2 h3; omega
    · split at h
      · injection h with h; injection h with h1 h2; injection h2 with h2 h3; omega
      · split at h
        · injection h with h; injection h with h1 h2; injection h2 with h2 h3; omega
        · cases h
theorem rune1_le (s : List UInt8) : rune1 s ≤ s.length := by
  unfold rune1
  cases hh : headS (byteN s 0) with
  | none => exact Nat.zero_le _
  | some x =>
    obtain ⟨n, v, l⟩ := x
    simp only
    split
    · exact Nat.zero_le _
    · split
      · exact Nat.zero_le _
      · split
        · omega
        · exact Nat.zero_le _
theorem runesF_more : ∀ (f : Nat) (s : List UInt8), s.length ≤ f → runesF f s = runesF s.length s
  | 0, s, h => by
    have : s = [] := List.eq_nil_of_length_eq_zero (by omega)
    subst this; rfl
  | f + 1, s, h => by
    cases hs : s with
    | nil => simp [runesF]
    | cons c t =>
      rw [hs] at h
      have hl : (c :: t).length = t.length + 1 := rfl
      rw [hl]
      unfold runesF
      by_cases h0 : rune1 (c :: t) = 0
      · simp [h0]
      · have hd : ((c :: t).drop (rune1 (c :: t))).length ≤ t.length := by rw [List.length_drop]; simp; omega
        rw [runesF_more f _ (by simp at h; omega), runesF_more t.length _ hd]
theorem runesS_cons {s : List UInt8} (h : s ≠ []) : runesS s = if rune1 s = 0 then none else (runesS (s.drop (rune1 s))).map (· + 1) := by
  unfold runesS
  cases hs : s with
  | nil => exact absurd hs h
  | cons c t =>
    have hl : (c :: t).length = t.length + 1 := rfl
    rw [hl]
    conv => lhs; unfold runesF
    by_cases h0 : rune1 (c :: t) = 0
    · simp [h0]
    · have hd : ((c :: t).drop (rune1 (c :: t))).length ≤ t.length := by rw [List.length_drop]; simp; omega
      simp only [h0, if_false]
      rw [runesF_more t.length _ hd]
      simp
theorem runesS_nil : runesS [] = some 0 := rfl
end Go.Proofs.YtnlmdfbjmhcilaaDoor
/-
  Plain arithmetic: numbers out of bytes, bits of numbers. No program in sight.
-/
namespace Go.Proofs.YtnlmdfbjmhcilaaDoor
open Go.RowKit

/-- The number that bytes make, the lowest first. -/
def le : List UInt8 → Nat
  | [] => 0
  | b :: l => b.toNat + 256 * le l
theorem le_lt : ∀ l : List UInt8, le l < 256 ^ l.length
  | [] => by simp [le]
  | b :: l => by
    have := le_lt l
    have hb := b.toNat_lt
    rw [List.length_cons, Nat.pow_succ, le]
    omega
theorem le_snoc (l : List UInt8) (b : UInt8) : le (l ++ [b]) = le l + b.toNat * 256 ^ l.length := by
  induction l with
  | nil => simp [le]
  | cons a l ih =>
    simp only [List.cons_append, le, ih, List.length_cons, Nat.pow_succ]
    rw [Nat.mul_add, ← Nat.add_assoc, Nat.mul_left_comm, Nat.mul_comm 256 (256 ^ l.length)]

theorem bits_or_u64_nat (a b : Nat) (ha : a < 18446744073709551616) (hb : b < 18446744073709551616) :
    bits .or .u64 (a : Int) (b : Int) = ((a ||| b : Nat) : Int) := by
  have hx : a ||| b < 2 ^ 64 := Nat.or_lt_two_pow (by omega) (by omega)
  have h1 : (BitVec.ofInt 64 (a : Int)).toNat = a := by
    rw [BitVec.ofInt_natCast, BitVec.toNat_ofNat]; exact Nat.mod_eq_of_lt (by omega)
  have h2 : (BitVec.ofInt 64 (b : Int)).toNat = b := by
    rw [BitVec.ofInt_natCast, BitVec.toNat_ofNat]; exact Nat.mod_eq_of_lt (by omega)
  show IntKind.u64.wrap ((BitVec.ofInt 64 (a : Int) ||| BitVec.ofInt 64 (b : Int)).toNat : Int) = _
  rw [BitVec.toNat_or, h1, h2, IntKind.wrap_u64]
  omega

theorem pow256 (k : Nat) : (256 : Nat) ^ k = 2 ^ (8 * k) := by rw [Nat.pow_mul]

theorem or_byte (x k : Nat) (b : UInt8) (hk : k < 8) (hx : x < 256 ^ k) :
    bits .or .u64 (x : Int) (IntKind.u64.wrap (IntKind.u64.wrap (b.toNat : Int) * 2 ^ (8 * k))) = ((x + b.toNat * 256 ^ k : Nat) : Int) := by
  have hb := b.toNat_lt
  have hp : 256 ^ k * 256 ≤ 256 ^ 8 := by rw [← Nat.pow_succ]; exact Nat.pow_le_pow_right (by omega) (by omega)
  have h8 : (256 : Nat) ^ 8 = 18446744073709551616 := by decide
  have hm : b.toNat * 256 ^ k ≤ 255 * 256 ^ k := Nat.mul_le_mul_right _ (by omega)
  have e1 : IntKind.u64.wrap (b.toNat : Int) = (b.toNat : Int) := by rw [IntKind.wrap_u64]; omega
  have e2 : ((b.toNat : Int) * 2 ^ (8 * k)) = ((b.toNat * 256 ^ k : Nat) : Int) := by rw [pow256]; simp
  have e3 : IntKind.u64.wrap ((b.toNat * 256 ^ k : Nat) : Int) = ((b.toNat * 256 ^ k : Nat) : Int) := by rw [IntKind.wrap_u64]; omega
  rw [e1, e2, e3, bits_or_u64_nat _ _ (by omega) (by omega)]
  congr 1
  rw [pow256] at hx ⊢
  rw [Nat.or_comm, ← Nat.shiftLeft_eq, ← Nat.shiftLeft_add_eq_or_of_lt hx, Nat.add_comm]

/-- The lowest `n` bytes of a number. -/
def nb (n v : Nat) : List UInt8 := (List.range n).map fun k => UInt8.ofNat (v / 256 ^ k)
theorem nb_len (n v : Nat) : (nb n v).length = n := by simp [nb]
theorem nb_succ (n v : Nat) : nb (n + 1) v = nb n v ++ [UInt8.ofNat (v / 256 ^ n)] := by simp [nb, List.range_succ]
theorem le_nb (n v : Nat) : le (nb n v) = v % 256 ^ n := by
  induction n with
  | zero => simp [nb, le, Nat.mod_one]
  | succ n ih =>
    rw [nb_succ, le_snoc, ih, nb_len, Nat.pow_succ, Nat.mod_mul]
    simp [Nat.mul_comm]

theorem byte_of (v k : Nat) : Value.int .u8 (IntKind.u8.wrap ((v : Int) / 2 ^ (8 * (k : Int)).toNat)) = bv (UInt8.ofNat (v / 256 ^ k)) := by
  have e1 : (8 * (k : Int)).toNat = 8 * k := by omega
  have e2 : ((2 : Int) ^ (8 * k)) = ((256 ^ k : Nat) : Int) := by
    rw [pow256, Int.natCast_pow]; rfl
  unfold bv
  rw [e1, e2, ← Int.natCast_ediv]
  simp [IntKind.wrap, IntKind.bits, IntKind.signed]

theorem byte_of' (v k : Nat) : Value.int .u8 ((v : Int) / 2 ^ (8 * k) % 256) = bv (UInt8.ofNat (v / 256 ^ k)) := by
  have e2 : ((2 : Int) ^ (8 * k)) = ((256 ^ k : Nat) : Int) := by
    rw [pow256, Int.natCast_pow]; rfl
  unfold bv
  rw [e2, ← Int.natCast_ediv]
  simp

theorem bits_and_u8_nat (a b : Nat) (ha : a < 256) (hb : b < 256) : bits .and .u8 (a : Int) (b : Int) = ((a &&& b : Nat) : Int) := by
  have hx : a &&& b < 256 := Nat.lt_of_le_of_lt Nat.and_le_left ha
  have h1 : (BitVec.ofInt 8 (a : Int)).toNat = a := by
    rw [BitVec.ofInt_natCast, BitVec.toNat_ofNat]; exact Nat.mod_eq_of_lt (by omega)
  have h2 : (BitVec.ofInt 8 (b : Int)).toNat = b := by
    rw [BitVec.ofInt_natCast, BitVec.toNat_ofNat]; exact Nat.mod_eq_of_lt (by omega)
  show IntKind.u8.wrap ((BitVec.ofInt 8 (a : Int) &&& BitVec.ofInt 8 (b : Int)).toNat : Int) = _
  rw [BitVec.toNat_and, h1, h2]
  simp [IntKind.wrap, IntKind.bits, IntKind.signed]
  omega
theorem bits_and_u32_nat (a b : Nat) (ha : a < 4294967296) (hb : b < 4294967296) : bits .and .u32 (a : Int) (b : Int) = ((a &&& b : Nat) : Int) := by
  have hx : a &&& b < 4294967296 := Nat.lt_of_le_of_lt Nat.and_le_left ha
  have h1 : (BitVec.ofInt 32 (a : Int)).toNat = a := by
    rw [BitVec.ofInt_natCast, BitVec.toNat_ofNat]; exact Nat.mod_eq_of_lt (by omega)
  have h2 : (BitVec.ofInt 32 (b : Int)).toNat = b := by
    rw [BitVec.ofInt_natCast, BitVec.toNat_ofNat]; exact Nat.mod_eq_of_lt (by omega)
  show IntKind.u32.wrap ((BitVec.ofInt 32 (a : Int) &&& BitVec.ofInt 32 (b : Int)).toNat : Int) = _
  rw [BitVec.toNat_and, h1, h2]
  simp [IntKind.wrap, IntKind.bits, IntKind.signed]
  omega
theorem and_224 (x : Nat) (hx : x < 256) : bits .and .u8 (x : Int) 224 = ((x / 32 * 32 : Nat) : Int) := by
  have h := bits_and_u8_nat x 224 hx (by omega)
  have h2 : x &&& 224 = x % 2 ^ 8 / 2 ^ 5 * 2 ^ 5 := nat_midmask 8 5 x (by decide)
  rw [h2] at h
  have e : x % 2 ^ 8 / 2 ^ 5 * 2 ^ 5 = x / 32 * 32 := by omega
  rw [e] at h
  exact h
theorem and_hi3 (x : Nat) (hx : x < 4294967296) : bits .and .u32 (x : Int) 3758096384 = ((x / 536870912 * 536870912 : Nat) : Int) := by
  have h := bits_and_u32_nat x 3758096384 hx (by omega)
  have h2 : x &&& 3758096384 = x % 2 ^ 32 / 2 ^ 29 * 2 ^ 29 := nat_midmask 32 29 x (by decide)
  rw [h2] at h
  have e : x % 2 ^ 32 / 2 ^ 29 * 2 ^ 29 = x / 536870912 * 536870912 := by omega
  rw [e] at h
  exact h
end Go.Proofs.YtnlmdfbjmhcilaaDoor
/-
  text.head.
-/
namespace Go.Proofs.YtnlmdfbjmhcilaaDoor
open Go.RowKit
def noneV : Value := .iface 164 (.agg #[])
theorem head_any (c : Nat) (hc : c < 256) (w : World) : Calls Tryd.prog 141 #[.int .u8 c] w fun e w' => w' = w ∧ match headS c with
    | some (n, v, l) => e = .returned (.tuple #[.int .i64 n, .int .i32 v, .int .i32 l])
    | none => e = .panicked [{ v := noneV, recovered := false }] := by
  have hw : IntKind.i32.wrap (c : Int) = c := by rw [IntKind.wrap_i32]; omega
  unfold headS
  by_cases h1 : c < 128
  · rw [if_pos h1]
    have h1I : (c : Int) < 128 := by omega
    go_enter Tryd.func141, Tryd.ntmps141
    go_wp2
    go_ret3
    exact ⟨rfl, rfl⟩
  · rw [if_neg h1]
    have h1I : ¬ (c : Int) < 128 := by omega
    by_cases h2 : c / 32 = 6
    · rw [if_pos h2]
      go_enter Tryd.func141, Tryd.ntmps141
      go_wp2
      go_ret3
      exact ⟨rfl, by simp⟩
    · rw [if_neg h2]
      have h2I : ((c : Int) / 32 == 6) = false := by simp; omega
      by_cases h3 : c / 16 = 14
      · rw [if_pos h3]
        have h3I : ((c : Int) / 16 == 14) = true := by simp; omega
        go_enter Tryd.func141, Tryd.ntmps141
        go_wp2
        go_ret3
        exact ⟨rfl, by simp⟩
      · rw [if_neg h3]
        have h3I : ((c : Int) / 16 == 14) = false := by simp; omega
        by_cases h4 : c / 8 = 30
        · rw [if_pos h4]
          have h4I : ((c : Int) / 8 == 30) = true := by simp; omega
          go_enter Tryd.func141, Tryd.ntmps141
          go_wp2
          go_ret3
          exact ⟨rfl, by simp⟩
        · rw [if_neg h4]
          have h4I : ((c : Int) / 8 == 30) = false := by simp; omega
          have hmi : ∀ w, (Instr.makeInterface 164 (.agg #[])).run Tryd.prog w = .ok noneV w := fun _ => by kernel_rfl
          go_enter Tryd.func141, Tryd.ntmps141
          go_wp2
          exact ⟨rfl, rfl, rfl⟩
end Go.Proofs.YtnlmdfbjmhcilaaDoor
/-
  text.one: the first code point of a text.
-/
namespace Go.Proofs.YtnlmdfbjmhcilaaDoor
open Go.RowKit
theorem strOf_size (s : List UInt8) : (strOf s).size = s.length := by simp [strOf, ByteArray.size]
theorem strOf_get (s : List UInt8) (i : Nat) (h : i < (strOf s).size) : ((strOf s)[i]'h).toNat = byteN s i := by
  have hi : i < s.length := by rw [strOf_size] at h; exact h
  unfold byteN
  rw [List.getElem?_eq_getElem hi, Option.getD_some]
  rfl
attribute [local go_sem] strOf_size strOf_get
theorem bits_or_i32_nat (a b : Nat) (ha : a < 2147483648) (hb : b < 2147483648) :
    bits .or .i32 (a : Int) (b : Int) = ((a ||| b : Nat) : Int) := by
  have hx : a ||| b < 2 ^ 31 := Nat.or_lt_two_pow (by omega) (by omega)
  have h1 : (BitVec.ofInt 32 (a : Int)).toNat = a := by
    rw [BitVec.ofInt_natCast, BitVec.toNat_ofNat]; exact Nat.mod_eq_of_lt (by omega)
  have h2 : (BitVec.ofInt 32 (b : Int)).toNat = b := by
    rw [BitVec.ofInt_natCast, BitVec.toNat_ofNat]; exact Nat.mod_eq_of_lt (by omega)
  show IntKind.i32.wrap ((BitVec.ofInt 32 (a : Int) ||| BitVec.ofInt 32 (b : Int)).toNat : Int) = _
  rw [BitVec.toNat_or, h1, h2, IntKind.wrap_i32]
  omega
theorem or_step (u c : Nat) (hu : u < 33554432) : bits .or .i32 (wrap32 ((u : Int) * 64)) ((c : Int) % 64) = ((u * 64 + c % 64 : Nat) : Int) := by
  have e1 : wrap32 ((u : Int) * 64) = ((u * 64 : Nat) : Int) := by unfold wrap32; omega
  have e2 : ((c : Int) % 64) = ((c % 64 : Nat) : Int) := by omega
  rw [e1, e2, bits_or_i32_nat _ _ (by omega) (by omega)]
  congr 1
  have := Nat.shiftLeft_add_eq_or_of_lt (a := u) (b := c % 64) (i := 6) (by omega)
  rw [Nat.shiftLeft_eq] at this
  exact this.symm
def OneP (s : List UInt8) (w : World) : Ending → World → Prop := fun e w' => w' = w ∧ (if rune1 s = 0 then e = .panicked [{ v := noneV, recovered := false }] else e = .returned (.int .i64 (rune1 s)))
theorem OneP.bad {s : List UInt8} {w : World} (h : rune1 s = 0) : OneP s w (.panicked [{ v := noneV, recovered := false }]) w := ⟨rfl, by rw [if_pos h]⟩
theorem OneP.ok {s : List UInt8} {w : World} {k : Nat} (h : rune1 s = k + 1) : OneP s w (.returned (.int .i64 ((k : Int) + 1))) w := ⟨rfl, by rw [if_neg (by omega), h]; push_cast; rfl⟩
theorem contV_none {s : List UInt8} {v0 : Nat} {k n : Nat} (h : contV s v0 k = none) (hk : k ≤ n) : contV s v0 n = none := by
  induction n with
  | zero => have : k = 0 := by omega
            subst this; exact h
  | succ n ih =>
    by_cases e : k = n + 1
    · subst e; exact h
    · rw [contV, ih (by omega)]
set_option maxHeartbeats 4000000 in
theorem one_any (s : List UInt8) (hs : s ≠ []) (hl : s.length ≤ 1000000000) (w : World) : Calls Tryd.prog 128 #[.string (strOf s)] w (OneP s w) := by
  have hh := head_any (byteN s 0) (byteN_lt s 0) w
  have hlen : 0 < s.length := List.length_pos_iff.2 hs
  have hmi : ∀ w, (Instr.makeInterface 164 (.agg #[])).run Tryd.prog w = .ok (.iface 164 (.agg #[])) w := fun _ => by kernel_rfl
  cases hhd : headS (byteN s 0) with
  | none =>
    have hr : rune1 s = 0 := by unfold rune1; rw [hhd]
    rw [hhd] at hh
    have Hh := Lib.hid hh
    have Hr := Lib.hid hr
    have Hhd := Lib.hid hhd
    clear hh hr hhd
    go_enter Tryd.func128, Tryd.ntmps128
    go_wp2_with fail
    refine Hh.out.mono ?_
    rintro e w' ⟨rfl, rfl⟩
    go_wp2_with fail
    exact ⟨rfl, OneP.bad Hr.out⟩
  | some x =>
    obtain ⟨n, v, l⟩ := x
    obtain ⟨hn3, hv⟩ := headS_n hhd
    rw [hhd] at hh
    by_cases hle : s.length ≤ n
    · have hr : rune1 s = 0 := by unfold rune1; rw [hhd]; simp only; rw [if_pos hle]
      have hleI : (s.length : Int) ≤ n := by omega
      have Hh := Lib.hid hh
      have Hr := Lib.hid hr
      have Hhd := Lib.hid hhd
      clear hh hr hhd
      go_enter Tryd.func128, Tryd.ntmps128
      go_wp2_with fail
      refine Hh.out.mono ?_
      rintro e w' ⟨rfl, rfl⟩
      go_wp2_with fail
      exact ⟨rfl, OneP.bad Hr.out⟩
    · have hleI : ¬ (s.length : Int) ≤ n := by omega
      have Hh := Lib.hid hh
      have Hhd := Lib.hid hhd
      clear hh hhd
      go_enter Tryd.func128, Tryd.ntmps128
      go_wp2_with fail
      refine Hh.out.mono ?_
      rintro e w' ⟨rfl, rfl⟩
      go_wp2_with fail
      go_loop [4, 6] (fun vv iv => ∃ (k u : Nat), iv = .int .i64 ((k : Int) + 1) ∧ vv = .int .i32 u ∧ k ≤ n ∧ contV s v k = some u ∧ u < 128 * 64 ^ k) (fun _ iv => n + 1 - (intOf iv).toNat)
      case atStart => exact ⟨0, v, rfl, rfl, Nat.zero_le _, rfl, by simpa using hv⟩
      case round =>
        obtain ⟨k, u, rfl, rfl, hk, hc, hu⟩ := hrel
        by_cases hkn : k < n
        · have hknI : (k : Int) + 1 ≤ n := by omega
          have hix : k + 1 < s.length := by omega
          have hixI : (k : Int) + 1 < s.length := by omega
          have hix0 : (0 : Int) ≤ (k : Int) + 1 := by omega
          have hb := byteN_lt s (k + 1)
          have hk1 : IntKind.i64.wrap ((k : Int) + 1 + 1) = (k : Int) + 1 + 1 := IntWalk.i64_in _ (by omega)
          have hpow : 64 ^ k ≤ 64 ^ 2 := Nat.pow_le_pow_right (by omega) (by omega)
          have hstep := or_step u (byteN s (k + 1)) (by have : 128 * 64 ^ k ≤ 128 * 64 ^ 2 := Nat.mul_le_mul_left _ hpow; omega)
          by_cases h2 : byteN s (k + 1) / 64 = 2
          · have h2I : (((byteN s (k + 1) : Nat) : Int) / 64 == 2) = true := by simp; omega
            have hc2 : contV s v (k + 1) = some (u * 64 + byteN s (k + 1) % 64) := by rw [contV, hc]; simp only; rw [if_pos h2]
            have Hh := Lib.hid Hh
            have Hc := Lib.hid hc
            have Hc2 := Lib.hid hc2
            have Hu := Lib.hid hu
            clear Hh hc hc2 hu
            go_wp2_with fail
            go_round
            case rel =>
              have h9 := Hu.out
              refine ⟨k + 1, u * 64 + byteN s (k + 1) % 64, by simp, by simp, by omega, Hc2.out, ?_⟩
              rw [Nat.pow_succ]
              omega
            case measure => simp [intOf]; omega
          · have h2I : (((byteN s (k + 1) : Nat) : Int) / 64 == 2) = false := by simp; omega
            have hc2 : contV s v (k + 1) = none := by rw [contV, hc]; simp only; rw [if_neg h2]
            have hr : rune1 s = 0 := by
              unfold rune1
              rw [Hhd.out]
              simp only
              rw [if_neg hle, contV_none hc2 (by omega)]
            clear hstep
            have Hr := Lib.hid hr
            have Hu := Lib.hid hu
            have Hc := Lib.hid hc
            have Hc2 := Lib.hid hc2
            clear hr hu hc hc2
            go_wp2_with fail
            exact ⟨rfl, OneP.bad Hr.out⟩
        · obtain rfl : k = n := by omega
          have hknI : ¬ (k : Int) + 1 ≤ k := by omega
          have hk1 : IntKind.i64.wrap ((k : Int) + 1) = (k : Int) + 1 := IntWalk.i64_in _ (by omega)
          have hru : rune1 s = if okV u l = true then k + 1 else 0 := by
            unfold rune1
            rw [Hhd.out]
            simp only
            rw [if_neg hle, hc]
          clear hu hc Hhd
          have Hru := Lib.hid hru
          clear hru
          by_cases a1 : u < l
          · have a1I : (u : Int) < l := by omega
            have hr : rune1 s = 0 := by rw [Hru.out, if_neg (by simp [okV]; omega)]
            have Hr := Lib.hid hr
            clear hr
            go_wp2_with fail
            exact ⟨rfl, OneP.bad Hr.out⟩
          · have a1I : ¬ (u : Int) < l := by omega
            by_cases a2 : 1114111 < u
            · have a2I : (1114111 : Int) < u := by omega
              have hr : rune1 s = 0 := by rw [Hru.out, if_neg (by simp [okV]; omega)]
              have Hr := Lib.hid hr
              clear hr
              go_wp2_with fail
              exact ⟨rfl, OneP.bad Hr.out⟩
            · have a2I : ¬ (1114111 : Int) < u := by omega
              by_cases a3 : 55296 ≤ u
              · have a3I : (55296 : Int) ≤ u := by omega
                by_cases a4 : u ≤ 57343
                · have a4I : decide ((u : Int) ≤ 57343) = true := by simp; omega
                  have a4J : (u : Int) ≤ 57343 := by omega
                  have hr : rune1 s = 0 := by rw [Hru.out, if_neg (by simp [okV]; omega)]
                  have Hr := Lib.hid hr
                  clear hr
                  go_wp2_with fail
                  exact ⟨rfl, OneP.bad Hr.out⟩
                · have a4I : decide ((u : Int) ≤ 57343) = false := by simp; omega
                  have a4J : ¬ (u : Int) ≤ 57343 := by omega
                  have hr : rune1 s = k + 1 := by rw [Hru.out, if_pos (by simp [okV]; omega)]
                  have Hr := Lib.hid hr
                  clear hr
                  go_wp2_with fail
                  go_ret
                  exact OneP.ok Hr.out
              · have a3I : ¬ (55296 : Int) ≤ u := by omega
                have hr : rune1 s = k + 1 := by rw [Hru.out, if_pos (by simp [okV]; omega)]
                have Hr := Lib.hid hr
                clear hr
                go_wp2_with fail
                go_ret
                exact OneP.ok Hr.out
end Go.Proofs.YtnlmdfbjmhcilaaDoor
/-
  text.Runes.
-/
namespace Go.Proofs.YtnlmdfbjmhcilaaDoor
open Go.RowKit
attribute [local go_sem] strOf_size strOf_get

set_option maxHeartbeats 400000 in
theorem rcaught_idle (p q : Nat) (w : World) :
    CallsD Tryd.prog 127 #[.pointer (some ⟨p, 0, none⟩), .pointer (some ⟨q, 0, none⟩)] .returning w fun e u' w' => e = .returned (.tuple #[]) ∧ u' = .returning ∧ w' = w := by
  refine callsD_of_wpS Tryd.func127 rfl fun c₀ cs hu => ?_
  apply wpS_seq
  apply wpS_region
  simp [wpOpsS, go_sem, recoverD, hu, Tryd.ntmps127, Exit.thenS, Array.replicate_succ]
  refine wpS_of_wp ?_
  go_wp2
  cases c₀
  simp_all [bodyPostS, results, Tryd.results127]
set_option maxHeartbeats 400000 in
theorem rcaught_panic (p q : Nat) (x : Int) (y : Bool) (older : List PanicEntry) (w : World) (hb : Blk w p 3 #[.int .i64 x]) (hq : Blk w q 4 #[.bool y]) :
    CallsD Tryd.prog 127 #[.pointer (some ⟨p, 0, none⟩), .pointer (some ⟨q, 0, none⟩)] (.panicking ({ v := .iface 164 (.agg #[]), recovered := false } :: older)) w fun e u' w' =>
      e = .returned (.tuple #[]) ∧ u' = .panicking ({ v := .iface 164 (.agg #[]), recovered := true } :: older) ∧ w' = (w.setCell ⟨p, 0, none⟩ (.int .i64 0)).setCell ⟨q, 0, none⟩ (.bool false) := by
  have hc1 := hb.cell 0
  have hf1 := hb.frozen 0
  have hc2 := (hq.far (p := ⟨p, 0, none⟩) (hq.ne_ hb (by decide)) (.int .i64 0)).cell 0
  have hf2 := (hq.far (p := ⟨p, 0, none⟩) (hq.ne_ hb (by decide)) (.int .i64 0)).frozen 0
  simp at hc1 hc2
  clear hb hq
  have hmi : ∀ w, (Instr.makeInterface 164 (.agg #[])).run Tryd.prog w = .ok (.iface 164 (.agg #[])) w := fun _ => by kernel_rfl
  have heq : ∀ w, (binOp .neq 20 (.iface 164 (.agg #[])) .nilIface).run Tryd.prog w = .ok (.bool true) w := fun _ => by kernel_rfl
  have heq2 : ∀ w, (binOp .neq 20 (.iface 164 (.agg #[])) (.iface 164 (.agg #[]))).run Tryd.prog w = .ok (.bool false) w := fun _ => by kernel_rfl
  refine callsD_of_wpS Tryd.func127 rfl fun c₀ cs hu => ?_
  apply wpS_seq
  apply wpS_region
  simp [wpOpsS, go_sem, recoverD, hu, Tryd.ntmps127, Exit.thenS, Array.replicate_succ]
  refine wpS_of_wp ?_
  go_wp2
  simp [bodyPostS, results, Tryd.results127]
theorem strOf_drop (s : List UInt8) (k : Nat) : (strOf s).extract k s.length = strOf (s.drop k) := by
  apply ByteArray.ext
  have : List.take (s.length - k) (List.drop k s) = List.drop k s := List.take_of_length_le (by simp)
  simp [strOf, ByteArray.data_extract, this]
def RunesP (s : List UInt8) (w : World) : Ending → World → Prop := fun e w' => e = .returned (.tuple #[.int .i64 ((runesS s).getD 0), .bool (runesS s).isSome]) ∧ Keeps nowhere w w'
set_option maxRecDepth 20000 in
set_option maxHeartbeats 4000000 in
theorem runes_any (s : List UInt8) (hl : s.length ≤ 1000000000) (w : World) : Calls Tryd.prog 105 #[.string (strOf s)] w (RunesP s w) := by
  obtain ⟨q, hq⟩ : ∃ q, q = w.heap.size := ⟨_, rfl⟩
  obtain ⟨q2, hq2⟩ : ∃ q, q = w.heap.size + 1 := ⟨_, rfl⟩
  obtain ⟨w1, hw1⟩ : ∃ w1, w1 = (w.alloc (.cells #[.int .i64 0] 3)).alloc (.cells #[.bool false] 4) := ⟨_, rfl⟩
  have hk1 : Keeps nowhere w w1 := by rw [hw1]; exact ((Keeps.refl nowhere w).alloc _).alloc _
  have hb1 : Blk w1 q 3 #[.int .i64 0] := by rw [hw1, hq]; exact (Blk.new _ _ _).alloc _
  have hb2 : Blk w1 q2 4 #[.bool false] := by
    rw [hw1, hq2]
    have := Blk.new (w.alloc (.cells #[.int .i64 0] 3)) 4 #[.bool false]
    rwa [World.size_alloc] at this
  have Hw1 := Lib.hid hw1
  have Hq := Lib.hid hq
  have Hq2 := Lib.hid hq2
  have Hk1 := Lib.hid hk1
  have Hb1 := Lib.hid hb1
  have Hb2 := Lib.hid hb2
  clear hw1 hq hq2 hk1 hb1 hb2
  go_enter_defers Tryd.func105, Tryd.ntmps105
  go_upto_region 2 with fail
  rw [← Hw1.out]
  simp only [← Hq2.out]
  simp only [← Hq.out]
  go_loopw [0] (fun sv wr => ∃ (r : List UInt8) (k : Nat), sv = .string (strOf r) ∧ runesS s = (runesS r).map (· + k) ∧ k + r.length ≤ s.length ∧ Blk wr q 3 #[.int .i64 k] ∧ Blk wr q2 4 #[.bool false] ∧ Keeps nowhere w wr) (fun sv _ => (match sv with | .string b => b.size | _ => 0))
  case atStart => exact ⟨s, 0, rfl, by simp, by omega, Hb1.out, Hb2.out, Hk1.out⟩
  case round =>
    obtain ⟨r, k, rfl, hrs, hkl, b1, b2, hk⟩ := hrel
    have c1 := b1.cell 0
    have f1 := b1.frozen 0
    simp at c1
    cases hr : r with
    | nil =>
      subst hr
      have hfin : runesS s = some k := by rw [hrs, runesS_nil]; simp
      have hcmp : (strOf []).toList.isEmpty = true := by rw [strOf_toList]; rfl
      have g2 : (wr.setCell ⟨q, 0, none⟩ (.int .i64 k)).cell? ⟨q2, 0, none⟩ = some (.bool false) := by
        have := (b2.far (p := ⟨q, 0, none⟩) (b2.ne_ b1 (by decide)) (.int .i64 k)).cell 0
        simpa using this
      have e2 := (b2.far (p := ⟨q, 0, none⟩) (b2.ne_ b1 (by decide)) (.int .i64 k)).frozen 0
      obtain ⟨w5, hw5⟩ : ∃ w5, w5 = (wr.setCell ⟨q, 0, none⟩ (.int .i64 k)).setCell ⟨q2, 0, none⟩ (.bool true) := ⟨_, rfl⟩
      have b5 : Blk w5 q 3 #[.int .i64 k] := by
        rw [hw5]
        have := (b1.set_ 0 (.int .i64 k)).far (p := ⟨q2, 0, none⟩) (b1.ne_ b2 (by decide)) (.bool true)
        simpa using this
      have b6 : Blk w5 q2 4 #[.bool true] := by
        rw [hw5]
        have := (b2.far (p := ⟨q, 0, none⟩) (b2.ne_ b1 (by decide)) (.int .i64 k)).set_ 0 (.bool true)
        simpa using this
      have hk5 : Keeps nowhere w w5 := by
        rw [hw5]
        exact (hk.setCell (p := ⟨q, 0, none⟩) (fun h => by have := Hq.out; simp at h; omega) _).setCell (p := ⟨q2, 0, none⟩) (fun h => by have := Hq2.out; simp at h; omega) _
      have x5 := b5.cell 0
      have x6 := b6.cell 0
      simp at x5 x6
      clear b1 b2 b5 b6 hk hrs
      have Hfin := Lib.hid hfin
      have Hk5 := Lib.hid hk5
      have Hw5 := Lib.hid hw5
      clear hfin hk5 hw5
      go_wp2_with fail
      rw [← Hw5.out]
      refine leaves_cons (f := 127) (args := #[.pointer (some ⟨q, 0, none⟩), .pointer (some ⟨q2, 0, none⟩)]) (by simp) (by simp [go_sem]) ?_
      refine (rcaught_idle q q2 _).mono ?_
      rintro e u' w'' ⟨rfl, rfl, rfl⟩
      simp [Leaves, settle, results, Tryd.results105, go_sem, x5, x6]
      exact ⟨by rw [Hfin.out]; rfl, Hk5.out⟩
    | cons c t =>
      rw [← hr]
      have hne : r ≠ [] := by rw [hr]; simp
      have hrl : 0 < r.length := List.length_pos_iff.2 hne
      have hcmp : (strOf r).toList.isEmpty = false := by rw [strOf_toList]; simp [hne]
      have ho0 := one_any r hne (by omega) wr
      have hcons := runesS_cons hne
      obtain ⟨j, hj⟩ : ∃ j, j = rune1 r := ⟨_, rfl⟩
      unfold OneP at ho0
      rw [← hj] at hcons
      by_cases h0 : j = 0
      · have ho := ho0.mono (R' := fun e w' => w' = wr ∧ e = .panicked [{ v := noneV, recovered := false }]) (fun e w' h => ⟨h.1, by have := h.2; rw [← hj, if_pos h0] at this; exact this⟩)
        rw [if_pos h0] at hcons
        clear ho0
        have hfin : runesS s = none := by rw [hrs, hcons]; rfl
        have x5 := (b1.set_ 0 (.int .i64 0)).far (p := ⟨q2, 0, none⟩) (b1.ne_ b2 (by decide)) (.bool false)
        have x6 := (b2.far (p := ⟨q, 0, none⟩) (b2.ne_ b1 (by decide)) (.int .i64 0)).set_ 0 (.bool false)
        have y5 := x5.cell 0
        have y6 := x6.cell 0
        simp at y5 y6
        have hk5 : Keeps nowhere w ((wr.setCell ⟨q, 0, none⟩ (.int .i64 0)).setCell ⟨q2, 0, none⟩ (.bool false)) := (hk.setCell (p := ⟨q, 0, none⟩) (fun h => by have := Hq.out; simp at h; omega) _).setCell (p := ⟨q2, 0, none⟩) (fun h => by have := Hq2.out; simp at h; omega) _
        have hpan := rcaught_panic q q2 k false [] wr b1 b2
        clear b1 b2 x5 x6 hk hrs hcons hr hj
        have Ho := Lib.hid ho
        have Hfin := Lib.hid hfin
        have Hk5 := Lib.hid hk5
        have Hpan := Lib.hid hpan
        clear ho hfin hk5 hpan
        go_wp2_with fail
        refine Ho.out.mono ?_
        rintro e w' ⟨rfl, rfl⟩
        refine leaves_cons (f := 127) (args := #[.pointer (some ⟨q, 0, none⟩), .pointer (some ⟨q2, 0, none⟩)]) (by simp) (by simp [go_sem]) ?_
        refine Hpan.out.mono ?_
        rintro e u' w'' ⟨rfl, rfl, rfl⟩
        simp [Leaves, settle, results, Tryd.results105, go_sem, y5, y6]
        exact ⟨by rw [Hfin.out]; rfl, Hk5.out⟩
      · have ho := ho0.mono (R' := fun e w' => w' = wr ∧ e = .returned (.int .i64 j)) (fun e w' h => ⟨h.1, by have := h.2; rw [← hj, if_neg h0] at this; exact this⟩)
        rw [if_neg h0] at hcons
        clear ho0
        have hjl : j ≤ r.length := by rw [hj]; exact rune1_le r
        have hd := strOf_drop r j
        have hjI : (j : Int) ≤ r.length := by omega
        have hj0 : (0 : Int) ≤ j := by omega
        have hk1 : IntKind.i64.wrap ((k : Int) + 1) = (k : Int) + 1 := IntWalk.i64_in _ (by omega)
        have hrs2 : runesS s = (runesS (r.drop j)).map (· + (k + 1)) := by
          rw [hrs, hcons, Option.map_map]
          congr 1
          funext x
          simp
          omega
        have b5 := b1.set_ 0 (.int .i64 ((k : Int) + 1))
        have b6 := b2.far (p := ⟨q, 0, none⟩) (b2.ne_ b1 (by decide)) (.int .i64 ((k : Int) + 1))
        have hk5 := hk.setCell (p := ⟨q, 0, none⟩) (fun h => by have := Hq.out; simp at h; omega) (.int .i64 ((k : Int) + 1))
        clear b1 b2 hk hrs hcons hr hj
        have Ho := Lib.hid ho
        have Hrs2 := Lib.hid hrs2
        have B5 := Lib.hid b5
        have B6 := Lib.hid b6
        have Hk5 := Lib.hid hk5
        clear ho hrs2 b5 b6 hk5
        go_wp2_with fail
        refine Ho.out.mono ?_
        rintro e w' ⟨rfl, rfl⟩
        go_wp2_with fail
        go_roundw
        case rel => exact ⟨r.drop j, k + 1, by simp, Hrs2.out, by simp; omega, by have := B5.out; simpa using this, B6.out, Hk5.out⟩
        case measure => simp [strOf_size]; omega
end Go.Proofs.YtnlmdfbjmhcilaaDoor
/- Layings of the shelf's contracts at this seat, in plain words (the kit's tool lay-plain.mjs wrote them; wip/layp.py). -/
namespace Go.Proofs.YtnlmdfbjmhcilaaDoor
open Go.Shelf Go.Proofs
def containsP_ren : Go.Shelf.Ren := ⟨fun | 144 => 106 | 143 => 102 | 219 => 125 | 217 => 137 | 225 => 138 | 224 => 139 | 267 => 140 | 266 => 144 | 314 => 145 | n => n, fun | 9 => 9 | 4 => 4 | 3 => 3 | 5 => 5 | 46 => 118 | 146 => 181 | 51 => 36 | n => n, fun | 1 => 0 | n => n⟩
theorem containsP : Go.Proofs.Lays.n144 Tryd.prog containsP_ren := {
  mixed := by kernel_rfl
  f143 := Tryd.func102.trans (congrArg some (by kernel_rfl))
  f144 := Tryd.func106.trans (congrArg some (by kernel_rfl))
  f217 := Tryd.func137.trans (congrArg some (by kernel_rfl))
  f219 := Tryd.func125.trans (congrArg some (by kernel_rfl))
  f224 := Tryd.func139.trans (congrArg some (by kernel_rfl))
  f225 := Tryd.func138.trans (congrArg some (by kernel_rfl))
  f266 := Tryd.func144.trans (congrArg some (by kernel_rfl))
  f267 := Tryd.func140.trans (congrArg some (by kernel_rfl))
  f314 := Tryd.func145.trans (congrArg some (by kernel_rfl))
  t3 := Tryd.underlying3
  a3 := Tryd.isAgg3
  z3 := Tryd.sizeOf3
  v3 := Tryd.zeroValue3
  t4 := Tryd.underlying4
  a4 := Tryd.isAgg4
  z4 := Tryd.sizeOf4
  v4 := Tryd.zeroValue4
  t5 := Tryd.underlying5
  a5 := Tryd.isAgg5
  z5 := Tryd.sizeOf5
  v5 := Tryd.zeroValue5
  t9 := Tryd.underlying9
  a9 := Tryd.isAgg9
  z9 := Tryd.sizeOf9
  v9 := Tryd.zeroValue9
  t46 := Tryd.underlying118
  a46 := Tryd.isAgg118
  z46 := Tryd.sizeOf118
  v46 := Tryd.zeroValue118
  t51 := Tryd.underlying36
  a51 := Tryd.isAgg36
  z51 := Tryd.sizeOf36
  v51 := Tryd.zeroValue36
  t146 := Tryd.underlying181
  a146 := Tryd.isAgg181
  z146 := Tryd.sizeOf181
  v146 := Tryd.zeroValue181
  g1 := by kernel_rfl }
end Go.Proofs.YtnlmdfbjmhcilaaDoor
/-
  text.Valid, text.bad.
-/
namespace Go.Proofs.YtnlmdfbjmhcilaaDoor
open Go.RowKit Go.Proofs Go.Shelf
attribute [local go_sem] strOf_size strOf_get

theorem index_has (c : UInt8) : ∀ s : List UInt8, decide (0 ≤ Lib.indexByte s c) = s.contains c
  | [] => rfl
  | b :: l => by
    have ih := index_has c l
    have hg := Lib.indexByte_ge l c
    unfold Lib.indexByte
    by_cases h : b = c
    · subst h; simp
    · have h1 : (b == c) = false := by simp [h]
      rw [h1]
      simp only [Bool.false_eq_true, if_false]
      have h2 : (b :: l).contains c = l.contains c := by simp [Ne.symm h]
      rw [h2, ← ih]
      by_cases h3 : Lib.indexByte l c = -1
      · simp [h3]
      · have : (Lib.indexByte l c == -1) = false := by simp [h3]
        rw [this]
        simp only [Bool.false_eq_true, if_false]
        rw [decide_eq_decide]
        omega
theorem has0_any (s : List UInt8) (w : World) : Calls Tryd.prog 106 #[.string (strOf s), .string ⟨#[0]⟩] w fun e w' => e = .returned (.bool (s.contains 0)) ∧ w' = w := by
  refine (Any.strings_Contains_one { containsP with } (strOf s) 0 w).mono fun e w' ⟨he, hw⟩ => ⟨?_, hw⟩
  rw [he, show (strOf s).data.toList = s from by simp [strOf], index_has]
set_option maxHeartbeats 1000000 in
theorem valid_any (s : List UInt8) (hl : s.length ≤ 1000000000) (w : World) : Calls Tryd.prog 81 #[.string (strOf s)] w fun e w' => e = .returned (.bool (validS s)) ∧ Keeps nowhere w w' := by
  have hr := runes_any s hl w
  have hc := fun w => has0_any s w
  unfold RunesP at hr
  obtain ⟨n, hn⟩ : ∃ n : Nat, n = (runesS s).getD 0 := ⟨_, rfl⟩
  rw [← hn] at hr
  cases ho : (runesS s).isSome with
  | false =>
    have hv : validS s = false := by unfold validS; rw [ho]; rfl
    rw [ho] at hr
    rw [hv]
    have Hr := Lib.hid hr
    have Hc := Lib.hid hc
    have Hn := Lib.hid hn
    have Ho := Lib.hid ho
    have Hv := Lib.hid hv
    clear hr hc hn ho hv
    go_enter Tryd.func81, Tryd.ntmps81
    go_wp2_with fail
    refine Hr.out.mono ?_
    rintro e w1 ⟨rfl, hk1⟩
    go_wp2_with fail
    go_ret
    exact ⟨rfl, hk1⟩
  | true =>
    rw [ho] at hr
    by_cases h64 : s.length ≤ 64
    · have h64I : (s.length : Int) ≤ 64 := by omega
      obtain ⟨b, hb⟩ : ∃ b, b = s.contains 0 := ⟨_, rfl⟩
      have hv : validS s = !b := by unfold validS; rw [ho, hb]; simp [h64]
      rw [← hb] at hc
      rw [hv]
      have Hr := Lib.hid hr
      have Hc := Lib.hid hc
      have Hn := Lib.hid hn
      have Ho := Lib.hid ho
      have Hv := Lib.hid hv
      have Hb := Lib.hid hb
      clear hr hc hn ho hv hb
      go_enter Tryd.func81, Tryd.ntmps81
      go_wp2_with fail
      refine Hr.out.mono ?_
      rintro e w1 ⟨rfl, hk1⟩
      go_wp2_with fail
      refine (Hc.out w1).mono ?_
      rintro e w2 ⟨rfl, rfl⟩
      go_wp2_with fail
      go_ret
      exact ⟨rfl, hk1⟩
    · have h64I : ¬ (s.length : Int) ≤ 64 := by omega
      have h64D : decide ((s.length : Int) ≤ 64) = false := by simp; omega
      have hv : validS s = false := by unfold validS; rw [ho]; simp; intro h; omega
      rw [hv]
      have Hr := Lib.hid hr
      have Hc := Lib.hid hc
      have Hn := Lib.hid hn
      have Ho := Lib.hid ho
      have Hv := Lib.hid hv
      clear hr hc hn ho hv
      go_enter Tryd.func81, Tryd.ntmps81
      go_wp2_with fail
      refine Hr.out.mono ?_
      rintro e w1 ⟨rfl, hk1⟩
      go_wp2_with fail
      go_ret
      exact ⟨rfl, hk1⟩
def badC (c : UInt8) : Bool := decide (c.toNat < 32) || c.toNat == 47
theorem bad_any (c : UInt8) (w : World) : Calls Tryd.prog 82 #[bv c] w fun e w' => e = .returned (.bool (badC c)) ∧ w' = w := by
  unfold bv
  by_cases h : c.toNat < 32
  · have hI : (c.toNat : Int) < 32 := by omega
    have hb : badC c = true := by unfold badC; simp [h]
    rw [hb]
    go_enter Tryd.func82, Tryd.ntmps82
    go_wp2
    go_ret
    exact ⟨rfl, rfl⟩
  · have hI : ¬ (c.toNat : Int) < 32 := by omega
    have hb : badC c = ((c.toNat : Int) == 47) := by
      unfold badC
      rw [show decide (c.toNat < 32) = false by simp; omega, Bool.false_or, Bool.eq_iff_iff]
      simp
      omega
    rw [hb]
    go_enter Tryd.func82, Tryd.ntmps82
    go_wp2
    go_ret
    exact ⟨by simp, rfl⟩
end Go.Proofs.YtnlmdfbjmhcilaaDoor
/-
  Rows of bytes; a string as bytes.
-/
namespace Go.Proofs.YtnlmdfbjmhcilaaDoor
open Go.RowKit
def recB : RecT UInt8 := ⟨5, 1, fun x => [bv x], fun _ => rfl, fun _ u hu => by rw [List.mem_singleton.1 hu]; rfl, by decide⟩
theorem conv_bytes (s : List UInt8) (hl : s.length ≤ 1000000000) (w : World) : ∃ c W, (convert 9 25 (.string (strOf s))).run Tryd.prog w = .ok (.slice (some ⟨w.heap.size, 0, none⟩) s.length c) W ∧ recB.Rd W (.slice (some ⟨w.heap.size, 0, none⟩) s.length c) (some w.heap.size) s ∧ Keeps nowhere w W := by
  have hsz : (strOf s).size = s.length := by simp [strOf, ByteArray.size]
  have hrun := run_bytes_of_string (P := Tryd.prog) w 9 25 5 (strOf s) Tryd.underlying9 Tryd.underlying25 Tryd.underlying5
  obtain ⟨cap, hcap⟩ : ∃ cap, cap = grownCap w (strOf s).size 0 5 := ⟨_, rfl⟩
  have hge : s.length ≤ cap := by rw [hcap, ← hsz]; exact grownCap_ge w _ 0 _
  have hle : cap ≤ maxLen := by rw [hcap]; exact grownCap_le_maxLen w _ 0 _ (by rw [hsz]; unfold maxLen; omega)
  rw [← hcap, hsz] at hrun
  refine ⟨cap, _, hrun, ?_, ((Keeps.refl nowhere w).drew).alloc _⟩
  refine ⟨_, cap, rfl, hge, hle, fun b hb => by injection hb with hb; rw [← hb]; simp, fun _ => ⟨w.heap.size, 0, rfl, rfl, fun i t hi k hk => ?_⟩, fun h => by cases h⟩
  have hk0 : k = 0 := by have : k < 1 := hk; omega
  subst hk0
  have hil := (List.getElem?_eq_some_iff.1 hi).1
  rw [show 0 + i * recB.n + 0 = i by show 0 + i * 1 + 0 = i; omega]
  have hcell := cell_of_row (w.drew.alloc (.cells (bytesRow (strOf s) cap) 5 ((bytesRow (strOf s) cap).size, (bytesRow (strOf s) cap).size + 1))) w.heap.size i _ _ _ (heap_alloc_new w.drew _)
  rw [hcell]
  unfold bytesRow
  rw [Array.getElem?_append_left (by simp [strOf]; exact hil)]
  simp [strOf, hi, recB, bv]
end Go.Proofs.YtnlmdfbjmhcilaaDoor
/-
  text.Name.
-/
namespace Go.Proofs.YtnlmdfbjmhcilaaDoor
open Go.RowKit Go.Proofs Go.Shelf
attribute [local go_sem] strOf_size strOf_get strOf_toList

def NameP (s : List UInt8) (w : World) : Ending → World → Prop := fun e w' => e = .returned (.int .i64 (nameE s)) ∧ Keeps nowhere w w'
theorem rdBy_cell {w w' : World} {A : Option Addr} {n c : Nat} {g : Option Nat} {L : List UInt8} (h : recB.Rd w (.slice A n c) g L) (hk : Keeps nowhere w w') {i : Nat} {x : UInt8} (hx : L[i]? = some x) : ∃ b o, A = some ⟨b, o, none⟩ ∧ w'.cell? ⟨b, o + i, none⟩ = some (bv x) := by
  obtain ⟨A', c', hv, -, -, -, h3, -⟩ := h.same hk
  injection hv with h1 _ _
  obtain ⟨b, o, hA, -, hc⟩ := h3 (by have := (List.getElem?_eq_some_iff.1 hx).1; omega)
  refine ⟨b, o, h1.trans hA, ?_⟩
  have := hc i x hx 0 (by decide)
  rw [show i * recB.n = i from Nat.mul_one i] at this
  simpa [recB] using this
set_option maxRecDepth 20000 in
set_option maxHeartbeats 4000000 in
theorem name_any (s : List UInt8) (hl : s.length ≤ 1000000000) (w : World) : Calls Tryd.prog 54 #[.string (strOf s)] w (NameP s w) := by
  have hv := valid_any s hl w
  obtain ⟨b, hb⟩ : ∃ b, b = validS s := ⟨_, rfl⟩
  rw [← hb] at hv
  cases b with
  | false =>
    have hn : nameE s = 6 := by unfold nameE nameBad; rw [← hb]; rfl
    unfold NameP
    rw [hn]
    have Hv := Lib.hid hv
    have Hb := Lib.hid hb
    have Hn := Lib.hid hn
    clear hv hb hn
    go_enter Tryd.func54, Tryd.ntmps54
    go_wp2_with fail
    refine Hv.out.mono ?_
    rintro e w1 ⟨rfl, hk1⟩
    go_wp2_with fail
    go_ret
    exact ⟨rfl, hk1⟩
  | true =>
    by_cases h0 : s = []
    · have x0 : s.isEmpty = true := by rw [h0]; rfl
      have y0 : (s == []) = true := by rw [h0]; rfl
      have hnb : nameBad s = true := by unfold nameBad; rw [y0]; simp
      have hn : nameE s = 6 := by unfold nameE; rw [if_pos hnb]
      unfold NameP
      rw [hn]
      clear h0 hnb y0
      have Hv := Lib.hid hv
      have Hb := Lib.hid hb
      have Hn := Lib.hid hn
      clear hv hb hn
      go_enter Tryd.func54, Tryd.ntmps54
      go_wp2_with fail
      refine Hv.out.mono ?_
      rintro e w1 ⟨rfl, hk1⟩
      go_wp2_with fail
      go_ret
      exact ⟨rfl, hk1⟩
    · have x0 : s.isEmpty = false := by simp [h0]
      by_cases h1 : s = [46]
      · have x1 : (s == [46]) = true := by rw [h1]; rfl
        have hnb : nameBad s = true := by unfold nameBad; rw [x1]; simp
        have hn : nameE s = 6 := by unfold nameE; rw [if_pos hnb]
        clear h1 hnb
        unfold NameP
        rw [hn]
        have Hv := Lib.hid hv
        have Hb := Lib.hid hb
        have Hn := Lib.hid hn
        clear hv hb hn
        go_enter Tryd.func54, Tryd.ntmps54
        go_wp2_with fail
        refine Hv.out.mono ?_
        rintro e w1 ⟨rfl, hk1⟩
        go_wp2_with fail
        go_ret
        exact ⟨rfl, hk1⟩
      · have x1 : (s == [46]) = false := by simp [h1]
        by_cases h2 : s = [46, 46]
        · have x2 : (s == [46, 46]) = true := by rw [h2]; rfl
          have hnb : nameBad s = true := by unfold nameBad; rw [x2]; simp
          have hn : nameE s = 6 := by unfold nameE; rw [if_pos hnb]
          clear h2 hnb
          unfold NameP
          rw [hn]
          have Hv := Lib.hid hv
          have Hb := Lib.hid hb
          have Hn := Lib.hid hn
          clear hv hb hn
          go_enter Tryd.func54, Tryd.ntmps54
          go_wp2_with fail
          refine Hv.out.mono ?_
          rintro e w1 ⟨rfl, hk1⟩
          go_wp2_with fail
          go_ret
          exact ⟨rfl, hk1⟩
        · have x2 : (s == [46, 46]) = false := by simp [h2]
          have hnb : nameBad s = false := by unfold nameBad; rw [← hb]; simp [h0, h1, h2]
          obtain ⟨n, hn⟩ : ∃ n, n = s.length := ⟨_, rfl⟩
          have Hv := Lib.hid hv
          have Hb := Lib.hid hb
          have Hnb := Lib.hid hnb
          clear hv hb hnb
          go_enter Tryd.func54, Tryd.ntmps54
          go_wp2_with fail
          refine Hv.out.mono ?_
          rintro e w1 ⟨rfl, hk1⟩
          obtain ⟨c, W, hconv, hrd, hkW⟩ := conv_bytes s hl w1
          obtain ⟨q, hq⟩ : ∃ q, q = w1.heap.size := ⟨_, rfl⟩
          rw [← hq] at hconv hrd
          rw [← hn] at hconv hrd
          have hkw := hk1.more hkW
          clear hk1 hkW
          have Hrd := Lib.hid hrd
          have Hkw := Lib.hid hkw
          have Hn := Lib.hid hn
          have Hq := Lib.hid hq
          clear hrd hkw hn hq
          go_wp2_with fail
          go_loop [23] (fun iv => ∃ i : Nat, iv = .int .i64 i ∧ i ≤ n ∧ ∀ j x, j < i → s[j]? = some x → badC x = false) (fun iv => n - (intOf iv).toNat)
          case atStart => exact ⟨0, rfl, Nat.zero_le _, fun j x h => by omega⟩
          case round =>
            obtain ⟨i, rfl, hi, hok⟩ := hrel
            by_cases hlt : i < n
            · have hltI : (i : Int) < n := by omega
              have hi0 : (0 : Int) ≤ (i : Int) := by omega
              have hi1 : IntKind.i64.wrap ((i : Int) + 1) = i + 1 := IntWalk.i64_in _ (by have := Hn.out; omega)
              obtain ⟨x, hx⟩ : ∃ x, s[i]? = some x := ⟨_, List.getElem?_eq_getElem (by rw [← Hn.out]; exact hlt)⟩
              obtain ⟨b1, o1, hA, cx⟩ := rdBy_cell Hrd.out (Keeps.refl nowhere W) hx
              injection hA with hA
              injection hA with e1 e2
              subst e1 e2
              rw [Nat.zero_add] at cx
              have hbd := bad_any x W
              unfold bv at cx hbd
              cases hbx : badC x with
              | true =>
                have hne : nameE s = 6 := by
                  unfold nameE
                  rw [Hnb.out, if_neg (by simp), if_pos]
                  rw [List.any_eq_true]
                  exact ⟨x, List.mem_of_getElem? hx, hbx⟩
                unfold NameP
                rw [hne]
                rw [hbx] at hbd
                clear hok
                have Hbd := Lib.hid hbd
                have Hx := Lib.hid hx
                have Hbx := Lib.hid hbx
                have Hne := Lib.hid hne
                clear hbd hx hbx hne
                go_wp2_with fail
                refine Hbd.out.mono ?_
                rintro e w2 ⟨rfl, rfl⟩
                go_wp2_with fail
                go_ret
                exact ⟨rfl, Hkw.out⟩
              | false =>
                rw [hbx] at hbd
                have hok2 : ∀ j y, j < i + 1 → s[j]? = some y → badC y = false := fun j y hj hy => by
                  by_cases e : j < i
                  · exact hok j y e hy
                  · have : j = i := by omega
                    subst this
                    rw [hx] at hy
                    injection hy with hy
                    subst hy
                    exact hbx
                clear hok
                have Hbd := Lib.hid hbd
                have Hx := Lib.hid hx
                have Hbx := Lib.hid hbx
                have Hok2 := Lib.hid hok2
                clear hbd hx hbx hok2
                go_wp2_with fail
                refine Hbd.out.mono ?_
                rintro e w2 ⟨rfl, rfl⟩
                go_wp2_with fail
                go_round
                case rel => exact ⟨i + 1, by simp, by omega, Hok2.out⟩
                case measure => simp [intOf]; omega
            · obtain rfl : i = n := by omega
              have hiI : ¬ (i : Int) < i := by omega
              have hany : s.any (fun c => decide (c.toNat < 32) || c.toNat == 47) = false := by
                rw [Bool.eq_false_iff]
                intro h
                rw [List.any_eq_true] at h
                obtain ⟨x, hx, hb⟩ := h
                obtain ⟨j, hj, e⟩ := List.getElem_of_mem hx
                have := hok j x (by rw [Hn.out]; exact hj) (by rw [List.getElem?_eq_getElem hj, e])
                unfold badC at this
                rw [this] at hb
                cases hb
              by_cases h28 : 28 < i
              · have h28I : (28 : Int) < (s.length : Int) := by have := Hn.out; omega
                have hne : nameE s = 3 := by
                  unfold nameE
                  rw [Hnb.out, if_neg (by simp), hany, if_neg (by simp), if_pos (by rw [← Hn.out]; exact h28)]
                clear hok hany
                have Hne := Lib.hid hne
                clear hne
                go_wp2_with fail
                go_ret
                exact ⟨by rw [Hne.out]; rfl, Hkw.out⟩
              · have h28I : ¬ (28 : Int) < (s.length : Int) := by have := Hn.out; omega
                have hne : nameE s = 0 := by
                  unfold nameE
                  rw [Hnb.out, if_neg (by simp), hany, if_neg (by simp), if_neg (by rw [← Hn.out]; exact h28)]
                clear hok hany
                have Hne := Lib.hid hne
                clear hne
                go_wp2_with fail
                go_ret
                exact ⟨by rw [Hne.out]; rfl, Hkw.out⟩
end Go.Proofs.YtnlmdfbjmhcilaaDoor
