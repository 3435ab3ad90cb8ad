/-
  inode: an inode as a value and in memory; slices of 32-bit numbers: Clone, Max; the inode's blocks.
-/
import Derived.Test.YtblmbchjafffbaaCat
import Derived.Test.YtblmbchjafffbaaTree
namespace Go.Proofs.Ytblmbchjafffbaa
open Go.RowKit

structure Ino where
  m : Nat
  v : Nat
  s : Nat
  l : Nat
  d0 : Nat
  d1 : Nat
  d2 : Nat
  d3 : Nat
  d4 : Nat
  d5 : Nat
  d6 : Nat
  d7 : Nat
  a : Nat
  b : Nat

def Ino.ok (i : Ino) : Prop := i.m < 4294967296 ∧ i.v < 4294967296 ∧ i.s < 4294967296 ∧ i.l < 65536 ∧ i.d0 < 4294967296 ∧ i.d1 < 4294967296 ∧ i.d2 < 4294967296 ∧ i.d3 < 4294967296 ∧ i.d4 < 4294967296 ∧ i.d5 < 4294967296 ∧ i.d6 < 4294967296 ∧ i.d7 < 4294967296 ∧ i.a < 4294967296 ∧ i.b < 4294967296
def Ino.cells (i : Ino) : Array Value := #[.int .u32 (i.m : Int), .int .u32 (i.v : Int), .int .u32 (i.s : Int), .int .u16 (i.l : Int), .int .u32 (i.d0 : Int), .int .u32 (i.d1 : Int), .int .u32 (i.d2 : Int), .int .u32 (i.d3 : Int), .int .u32 (i.d4 : Int), .int .u32 (i.d5 : Int), .int .u32 (i.d6 : Int), .int .u32 (i.d7 : Int), .int .u32 (i.a : Int), .int .u32 (i.b : Int)]
def Ino.val (i : Ino) : Value := .agg i.cells
def Ino.blocks (i : Ino) : List Nat := [i.d0, i.d1, i.d2, i.d3, i.d4, i.d5, i.d6, i.d7, i.a, i.b]
def Ino.dir (i : Ino) : List Nat := [i.d0, i.d1, i.d2, i.d3, i.d4, i.d5, i.d6, i.d7]

def wv (x : Nat) : Value := .int .u32 (x : Int)
theorem wv_one (L : List Nat) : ∀ u ∈ L.map wv, u.oneCell' = true := by
  intro u hu
  obtain ⟨x, _, rfl⟩ := List.mem_map.1 hu
  rfl
theorem infoU32 : (Try.prog.info? 36).map (fun i => (i.zero, i.size, i.bytes)) = some (some (.int .u32 0), 1, 4) := by kernel_rfl

/-- The value owns a row of 32-bit numbers. -/
def OwnW (w : World) (v : Value) (xs : List Nat) : Prop := w.ownsRow 0 36 1 v xs.length (xs.map wv)
theorem OwnW.rd {w : World} {v : Value} {xs : List Nat} (h : OwnW w v xs) : Rd w v v.ownBlock (xs.map wv) := Rd.of_own h
theorem OwnW.keep {w w' : World} {v : Value} {xs : List Nat} {S : Nat → Prop} (h : OwnW w v xs) (hk : Keeps S w w') (hs : ∀ b, v.ownBlock = some b → ¬ S b) : OwnW w' v xs := own_keep h hk hs
theorem OwnW.lt {w : World} {v : Value} {xs : List Nat} (h : OwnW w v xs) : Under w.heap.size v.ownBlock := fun b hb => (World.ownsRow.lt h b hb).2

def RetOwnW (w : World) (xs : List Nat) : Ending → World → Prop := fun e w' =>
  ∃ v', e = .returned v' ∧ OwnW w' v' xs ∧ Above w.heap.size v'.ownBlock ∧ Keeps nowhere w w'

section
variable {ops : Array Oper} {rest : List Oper} {o : Oper} {a : Act} {Q : Exit → Act → World → Prop} {w : World}
theorem wpList_append_w (hgd : o.guard = none) (s x : Operand) (ho : o.op = .call { callee := .builtin .append, args := #[s, x], argTypes := #[89, 89] })
    (v : Value) (xs : List Nat) (hs : a.eval s = v) (hown : OwnW w v xs) (vx : Value) (gx : Option Nat) (ys : List Nat) (hx : a.eval x = vx) (hr : Rd w vx gx (ys.map wv)) (hb : xs.length + ys.length ≤ 1099511627776)
    (h : ∀ v' w', OwnW w' v' (xs ++ ys) → Keeps (fun b => v.ownBlock = some b) w w' → From v.ownBlock w.heap.size v'.ownBlock → wpList Try.prog ops Q rest (a.put o.dst v') w') : wpList Try.prog ops Q (o :: rest) a w := by
  obtain ⟨i0, hi, hz0, hz1, hz2⟩ := info_parts infoU32
  refine wpList_append_rd w hgd s x _ ho 0 36 i0 _ 4 Try.underlying89 hi hz0 hz1 hz2 rfl v xs.length (xs.map wv) hs hown vx gx (ys.map wv) hx hr (wv_one ys) (by simp [maxLen]; omega) (by simp; omega) (Nat.zero_le _) fun v' w' k1 k2 k3 => ?_
  exact h v' w' (by unfold OwnW; simpa using k1) (keeps_append k2) k3
end

set_option maxHeartbeats 400000 in
theorem clone_w (a : Addr) (c : Nat) (xs : List Nat) (w : World) (hr : Rd w (.slice (some a) xs.length c) (some a.block) (xs.map wv)) (hb : xs.length ≤ 1099511627776) :
    Calls Try.prog 60 #[.slice (some a) xs.length c] w (RetOwnW w xs) := by
  have q22 := fun (w : World) (a : Option Addr) (n c n' c' : Nat) => Lib.run_eql_slice_nil (P := Try.prog) w 89 36 a n c n' c' Try.underlying89
  have hka := (Keeps.refl nowhere w).alloc (.cells #[] 36)
  have hr2 := hr.keep hka (fun _ _ h => h)
  have hown : OwnW (w.alloc (.cells #[] 36)) (.slice (some ⟨w.heap.size, 0, none⟩) 0 0) [] := World.ownsRow_made w #[] 0 (Nat.zero_le _) (Nat.zero_le _) rfl
  have Hr := Lib.hid hr
  have Hka := Lib.hid hka
  have Hr2 := Lib.hid hr2
  have Hown := Lib.hid hown
  clear hr hka hr2 hown
  go_enter Try.func60, Try.ntmps60
  go_wp2_with (at_builtin; go_must (refine wpList_append_w rfl _ _ rfl _ _ rfl Hown.out _ _ xs rfl Hr2.out (by simp; omega) ?_))
  intro v' w1 hown1 hk1 hf1
  have hab : Above w.heap.size v'.ownBlock := fun b hb => (hf1 b hb).elim (fun e => by simp [Value.ownBlock] at e; omega) (fun h => by have := Hka.out.size; omega)
  have hkw : Keeps nowhere w w1 := Hka.out.trans hk1 fun b hb e => by simp [Value.ownBlock] at e; omega
  replace hown1 : OwnW w1 v' xs := hown1
  have Hown1 := Lib.hid hown1
  have Hk1 := Lib.hid hk1
  have Hf1 := Lib.hid hf1
  have Hab := Lib.hid hab
  have Hkw := Lib.hid hkw
  clear hown1 hk1 hf1 hab hkw
  go_wp2
  go_ret
  exact ⟨v', rfl, Hown1.out, Hab.out, Hkw.out⟩

def maxL : List Nat → Nat := fun xs => xs.foldl max 0
theorem maxL_snoc (xs : List Nat) (x : Nat) : maxL (xs ++ [x]) = max (maxL xs) x := by simp [maxL]

set_option maxHeartbeats 400000 in
theorem max_w (v : Value) (g : Option Nat) (xs : List Nat) (w : World) (hr : Rd w v g (xs.map wv)) (h0 : 0 < xs.length) (hb : xs.length ≤ 1099511627776) :
    Calls Try.prog 49 #[v] w fun e w' => e = .returned (.int .u32 (maxL xs : Nat)) ∧ w = w' := by
  obtain ⟨b, o, c, rfl, rfl, hlt, hl, hm, hc⟩ := hr.plain (by simpa using h0)
  rw [List.length_map] at *
  have hcell : ∀ k (hk : k < xs.length), w.cell? ⟨b, o + k, none⟩ = some (.int .u32 (xs[k] : Nat)) := fun k hk => hc k _ (by simp [wv, hk])
  have hc0 := hcell 0 h0
  rw [Nat.add_zero] at hc0
  obtain ⟨n, hn⟩ : ∃ n, n = xs.length := ⟨_, rfl⟩
  have hx1 : xs.take 1 = [xs[0]] := by
    match xs, h0 with
    | x :: xs, _ => rfl
  have h1 : maxL (xs.take 1) = xs[0] := by rw [hx1]; simp [maxL]
  obtain ⟨x0, hx0⟩ : ∃ x0, x0 = xs[0] := ⟨_, rfl⟩
  rw [← hx0] at h1 hc0
  rw [← hn] at hl ⊢
  have hn1 : ¬ (n : Int) < 1 := by omega
  have hn0 : (0 : Int) < n := by omega
  have Hr := Lib.hid hr
  have Hc := Lib.hid hc
  have Hcell := Lib.hid hcell
  have Hn := Lib.hid hn
  have H1 := Lib.hid h1
  have Hx0 := Lib.hid hx0
  have Hx1 := Lib.hid hx1
  clear hr hc hcell hn h1 hx0 hx1
  go_enter Try.func49, Try.ntmps49
  go_wp2
  go_loop [3, 4] (fun m i => ∃ k : Nat, 1 ≤ k ∧ k ≤ n ∧ i = .int .i64 k ∧ m = .int .u32 (maxL (xs.take k) : Nat)) (fun _ i => n - (intOf i).toNat)
  case atStart => exact ⟨1, Nat.le_refl _, by omega, rfl, by rw [H1.out]⟩
  case round =>
    obtain ⟨k, hk1, hkn, rfl, rfl⟩ := hrel
    by_cases hlt : k < n
    · have hkx : k < xs.length := by rw [← Hn.out]; exact hlt
      have hck := Hcell.out k hkx
      have hsucc : max (maxL (xs.take k)) xs[k] = maxL (xs.take (k + 1)) := by rw [List.take_add_one, List.getElem?_eq_getElem hkx, Option.toList_some, maxL_snoc]
      obtain ⟨y, hy⟩ : ∃ y, y = xs[k] := ⟨_, rfl⟩
      obtain ⟨z, hz⟩ : ∃ z, z = maxL (xs.take k) := ⟨_, rfl⟩
      rw [← hy] at hck hsucc
      rw [← hz] at hsucc
      rw [← hz]
      have hk0 : (0 : Int) ≤ k ∧ (k : Int) < n := by omega
      have Hy := Lib.hid hy
      have Hz := Lib.hid hz
      have Hsucc := Lib.hid hsucc
      clear hy hz hsucc
      go_wp2
      go_roundw
      case rel => exact ⟨k + 1, by omega, by omega, by go_num, by rw [← Hsucc.out]; congr 1; omega⟩
      case measure => simp [intOf]; omega
    · obtain rfl : k = n := by omega
      go_wp2
      go_ret
      exact ⟨by rw [Hn.out, List.take_length]; rfl, rfl⟩
end Go.Proofs.Ytblmbchjafffbaa
