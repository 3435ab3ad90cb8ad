/-
  inode: the statement InodeTurned, walked.
-/
import Derived.Test.YtblmbchjafffbaaI9
namespace Go.Proofs.Ytblmbchjafffbaa
open Go.RowKit

/-- a store into a slice that reads -/
theorem Rd.store {w : World} {b n c : Nat} {xs : List Value} (h : Rd w (.slice (some ⟨b, 0, none⟩) n c) (some b) xs) (j : Nat) (u : Value) (hj : j < xs.length) : Rd (w.setCell ⟨b, j, none⟩ u) (.slice (some ⟨b, 0, none⟩) n c) (some b) (xs.set j u) := by
  obtain ⟨b', o', c', he, hg, hlt, h1, h2, hc⟩ := h.plain (by omega)
  injection he with e1 e2 e3
  injection e1 with e1
  injection e1 with e1 e4
  subst e1 e2 e3 e4
  refine .inr ⟨⟨b, 0, none⟩, c, by simp, fun x hx => by injection hx with hx; subst hx; simpa [World.setCell] using hlt, fun _ => ⟨rfl, rfl⟩, by simpa using h1, h2, fun k v hk => ?_⟩
  rw [Addr.add_lit, Nat.zero_add]
  by_cases hkj : k = j
  · subst hkj
    have hv : v = u := by
      rw [List.getElem?_set_self hj] at hk
      injection hk with hk
      exact hk.symm
    subst hv
    have := hc k _ (List.getElem?_eq_getElem hj)
    rw [Nat.zero_add] at this
    exact World.cell?_setCell_same _ _ _ this
  · rw [List.getElem?_set_ne (Ne.symm hkj)] at hk
    have := hc k v hk
    rw [Nat.zero_add] at this
    rw [World.cell?_setCell_other _ _ _ _ (fun e => hkj (by injection e with e1 e2 e3; exact e2.symm))]
    exact this

theorem xor_u8 (y k : Nat) (hy : y < 256) (hk : k < 8) : bits .xor .u8 (y : Int) ((2 ^ k : Nat) : Int) = ((y ^^^ 2 ^ k : Nat) : Int) ∧ y ^^^ 2 ^ k < 256 ∧ y ^^^ 2 ^ k ≠ y := by
  have hp : 2 ^ k < 256 := by
    match k, hk with
    | 0, _ => decide
    | 1, _ => decide
    | 2, _ => decide
    | 3, _ => decide
    | 4, _ => decide
    | 5, _ => decide
    | 6, _ => decide
    | 7, _ => decide
  have hx : y ^^^ 2 ^ k < 2 ^ 8 := Nat.xor_lt_two_pow (by omega) (by omega)
  have h1 : (BitVec.ofInt 8 (y : Int)).toNat = y := by
    rw [BitVec.ofInt_natCast, BitVec.toNat_ofNat]; exact Nat.mod_eq_of_lt (by omega)
  have h2 : (BitVec.ofInt 8 ((2 ^ k : Nat) : Int)).toNat = 2 ^ k := by
    rw [BitVec.ofInt_natCast, BitVec.toNat_ofNat]; exact Nat.mod_eq_of_lt (by omega)
  refine ⟨?_, by omega, fun e => ?_⟩
  · show IntKind.u8.wrap ((BitVec.ofInt 8 (y : Int) ^^^ BitVec.ofInt 8 ((2 ^ k : Nat) : Int)).toNat : Int) = _
    rw [BitVec.toNat_xor, h1, h2]
    simp [IntKind.wrap, IntKind.bits, IntKind.signed]
    omega
  · have h3 : (y ^^^ 2 ^ k) ^^^ y = y ^^^ y := by rw [e]
    rw [Nat.xor_self, Nat.xor_comm y, Nat.xor_assoc, Nat.xor_self, Nat.xor_zero] at h3
    exact absurd h3 (Nat.ne_of_gt (Nat.two_pow_pos k))

set_option maxHeartbeats 3200000 in
set_option maxRecDepth 20000 in
theorem iturn_walk (i : Ino) (hi : i.ok) (a t : Nat) (ha : a < 256) (ht : t < 256) (w : World) : Calls Try.prog 10 #[i.val, .int .u8 a, .int .u8 t] w (YesI w) := by
  obtain ⟨w1, hw1⟩ : ∃ w1, w1 = w.alloc (.cells i.cells 48) := ⟨_, rfl⟩
  have hk1 : Keeps nowhere w w1 := by rw [hw1]; exact (Keeps.refl _ _).alloc _
  have hb1 : Blk w1 w.heap.size 48 i.cells := by rw [hw1]; exact Blk.new _ _ _
  obtain ⟨C, hC⟩ : ∃ C, C = chkI i := ⟨_, rfl⟩
  unfold Ino.val
  unfold Ino.cells at hw1 ⊢
  have Hk1 := Lib.hid hk1
  have Hb1 := Lib.hid hb1
  have Hw1 := Lib.hid hw1
  have HC := Lib.hid hC
  clear hk1 hb1 hw1 hC
  go_enter Try.func10, Try.ntmps10
  go_wp2_with fail
  rw [← Hw1.out]
  refine (known11 w1).mono ?_
  rintro e w2 ⟨rfl, hk2⟩
  have hb2 := Hb1.out.keep hk2 (fun h => h)
  obtain ⟨c0, c1, c2, c3, c4, c5, c6, c7, c8, c9, c10, c11, c12, c13⟩ := ino_cells hb2
  have hck := lcheck i w2
  unfold Ino.val Ino.cells at hck
  rw [← HC.out] at hck
  have hkw2 := Hk1.out.more hk2
  have Hk2 := Lib.hid hk2
  have Hb2 := Lib.hid hb2
  have Hck := Lib.hid hck
  have Hkw2 := Lib.hid hkw2
  clear hk2 hb2 hck hkw2
  go_wp2_with fail
  refine Hck.out.mono ?_
  rintro e w3 ⟨rfl, hk3⟩
  have hkw3 := Hkw2.out.more hk3
  by_cases hc : C = 0
  · have hc' : (C != 0) = false := by simp [hc]
    have hb3 := Hb2.out.keep hk3 (fun h => h)
    clear c0 c1 c2 c3 c4 c5 c6 c7 c8 c9 c10 c11 c12 c13
    obtain ⟨c0, c1, c2, c3, c4, c5, c6, c7, c8, c9, c10, c11, c12, c13⟩ := ino_cells hb3
    have hen := iencode i hi w3
    unfold Ino.val Ino.cells at hen
    have hchk : chkI i = 0 := by rw [← HC.out]; exact hc
    have hEB : encE i = encB i := by rw [encE, if_pos hchk]
    have Hk3 := Lib.hid hk3
    have Hkw3 := Lib.hid hkw3
    have Hb3 := Lib.hid hb3
    have Hen := Lib.hid hen
    have Hc := Lib.hid hc
    have Hchk := Lib.hid hchk
    have HEB := Lib.hid hEB
    clear hk3 hkw3 hb3 hen hc hchk hEB
    go_wp2_with fail
    refine Hen.out.mono ?_
    rintro e w4 ⟨v4, g4, rfl, hr4, hab4, hk4⟩
    rw [Hchk.out]
    rw [HEB.out] at hr4
    obtain ⟨A4, cc4, rfl, -⟩ := hr4.form
    rw [List.length_map, encB_len] at hr4 ⊢
    have hkw4 := Hkw3.out.more hk4
    have hka := (Keeps.refl nowhere w4).alloc (.cells #[] 5)
    have hr5 := hr4.keep hka (fun _ _ h => h)
    have hkwa := hkw4.more hka
    have hb4 := Hb3.out.keep hk4 (fun h => h)
    have hba := hb4.keep hka (fun h => h)
    have hlen := encB_len i
    obtain ⟨E, hE⟩ : ∃ E, E = encB i := ⟨_, rfl⟩
    rw [← hE] at hr5 hlen
    clear c0 c1 c2 c3 c4 c5 c6 c7 c8 c9 c10 c11 c12 c13
    have Hr4 := Lib.hid hr4
    have Hab4 := Lib.hid hab4
    have Hk4 := Lib.hid hk4
    have Hkw4 := Lib.hid hkw4
    have Hka := Lib.hid hka
    have Hr5 := Lib.hid hr5
    have Hkwa := Lib.hid hkwa
    have Hb4 := Lib.hid hb4
    have Hba := Lib.hid hba
    have Hlen := Lib.hid hlen
    have HE := Lib.hid hE
    clear hr4 hab4 hk4 hkw4 hka hr5 hkwa hb4 hba hlen hE
    go_wp2_with (at_builtin; go_must (refine wpList_append_bytes rfl (.tmp 29) (.tmp 30) rfl _ _ rfl (OwnB.empty w4) _ _ E rfl Hr5.out (by rw [Hlen.out]; simp) ?_))
    intro v6 w6 hown6 hk6 hf6
    replace hown6 : OwnB w6 v6 E := hown6
    have hab6 : Above w4.heap.size v6.ownBlock := fun b hb => (hf6 b hb).elim (fun e => by simp [Value.ownBlock] at e; omega) (fun h => by have := Hka.out.size; omega)
    have hkw6' : Keeps nowhere w4 w6 := Hka.out.trans hk6 fun b hb e => by simp [Value.ownBlock] at e; omega
    have hkw6 := Hkw4.out.more hkw6'
    have hb6 := Hb4.out.keep hkw6' (fun h => h)
    rcases hown6.2 with ⟨rfl, h0⟩ | ⟨g6, c6', cur6, rfl, hbase6, hblk6, hrest6⟩
    · rw [Hlen.out] at h0; omega
    · have hrd6 := hown6.rd
      rw [Hlen.out] at hrd6 hab6 ⊢
      obtain ⟨j, hj⟩ : ∃ j, j = a % 64 := ⟨_, rfl⟩
      obtain ⟨k, hk⟩ : ∃ k, k = t % 8 := ⟨_, rfl⟩
      have hj64 : j < 64 := by omega
      have hk8 : k < 8 := by omega
      have hjI : (a : Int) % 64 = j := by omega
      have hkI : (t : Int) % 8 = k := by omega
      have hjE : j < E.length := by rw [Hlen.out]; exact hj64
      obtain ⟨b', o', c', he, -, hlt6, -, -, hc6⟩ := hrd6.plain (by rw [List.length_map, Hlen.out]; omega)
      injection he with e1 e2 e3
      injection e1 with e1
      injection e1 with e1 e4
      subst e1 e4
      clear e2 e3
      have hcj := hc6 j _ (get_bv E j hjE)
      rw [Nat.zero_add] at hcj
      have hfj : w6.frozen? ⟨g6, j, none⟩ = false := frozen_of_row w6 g6 j cur6 5 hblk6
      obtain ⟨y, hy⟩ : ∃ y, y = E[j].toNat := ⟨_, rfl⟩
      have hcj' : w6.cell? ⟨g6, j, none⟩ = some (.int .u8 (y : Int)) := by rw [hcj, hy]; rfl
      have hy256 : y < 256 := by rw [hy]; exact E[j].toNat_lt
      obtain ⟨hx1, hx2, hx3⟩ := xor_u8 y k hy256 hk8
      obtain ⟨x, hx⟩ : ∃ x, x = y ^^^ 2 ^ k := ⟨_, rfl⟩
      rw [← hx] at hx1 hx2 hx3
      have hj0 : (0 : Int) ≤ j ∧ (j : Int) < 64 := by omega
      clear hcj
      have Hown6 := Lib.hid hown6
      have Hk6 := Lib.hid hk6
      have Hf6 := Lib.hid hf6
      have Hab6 := Lib.hid hab6
      have Hkw6' := Lib.hid hkw6'
      have Hkw6 := Lib.hid hkw6
      have Hb6 := Lib.hid hb6
      have Hblk6 := Lib.hid hblk6
      have Hrd6 := Lib.hid hrd6
      have Hj := Lib.hid hj
      have Hk := Lib.hid hk
      have Hc6 := Lib.hid hc6
      have Hy := Lib.hid hy
      have Hx := Lib.hid hx
      have Hx3 := Lib.hid hx3
      clear hown6 hk6 hf6 hab6 hkw6' hkw6 hb6 hblk6 hrd6 hj hk hc6 hy hx hx3
      clear hrest6
      have hp2 : bits .xor .u8 (y : Int) (2 ^ k % 256) = (x : Int) := by
        have e : ((2 : Int) ^ k % 256) = ((2 ^ k : Nat) : Int) := by
          have h256 : (2 : Nat) ^ k < 256 := by
            match k, hk8 with
            | 0, _ => decide
            | 1, _ => decide
            | 2, _ => decide
            | 3, _ => decide
            | 4, _ => decide
            | 5, _ => decide
            | 6, _ => decide
            | 7, _ => decide
          rw [show (2 : Int) ^ k = ((2 ^ k : Nat) : Int) from by rw [Int.natCast_pow]; rfl]
          generalize 2 ^ k = P at h256 ⊢
          omega
        rw [e, hx1]
      obtain ⟨nb_, hnb⟩ : ∃ b : UInt8, b = UInt8.ofNat x := ⟨_, rfl⟩
      have hbx : bv nb_ = .int .u8 (x : Int) := by rw [hnb]; unfold bv; congr 1; rw [UInt8.toNat_ofNat']; omega
      obtain ⟨L2, hL2⟩ : ∃ L2, L2 = E.set j nb_ := ⟨_, rfl⟩
      have hne2 : L2 ≠ E := fun e => Hx3.out (by
        have h1 : L2[j]? = E[j]? := by rw [e]
        rw [hL2, List.getElem?_set_self hjE, List.getElem?_eq_getElem hjE] at h1
        injection h1 with h1
        have h2 : nb_.toNat = y := by rw [h1, Hy.out]
        rw [hnb, UInt8.toNat_ofNat'] at h2
        omega)
      have hrd7 := Hrd6.out.store j (.int .u8 (x : Int)) (by rw [List.length_map]; exact hjE)
      rw [← hbx, ← List.map_set, ← hL2, hbx] at hrd7
      have hL2l : L2.length = 64 := by rw [hL2, List.length_set, Hlen.out]
      have hkw7 := Hkw6.out.setCell (p := ⟨g6, j, none⟩) (fun h => by have := Hab6.out g6 rfl; have := Hkw4.out.size; simp only at h; omega) (.int .u8 (x : Int))
      have hkw7' := Hkw6'.out.setCell (p := ⟨g6, j, none⟩) (fun h => by have := Hab6.out g6 rfl; simp only at h; omega) (.int .u8 (x : Int))
      have hb7 := Hb4.out.keep hkw7' (fun h => h)
      clear hx1
      have Hnb := Lib.hid hnb
      have Hbx := Lib.hid hbx
      have HL2 := Lib.hid hL2
      have Hne2 := Lib.hid hne2
      have Hrd7 := Lib.hid hrd7
      have HL2l := Lib.hid hL2l
      have Hkw7 := Lib.hid hkw7
      have Hkw7' := Lib.hid hkw7'
      have Hb7 := Lib.hid hb7
      clear hnb hbx hL2 hne2 hrd7 hL2l hkw7 hkw7' hb7
      go_wp2_with fail
      refine (idecode _ _ L2 _ Hrd7.out (by rw [HL2l.out]; omega)).mono ?_
      rintro e w8 ⟨rfl, hk8⟩
      obtain ⟨i2, hi2⟩ : ∃ i2, i2 = decI L2 := ⟨_, rfl⟩
      obtain ⟨e2, he2⟩ : ∃ e2, e2 = decE L2 := ⟨_, rfl⟩
      rw [← hi2, ← he2]
      unfold Ino.val Ino.cells
      have hkw8 := Hkw7.out.more hk8
      have hx9 := Blk.new w8 48 i2.cells
      have hb9 := (Hb7.out.keep hk8 (fun h => h)).alloc (.cells i2.cells 48)
      unfold Ino.cells at hx9
      rw [show i2.cells = #[.int .u32 (i2.m : Int), .int .u32 (i2.v : Int), .int .u32 (i2.s : Int), .int .u16 (i2.l : Int), .int .u32 (i2.d0 : Int), .int .u32 (i2.d1 : Int), .int .u32 (i2.d2 : Int), .int .u32 (i2.d3 : Int), .int .u32 (i2.d4 : Int), .int .u32 (i2.d5 : Int), .int .u32 (i2.d6 : Int), .int .u32 (i2.d7 : Int), .int .u32 (i2.a : Int), .int .u32 (i2.b : Int)] from rfl] at hb9
      have hkw9 := hkw8.alloc (.cells #[.int .u32 (i2.m : Int), .int .u32 (i2.v : Int), .int .u32 (i2.s : Int), .int .u16 (i2.l : Int), .int .u32 (i2.d0 : Int), .int .u32 (i2.d1 : Int), .int .u32 (i2.d2 : Int), .int .u32 (i2.d3 : Int), .int .u32 (i2.d4 : Int), .int .u32 (i2.d5 : Int), .int .u32 (i2.d6 : Int), .int .u32 (i2.d7 : Int), .int .u32 (i2.a : Int), .int .u32 (i2.b : Int)] 48)
      by_cases hg : goodI L2
      · have he0 : e2 = 0 := by rw [he2, decE, if_pos hg]
        subst he0
        have hii : i2 ≠ i := fun e => Hne2.out (by
          have h1 := hg.2
          rw [← show decI L2 = rdI L2 from by rw [decI, if_pos hg], ← hi2, e, ← HE.out] at h1
          exact h1.symm)
        have hq : eqI i2 i = false := by
          cases hqq : eqI i2 i
          · rfl
          · exact absurd ((eqI_iff i2 i).1 hqq) hii
        have hn : ∀ w, (binOp .neq 48 (.agg #[.int .u32 (i2.m : Int), .int .u32 (i2.v : Int), .int .u32 (i2.s : Int), .int .u16 (i2.l : Int), .int .u32 (i2.d0 : Int), .int .u32 (i2.d1 : Int), .int .u32 (i2.d2 : Int), .int .u32 (i2.d3 : Int), .int .u32 (i2.d4 : Int), .int .u32 (i2.d5 : Int), .int .u32 (i2.d6 : Int), .int .u32 (i2.d7 : Int), .int .u32 (i2.a : Int), .int .u32 (i2.b : Int)]) (.agg #[.int .u32 (i.m : Int), .int .u32 (i.v : Int), .int .u32 (i.s : Int), .int .u16 (i.l : Int), .int .u32 (i.d0 : Int), .int .u32 (i.d1 : Int), .int .u32 (i.d2 : Int), .int .u32 (i.d3 : Int), .int .u32 (i.d4 : Int), .int .u32 (i.d5 : Int), .int .u32 (i.d6 : Int), .int .u32 (i.d7 : Int), .int .u32 (i.a : Int), .int .u32 (i.b : Int)])).run Try.prog w = .ok (.bool true) w := fun w => by
          have h := neq_run i2 i w
          rw [hq] at h
          exact h
        have y0 : (w8.alloc (.cells #[.int .u32 (i2.m : Int), .int .u32 (i2.v : Int), .int .u32 (i2.s : Int), .int .u16 (i2.l : Int), .int .u32 (i2.d0 : Int), .int .u32 (i2.d1 : Int), .int .u32 (i2.d2 : Int), .int .u32 (i2.d3 : Int), .int .u32 (i2.d4 : Int), .int .u32 (i2.d5 : Int), .int .u32 (i2.d6 : Int), .int .u32 (i2.d7 : Int), .int .u32 (i2.a : Int), .int .u32 (i2.b : Int)] 48)).cell? ⟨w8.heap.size, 0, none⟩ = some (.int .u32 (i2.m : Int)) := hx9.cell 0
        have y1 : (w8.alloc (.cells #[.int .u32 (i2.m : Int), .int .u32 (i2.v : Int), .int .u32 (i2.s : Int), .int .u16 (i2.l : Int), .int .u32 (i2.d0 : Int), .int .u32 (i2.d1 : Int), .int .u32 (i2.d2 : Int), .int .u32 (i2.d3 : Int), .int .u32 (i2.d4 : Int), .int .u32 (i2.d5 : Int), .int .u32 (i2.d6 : Int), .int .u32 (i2.d7 : Int), .int .u32 (i2.a : Int), .int .u32 (i2.b : Int)] 48)).cell? ⟨w8.heap.size, 1, none⟩ = some (.int .u32 (i2.v : Int)) := hx9.cell 1
        have y2 : (w8.alloc (.cells #[.int .u32 (i2.m : Int), .int .u32 (i2.v : Int), .int .u32 (i2.s : Int), .int .u16 (i2.l : Int), .int .u32 (i2.d0 : Int), .int .u32 (i2.d1 : Int), .int .u32 (i2.d2 : Int), .int .u32 (i2.d3 : Int), .int .u32 (i2.d4 : Int), .int .u32 (i2.d5 : Int), .int .u32 (i2.d6 : Int), .int .u32 (i2.d7 : Int), .int .u32 (i2.a : Int), .int .u32 (i2.b : Int)] 48)).cell? ⟨w8.heap.size, 2, none⟩ = some (.int .u32 (i2.s : Int)) := hx9.cell 2
        have y3 : (w8.alloc (.cells #[.int .u32 (i2.m : Int), .int .u32 (i2.v : Int), .int .u32 (i2.s : Int), .int .u16 (i2.l : Int), .int .u32 (i2.d0 : Int), .int .u32 (i2.d1 : Int), .int .u32 (i2.d2 : Int), .int .u32 (i2.d3 : Int), .int .u32 (i2.d4 : Int), .int .u32 (i2.d5 : Int), .int .u32 (i2.d6 : Int), .int .u32 (i2.d7 : Int), .int .u32 (i2.a : Int), .int .u32 (i2.b : Int)] 48)).cell? ⟨w8.heap.size, 3, none⟩ = some (.int .u16 (i2.l : Int)) := hx9.cell 3
        have y4 : (w8.alloc (.cells #[.int .u32 (i2.m : Int), .int .u32 (i2.v : Int), .int .u32 (i2.s : Int), .int .u16 (i2.l : Int), .int .u32 (i2.d0 : Int), .int .u32 (i2.d1 : Int), .int .u32 (i2.d2 : Int), .int .u32 (i2.d3 : Int), .int .u32 (i2.d4 : Int), .int .u32 (i2.d5 : Int), .int .u32 (i2.d6 : Int), .int .u32 (i2.d7 : Int), .int .u32 (i2.a : Int), .int .u32 (i2.b : Int)] 48)).cell? ⟨w8.heap.size, 4, none⟩ = some (.int .u32 (i2.d0 : Int)) := hx9.cell 4
        have y5 : (w8.alloc (.cells #[.int .u32 (i2.m : Int), .int .u32 (i2.v : Int), .int .u32 (i2.s : Int), .int .u16 (i2.l : Int), .int .u32 (i2.d0 : Int), .int .u32 (i2.d1 : Int), .int .u32 (i2.d2 : Int), .int .u32 (i2.d3 : Int), .int .u32 (i2.d4 : Int), .int .u32 (i2.d5 : Int), .int .u32 (i2.d6 : Int), .int .u32 (i2.d7 : Int), .int .u32 (i2.a : Int), .int .u32 (i2.b : Int)] 48)).cell? ⟨w8.heap.size, 5, none⟩ = some (.int .u32 (i2.d1 : Int)) := hx9.cell 5
        have y6 : (w8.alloc (.cells #[.int .u32 (i2.m : Int), .int .u32 (i2.v : Int), .int .u32 (i2.s : Int), .int .u16 (i2.l : Int), .int .u32 (i2.d0 : Int), .int .u32 (i2.d1 : Int), .int .u32 (i2.d2 : Int), .int .u32 (i2.d3 : Int), .int .u32 (i2.d4 : Int), .int .u32 (i2.d5 : Int), .int .u32 (i2.d6 : Int), .int .u32 (i2.d7 : Int), .int .u32 (i2.a : Int), .int .u32 (i2.b : Int)] 48)).cell? ⟨w8.heap.size, 6, none⟩ = some (.int .u32 (i2.d2 : Int)) := hx9.cell 6
        have y7 : (w8.alloc (.cells #[.int .u32 (i2.m : Int), .int .u32 (i2.v : Int), .int .u32 (i2.s : Int), .int .u16 (i2.l : Int), .int .u32 (i2.d0 : Int), .int .u32 (i2.d1 : Int), .int .u32 (i2.d2 : Int), .int .u32 (i2.d3 : Int), .int .u32 (i2.d4 : Int), .int .u32 (i2.d5 : Int), .int .u32 (i2.d6 : Int), .int .u32 (i2.d7 : Int), .int .u32 (i2.a : Int), .int .u32 (i2.b : Int)] 48)).cell? ⟨w8.heap.size, 7, none⟩ = some (.int .u32 (i2.d3 : Int)) := hx9.cell 7
        have y8 : (w8.alloc (.cells #[.int .u32 (i2.m : Int), .int .u32 (i2.v : Int), .int .u32 (i2.s : Int), .int .u16 (i2.l : Int), .int .u32 (i2.d0 : Int), .int .u32 (i2.d1 : Int), .int .u32 (i2.d2 : Int), .int .u32 (i2.d3 : Int), .int .u32 (i2.d4 : Int), .int .u32 (i2.d5 : Int), .int .u32 (i2.d6 : Int), .int .u32 (i2.d7 : Int), .int .u32 (i2.a : Int), .int .u32 (i2.b : Int)] 48)).cell? ⟨w8.heap.size, 8, none⟩ = some (.int .u32 (i2.d4 : Int)) := hx9.cell 8
        have y9 : (w8.alloc (.cells #[.int .u32 (i2.m : Int), .int .u32 (i2.v : Int), .int .u32 (i2.s : Int), .int .u16 (i2.l : Int), .int .u32 (i2.d0 : Int), .int .u32 (i2.d1 : Int), .int .u32 (i2.d2 : Int), .int .u32 (i2.d3 : Int), .int .u32 (i2.d4 : Int), .int .u32 (i2.d5 : Int), .int .u32 (i2.d6 : Int), .int .u32 (i2.d7 : Int), .int .u32 (i2.a : Int), .int .u32 (i2.b : Int)] 48)).cell? ⟨w8.heap.size, 9, none⟩ = some (.int .u32 (i2.d5 : Int)) := hx9.cell 9
        have y10 : (w8.alloc (.cells #[.int .u32 (i2.m : Int), .int .u32 (i2.v : Int), .int .u32 (i2.s : Int), .int .u16 (i2.l : Int), .int .u32 (i2.d0 : Int), .int .u32 (i2.d1 : Int), .int .u32 (i2.d2 : Int), .int .u32 (i2.d3 : Int), .int .u32 (i2.d4 : Int), .int .u32 (i2.d5 : Int), .int .u32 (i2.d6 : Int), .int .u32 (i2.d7 : Int), .int .u32 (i2.a : Int), .int .u32 (i2.b : Int)] 48)).cell? ⟨w8.heap.size, 10, none⟩ = some (.int .u32 (i2.d6 : Int)) := hx9.cell 10
        have y11 : (w8.alloc (.cells #[.int .u32 (i2.m : Int), .int .u32 (i2.v : Int), .int .u32 (i2.s : Int), .int .u16 (i2.l : Int), .int .u32 (i2.d0 : Int), .int .u32 (i2.d1 : Int), .int .u32 (i2.d2 : Int), .int .u32 (i2.d3 : Int), .int .u32 (i2.d4 : Int), .int .u32 (i2.d5 : Int), .int .u32 (i2.d6 : Int), .int .u32 (i2.d7 : Int), .int .u32 (i2.a : Int), .int .u32 (i2.b : Int)] 48)).cell? ⟨w8.heap.size, 11, none⟩ = some (.int .u32 (i2.d7 : Int)) := hx9.cell 11
        have y12 : (w8.alloc (.cells #[.int .u32 (i2.m : Int), .int .u32 (i2.v : Int), .int .u32 (i2.s : Int), .int .u16 (i2.l : Int), .int .u32 (i2.d0 : Int), .int .u32 (i2.d1 : Int), .int .u32 (i2.d2 : Int), .int .u32 (i2.d3 : Int), .int .u32 (i2.d4 : Int), .int .u32 (i2.d5 : Int), .int .u32 (i2.d6 : Int), .int .u32 (i2.d7 : Int), .int .u32 (i2.a : Int), .int .u32 (i2.b : Int)] 48)).cell? ⟨w8.heap.size, 12, none⟩ = some (.int .u32 (i2.a : Int)) := hx9.cell 12
        have y13 : (w8.alloc (.cells #[.int .u32 (i2.m : Int), .int .u32 (i2.v : Int), .int .u32 (i2.s : Int), .int .u16 (i2.l : Int), .int .u32 (i2.d0 : Int), .int .u32 (i2.d1 : Int), .int .u32 (i2.d2 : Int), .int .u32 (i2.d3 : Int), .int .u32 (i2.d4 : Int), .int .u32 (i2.d5 : Int), .int .u32 (i2.d6 : Int), .int .u32 (i2.d7 : Int), .int .u32 (i2.a : Int), .int .u32 (i2.b : Int)] 48)).cell? ⟨w8.heap.size, 13, none⟩ = some (.int .u32 (i2.b : Int)) := hx9.cell 13
        obtain ⟨c0, c1, c2, c3, c4, c5, c6, c7, c8, c9, c10, c11, c12, c13⟩ := ino_cells hb9
        clear hq
        have Hk8 := Lib.hid hk8
        have Hi2 := Lib.hid hi2
        have He2 := Lib.hid he2
        have Hkw8 := Lib.hid hkw8
        have Hx9 := Lib.hid hx9
        have Hb9 := Lib.hid hb9
        have Hkw9 := Lib.hid hkw9
        have Hg := Lib.hid hg
        have Hii := Lib.hid hii
        clear hk8 hi2 he2 hkw8 hx9 hb9 hkw9 hg hii
        go_wp2_with fail
        go_ret
        exact ⟨rfl, Hkw9.out⟩
      · have he0 : e2 = 2 := by rw [he2, decE, if_neg hg]
        subst he0
        have Hk8 := Lib.hid hk8
        have Hi2 := Lib.hid hi2
        have He2 := Lib.hid he2
        have Hkw8 := Lib.hid hkw8
        have Hx9 := Lib.hid hx9
        have Hb9 := Lib.hid hb9
        have Hkw9 := Lib.hid hkw9
        have Hg := Lib.hid hg
        clear hk8 hi2 he2 hkw8 hx9 hb9 hkw9 hg
        go_wp2_with fail
        go_ret
        exact ⟨rfl, Hkw9.out⟩
  · have hc' : (C != 0) = true := by simp [hc]
    clear c0 c1 c2 c3 c4 c5 c6 c7 c8 c9 c10 c11 c12 c13
    have Hk3 := Lib.hid hk3
    have Hkw3 := Lib.hid hkw3
    have Hc := Lib.hid hc
    clear hk3 hkw3 hc
    go_wp2_with fail
    go_ret
    exact ⟨rfl, Hkw3.out⟩
end Go.Proofs.Ytblmbchjafffbaa
