/-
  inode: the statement InodeBack, walked.
-/
import Derived.Test.YtblmbchjafffbaaI9
import Derived.Test.YtblmbchjafffbaaAppZ
import Derived.Test.YtblmbchjafffbaaRegion
namespace Go.Proofs.Ytblmbchjafffbaa
open Go.RowKit

theorem nb4' (n : Nat) : nb 4 n = [UInt8.ofNat n, UInt8.ofNat (n / 256), UInt8.ofNat (n / 65536), UInt8.ofNat (n / 16777216)] := by
  simp [nb, List.range_succ]

/-- A row of bytes that a walk gathers, in memory that is younger than `w1`. -/
structure Acc (w1 wr : World) (v : Value) (L : List UInt8) : Prop where
  own : OwnB wr v L
  ab : Above w1.heap.size v.ownBlock
  k : Keeps nowhere w1 wr
theorem Acc.step {w1 wr w' : World} {v v' : Value} {L L' : List UInt8} (h : Acc w1 wr v L) (ho : OwnB w' v' L') (hk : Keeps (fun b => v.ownBlock = some b) wr w') (hf : From v.ownBlock wr.heap.size v'.ownBlock) : Acc w1 w' v' L' :=
  ⟨ho, h.ab.of_from hf h.k.size, h.k.trans hk fun b hb e => by have := h.ab b e; omega⟩
theorem Acc.more {w1 wr w' : World} {v : Value} {L : List UInt8} (h : Acc w1 wr v L) (hk : Keeps nowhere wr w') : Acc w1 w' v L := ⟨h.own.keep hk (fun _ _ h => h), h.ab, h.k.more hk⟩
theorem Acc.nil {w1 wr : World} (h : Keeps nowhere w1 wr) : Acc w1 wr (.slice none 0 0) [] := ⟨OwnB.nil _, Above.none _, h⟩

def RetFour (w : World) (v : Value) (L : List UInt8) : Ending → World → Prop := fun e w' => ∃ v', e = .returned v' ∧ OwnB w' v' L ∧ Keeps (fun b => v.ownBlock = some b) w w' ∧ From v.ownBlock w.heap.size v'.ownBlock

set_option maxHeartbeats 800000 in
set_option maxRecDepth 8000 in
theorem lfour (v : Value) (L : List UInt8) (n : Nat) (hn : n < 4294967296) (w : World) (hown : OwnB w v L) (hb : L.length ≤ 1000) : Calls Try.prog 28 #[v, .int .u32 n] w (RetFour w v (L ++ nb 4 n)) := by
  obtain ⟨C, hC⟩ : ∃ C : Array Value, C = #[.int .u8 ((n : Int) % 256), .int .u8 ((n : Int) / 256 % 256), .int .u8 ((n : Int) / 65536 % 256), .int .u8 ((n : Int) / 16777216)] := ⟨_, rfl⟩
  have hCl : C.toList = (nb 4 n).map bv := by
    rw [hC, nb4']
    simp only [List.map_cons, List.map_nil, bv, UInt8.toNat_ofNat']
    have e3 : (n : Int) / 16777216 = ((n / 16777216 : Nat) : Int) := by omega
    have e4 : n / 16777216 % 2 ^ 8 = n / 16777216 := Nat.mod_eq_of_lt (by omega)
    simp only [e3, e4]
    congr 3 <;> (try congr 2) <;> omega
  have hr4 : Rd (w.alloc (.cells C 5)) (.slice (some ⟨w.heap.size, 0, none⟩) 4 4) (some w.heap.size) ((nb 4 n).map bv) := by
    have h := Rd.full (heap_alloc_new w (.cells C 5)) (by rw [hC]; simp [maxLen])
    rw [hCl] at h
    rw [hC] at h
    rw [hC]
    exact h
  have hka := (Keeps.refl nowhere w).alloc (.cells C 5)
  have hown2 := hown.keep hka (fun _ _ h => h)
  rw [hC] at hr4 hka hown2
  have hlb : L.length + (nb 4 n).length ≤ 1099511627776 := by rw [nb_len]; omega
  have HC := Lib.hid hC
  have HCl := Lib.hid hCl
  have Hr4 := Lib.hid hr4
  have Hka := Lib.hid hka
  have Hown := Lib.hid hown
  have Hown2 := Lib.hid hown2
  have Hlb := Lib.hid hlb
  clear hC hCl hr4 hka hown hown2 hlb
  go_enter Try.func28, Try.ntmps28
  go_wp2_with (at_builtin; go_must (refine wpList_append_bytes rfl (.tmp 5) (.tmp 17) rfl v L rfl Hown2.out _ _ (nb 4 n) rfl Hr4.out Hlb.out ?_))
  intro v' w' hown' hk' hf'
  have Hown' := Lib.hid hown'
  have Hk' := Lib.hid hk'
  have Hf' := Lib.hid hf'
  clear hown' hk' hf'
  go_wp2_with fail
  go_ret
  refine ⟨v', rfl, Hown'.out, (Hka.out.mono (T := fun b => v.ownBlock = some b) fun _ _ h => h.elim).trans Hk'.out (fun _ _ h => h), Hf'.out.mono (by have := Hka.out.size; simp at this ⊢)⟩

theorem enc4_dir (i : Ino) (L : List UInt8) : L ++ enc4 i.dir ++ nb 4 i.a ++ nb 4 i.b = L ++ enc4 i.blocks := by simp [enc4, Ino.dir, Ino.blocks]

set_option maxHeartbeats 6400000 in
set_option maxRecDepth 20000 in
theorem iback_walk (i : Ino) (hi : i.ok) (w : World) : Calls Try.prog 7 #[i.val] w (YesI w) := by
  obtain ⟨w1, hw1⟩ : ∃ w1, w1 = w.alloc (.cells i.cells 48) := ⟨_, rfl⟩
  have hk1 : Keeps nowhere w w1 := by rw [hw1]; exact (Keeps.refl _ _).alloc _
  have hb1 : Blk w1 w.heap.size 48 i.cells := by rw [hw1]; exact Blk.new _ _ _
  obtain ⟨C, hC⟩ : ∃ C, C = chkI i := ⟨_, rfl⟩
  have heq : ∀ w, (binOp .eql 48 i.val i.val).run Try.prog w = .ok (.bool true) w := fun w => by
    have h := eql_run i i w
    rw [(eqI_iff i i).2 rfl] at h
    exact h
  have h8 : ∀ w, (Op.equalIn 9999 46 (.agg (i.dir.map wv).toArray) (.agg (i.dir.map wv).toArray)).run Try.prog w = .ok true w := fun w => by
    have h := eql_words w 9997 46 36 8 Try.underlying46 Try.underlying36 (fun w => by kernel_rfl) i.dir i.dir rfl rfl
    simpa using h
  simp only [Ino.dir, List.map_cons, List.map_nil, wv] at h8
  unfold Ino.val Ino.cells at heq
  unfold Ino.val
  unfold Ino.cells at hw1 ⊢
  have Hk1 := Lib.hid hk1
  have Hb1 := Lib.hid hb1
  have Hw1 := Lib.hid hw1
  have HC := Lib.hid hC
  have Heq := Lib.hid heq
  have H8 := Lib.hid h8
  clear hk1 hb1 hw1 hC heq h8
  go_enter Try.func7, Try.ntmps7
  go_wp2_with fail
  rw [← Hw1.out]
  refine (known11 w1).mono ?_
  rintro e w2 ⟨rfl, hk2⟩
  have hb2 := Hb1.out.keep hk2 (fun h => h)
  obtain ⟨c0, c1, c2, c3, c4, c5, c6, c7, c8, c9, c10, c11, c12, c13⟩ := ino_cells hb2
  have hen := iencode i hi w2
  unfold Ino.val Ino.cells at hen
  have hkw2 := Hk1.out.more hk2
  have Hk2 := Lib.hid hk2
  have Hb2 := Lib.hid hb2
  have Hen := Lib.hid hen
  have Hkw2 := Lib.hid hkw2
  clear hk2 hb2 hen hkw2
  go_wp2_with fail
  refine Hen.out.mono ?_
  rintro e w3 ⟨v3, g3, rfl, hr3, hab3, hk3⟩
  rw [← HC.out]
  obtain ⟨A3, cc3, rfl, -⟩ := hr3.form
  obtain ⟨E, hE⟩ : ∃ E, E = encE i := ⟨_, rfl⟩
  rw [← hE] at hr3 ⊢
  rw [List.length_map] at *
  have hb3 := Hb2.out.keep hk3 (fun h => h)
  have hkw3 := Hkw2.out.more hk3
  clear c0 c1 c2 c3 c4 c5 c6 c7 c8 c9 c10 c11 c12 c13
  obtain ⟨c0, c1, c2, c3, c4, c5, c6, c7, c8, c9, c10, c11, c12, c13⟩ := ino_cells hb3
  have hck := lcheck i w3
  unfold Ino.val Ino.cells at hck
  rw [← HC.out] at hck
  have Hr3 := Lib.hid hr3
  have Hab3 := Lib.hid hab3
  have Hk3 := Lib.hid hk3
  have Hb3 := Lib.hid hb3
  have Hkw3 := Lib.hid hkw3
  have HE := Lib.hid hE
  have Hck := Lib.hid hck
  clear hr3 hab3 hk3 hb3 hkw3 hE hck
  go_wp2_with fail
  refine Hck.out.mono ?_
  rintro e w4 ⟨rfl, hk4⟩
  have hb4 := Hb3.out.keep hk4 (fun h => h)
  have hkw4 := Hkw3.out.more hk4
  have hr4 := Hr3.out.keep hk4 (fun _ _ h => h)
  clear c0 c1 c2 c3 c4 c5 c6 c7 c8 c9 c10 c11 c12 c13
  obtain ⟨c0, c1, c2, c3, c4, c5, c6, c7, c8, c9, c10, c11, c12, c13⟩ := ino_cells hb4
  have hic := icheck i w4
  unfold Ino.val Ino.cells at hic
  rw [← HC.out] at hic
  have hcc : (C != C) = false := by simp
  have Hk4 := Lib.hid hk4
  have Hb4 := Lib.hid hb4
  have Hkw4 := Lib.hid hkw4
  have Hr4 := Lib.hid hr4
  have Hic := Lib.hid hic
  clear hk4 hb4 hkw4 hr4 hic
  go_wp2_with fail
  refine Hic.out.mono ?_
  rintro e w5 ⟨rfl, hk5⟩
  have hb5 := Hb4.out.keep hk5 (fun h => h)
  have hkw5 := Hkw4.out.more hk5
  have hr5 := Hr4.out.keep hk5 (fun _ _ h => h)
  clear c0 c1 c2 c3 c4 c5 c6 c7 c8 c9 c10 c11 c12 c13
  obtain ⟨c0, c1, c2, c3, c4, c5, c6, c7, c8, c9, c10, c11, c12, c13⟩ := ino_cells hb5
  by_cases hc : C = 0
  · have hc' : (C != 0) = false := by simp [hc]
    have hchk : chkI i = 0 := by rw [← HC.out]; exact hc
    have hEB : E = encB i := by rw [HE.out, encE, if_pos hchk]
    have f0 : ∀ w', Keeps nowhere w5.drew w' → w'.cell? ⟨w.heap.size, 0, none⟩ = some (.int .u32 (i.m : Int)) := fun w' hs => (hb5.drew.keep hs (fun h => h)).cell 0
    have f1 : ∀ w', Keeps nowhere w5.drew w' → w'.cell? ⟨w.heap.size, 1, none⟩ = some (.int .u32 (i.v : Int)) := fun w' hs => (hb5.drew.keep hs (fun h => h)).cell 1
    have f2 : ∀ w', Keeps nowhere w5.drew w' → w'.cell? ⟨w.heap.size, 2, none⟩ = some (.int .u32 (i.s : Int)) := fun w' hs => (hb5.drew.keep hs (fun h => h)).cell 2
    have hdir : ∀ k (hk : k < i.dir.length), i.dir[k] < 4294967296 ∧ ∀ w', Keeps nowhere w5.drew w' → w'.cell? ⟨w.heap.size, 4 + k, none⟩ = some (.int .u32 (i.dir[k] : Nat)) := fun k hk => by
      have hk8 : k < 8 := hk
      obtain ⟨h0, h1, h2, h3, h4, h5, h6, h7, h8, h9, h10, h11, h12, h13⟩ := hi
      match k, hk8 with
      | 0, _ => exact ⟨h4, fun w' hs => (hb5.drew.keep hs (fun h => h)).cell 4⟩
      | 1, _ => exact ⟨h5, fun w' hs => (hb5.drew.keep hs (fun h => h)).cell 5⟩
      | 2, _ => exact ⟨h6, fun w' hs => (hb5.drew.keep hs (fun h => h)).cell 6⟩
      | 3, _ => exact ⟨h7, fun w' hs => (hb5.drew.keep hs (fun h => h)).cell 7⟩
      | 4, _ => exact ⟨h8, fun w' hs => (hb5.drew.keep hs (fun h => h)).cell 8⟩
      | 5, _ => exact ⟨h9, fun w' hs => (hb5.drew.keep hs (fun h => h)).cell 9⟩
      | 6, _ => exact ⟨h10, fun w' hs => (hb5.drew.keep hs (fun h => h)).cell 10⟩
      | 7, _ => exact ⟨h11, fun w' hs => (hb5.drew.keep hs (fun h => h)).cell 11⟩
    have hdl : i.dir.length = 8 := rfl
    have hi' := hi
    obtain ⟨h0, h1, h2, h3, -, -, -, -, -, -, -, -, h12, h13⟩ := hi'
    clear c0 c1 c2 c3 c4 c5 c6 c7 c8 c9 c10 c11 c12 c13
    have Hk5 := Lib.hid hk5
    have Hkw5 := Lib.hid hkw5
    have Hb5 := Lib.hid hb5
    have Hr5 := Lib.hid hr5
    have Hc := Lib.hid hc
    have Hchk := Lib.hid hchk
    have HEB := Lib.hid hEB
    have Hdir := Lib.hid hdir
    have Hdl := Lib.hid hdl
    have Hi := Lib.hid hi
    clear hk5 hkw5 hb5 hr5 hc hchk hEB hdir hdl hi
    go_wp2_with fail
    refine wp_region_script [0, 1, 3, 4, 6, 7] [1, 4, 7] [.ps [0], .fs [1], .ps [3], .fs [4], .ps [6], .fs [7], .es [2] true, .es [5] true, .es [8, 9] false] (Keeps nowhere w5.drew) rfl (by kernel_rfl) ?_
    refine wpS_ps rfl fun K hK => ?_
    simp only [List.map_cons, List.map_nil, Option.getD_some, List.getElem?_toArray, List.getElem?_cons_zero, List.getElem?_cons_succ]
    iterate 1 (first | (apply quietO_cons _ rfl; (intro w' _; go_simp; rfl)) | apply quietO_skip rfl)
    refine hK _ ?_
    clear hK K
    simp only [Act.put, List.setIfInBounds_toArray, List.set_cons_zero, List.set_cons_succ]
    refine wpS_fs rfl (Keeps.refl _ _) fun K hK => ?_
    simp only [List.map_cons, List.map_nil, Option.getD_some, List.getElem?_toArray, List.getElem?_cons_zero, List.getElem?_cons_succ]
    iterate 1 (first | (apply quietO_cons _ rfl; (intro w' hs; have c_0 := f0 w' hs; go_simp; rfl)) | apply quietO_skip rfl)
    refine hK _ ?_
    clear hK K
    simp only [Act.put, List.setIfInBounds_toArray, List.set_cons_zero, List.set_cons_succ]
    refine wpS_ps rfl fun K hK => ?_
    simp only [List.map_cons, List.map_nil, Option.getD_some, List.getElem?_toArray, List.getElem?_cons_zero, List.getElem?_cons_succ]
    iterate 1 (first | (apply quietO_cons _ rfl; (intro w' _; go_simp; rfl)) | apply quietO_skip rfl)
    refine hK _ ?_
    clear hK K
    simp only [Act.put, List.setIfInBounds_toArray, List.set_cons_zero, List.set_cons_succ]
    refine wpS_fs rfl (Keeps.refl _ _) fun K hK => ?_
    simp only [List.map_cons, List.map_nil, Option.getD_some, List.getElem?_toArray, List.getElem?_cons_zero, List.getElem?_cons_succ]
    iterate 1 (first | (apply quietO_cons _ rfl; (intro w' hs; have c_0 := f1 w' hs; go_simp; rfl)) | apply quietO_skip rfl)
    refine hK _ ?_
    clear hK K
    simp only [Act.put, List.setIfInBounds_toArray, List.set_cons_zero, List.set_cons_succ]
    refine wpS_ps rfl fun K hK => ?_
    simp only [List.map_cons, List.map_nil, Option.getD_some, List.getElem?_toArray, List.getElem?_cons_zero, List.getElem?_cons_succ]
    iterate 1 (first | (apply quietO_cons _ rfl; (intro w' _; go_simp; rfl)) | apply quietO_skip rfl)
    refine hK _ ?_
    clear hK K
    simp only [Act.put, List.setIfInBounds_toArray, List.set_cons_zero, List.set_cons_succ]
    refine wpS_fs rfl (Keeps.refl _ _) fun K hK => ?_
    simp only [List.map_cons, List.map_nil, Option.getD_some, List.getElem?_toArray, List.getElem?_cons_zero, List.getElem?_cons_succ]
    iterate 1 (first | (apply quietO_cons _ rfl; (intro w' hs; have c_0 := f2 w' hs; go_simp; rfl)) | apply quietO_skip rfl)
    refine hK _ ?_
    clear hK K
    simp only [Act.put, List.setIfInBounds_toArray, List.set_cons_zero, List.set_cons_succ]
    clear f0 f1 f2
    refine wpS_es rfl fun K hK => ?_
    have HK := Lib.hid hK
    clear hK
    simp only [List.map_cons, List.map_nil, Option.getD_some, List.getElem?_toArray, List.getElem?_cons_zero, List.getElem?_cons_succ]
    go_wp2_with fail
    refine (lfour _ [] i.m h0 _ (OwnB.nil _) (by simp)).mono ?_
    rintro e w6 ⟨v6, rfl, ho6, hk6, hf6⟩
    have a6 := (Acc.nil (Keeps.refl nowhere w5.drew)).step ho6 hk6 hf6
    rw [List.nil_append] at a6
    clear ho6 hk6 hf6
    have A6 := Lib.hid a6
    clear a6
    go_wp2_with fail
    refine HK.out _ _ (fun _ => A6.out.k) ?_
    clear HK K
    refine wpS_es rfl fun K hK => ?_
    have HK := Lib.hid hK
    clear hK
    simp only [List.map_cons, List.map_nil, Option.getD_some, List.getElem?_toArray, List.getElem?_cons_zero, List.getElem?_cons_succ]
    go_wp2_with fail
    refine (lfour v6 _ i.v h1 _ A6.out.own (by simp [nb_len])).mono ?_
    rintro e w7 ⟨v7, rfl, ho7, hk7, hf7⟩
    have a7 := A6.out.step ho7 hk7 hf7
    clear ho7 hk7 hf7
    have A7 := Lib.hid a7
    clear a7
    go_wp2_with fail
    refine HK.out _ _ (fun _ => A7.out.k) ?_
    clear HK K
    refine wpS_es rfl fun K hK => ?_
    have HK := Lib.hid hK
    clear hK
    simp only [List.map_cons, List.map_nil, Option.getD_some, List.getElem?_toArray, List.getElem?_cons_zero, List.getElem?_cons_succ]
    go_wp2_with fail
    refine (lfour v7 _ i.s h2 _ A7.out.own (by simp [nb_len])).mono ?_
    rintro e w8 ⟨v8, rfl, ho8, hk8, hf8⟩
    have a8 := A7.out.step ho8 hk8 hf8
    clear ho8 hk8 hf8
    have g3 : w8.cell? ⟨w.heap.size, 3, none⟩ = some (.int .u16 (i.l : Int)) := (Hb5.out.drew.keep a8.k (fun h => h)).cell 3
    obtain ⟨C2, hC2⟩ : ∃ C2 : Array Value, C2 = #[.int .u8 ((i.l : Int) % 256), .int .u8 ((i.l : Int) / 256), .int .u8 0, .int .u8 0] := ⟨_, rfl⟩
    have hC2l : C2.toList = (nb 2 i.l ++ nb 2 0).map bv := by
      rw [hC2, show nb 2 0 = [0, 0] from by decide, show nb 2 i.l = [UInt8.ofNat i.l, UInt8.ofNat (i.l / 256)] from by simp [nb, List.range_succ]]
      simp only [List.map_append, List.map_cons, List.map_nil, bv, UInt8.toNat_ofNat']
      have e3 : (i.l : Int) / 256 = ((i.l / 256 : Nat) : Int) := by omega
      have e4 : i.l / 256 % 2 ^ 8 = i.l / 256 := Nat.mod_eq_of_lt (by omega)
      simp only [e3, e4]
      simp
    have hr9 : Rd (w8.alloc (.cells C2 5)) (.slice (some ⟨w8.heap.size, 0, none⟩) 4 4) (some w8.heap.size) ((nb 2 i.l ++ nb 2 0).map bv) := by
      have h := Rd.full (heap_alloc_new w8 (.cells C2 5)) (by rw [hC2]; simp [maxLen])
      rw [hC2l] at h
      rw [hC2] at h
      rw [hC2]
      exact h
    have a9 := a8.more ((Keeps.refl nowhere w8).alloc (.cells C2 5))
    rw [hC2] at hr9 a9
    have hl9 : (nb 4 i.m ++ nb 4 i.v ++ nb 4 i.s).length + (nb 2 i.l ++ nb 2 0).length ≤ 1099511627776 := by simp [nb_len]
    obtain ⟨P8, hP8⟩ : ∃ P8, P8 = nb 4 i.m ++ nb 4 i.v ++ nb 4 i.s := ⟨_, rfl⟩
    rw [← hP8] at hl9 a8 a9
    have A8 := Lib.hid a8
    have HC2 := Lib.hid hC2
    have HC2l := Lib.hid hC2l
    have Hr9 := Lib.hid hr9
    have A9 := Lib.hid a9
    have Hl9 := Lib.hid hl9
    have HP8 := Lib.hid hP8
    clear a8 hC2 hC2l hr9 a9 hl9 hP8
    go_wp2_with fail
    refine HK.out _ _ (fun h => by cases h) ?_
    clear HK K
    refine wpS_nil ?_
    go_wp2_with (at_builtin; go_must (refine wpList_append_bytes rfl (.tmp 42) (.tmp 50) rfl v8 P8 rfl A9.out.own _ _ (nb 2 i.l ++ nb 2 0) rfl Hr9.out Hl9.out ?_))
    intro v9 w9 ho9 hk9 hf9
    have a9' := A9.out.step ho9 hk9 (by simpa using hf9)
    obtain ⟨P9, hP9⟩ : ∃ P9, P9 = P8 ++ (nb 2 i.l ++ nb 2 0) := ⟨_, rfl⟩
    rw [← hP9] at a9'
    have hP9l : P9.length = 16 := by rw [hP9, HP8.out]; simp [nb_len]
    clear ho9 hk9 hf9 g3
    have A9' := Lib.hid a9'
    have HP9 := Lib.hid hP9
    have HP9l := Lib.hid hP9l
    clear a9' hP9 hP9l
    go_wp2_with fail
    go_loopw [6, 7] (fun wv kv wr => ∃ k : Nat, k ≤ 8 ∧ kv = .int .i64 k ∧ Acc w5.drew wr wv (P9 ++ enc4 (i.dir.take k))) (fun _ kv _ => 8 - (intOf kv).toNat)
    case atStart => exact ⟨0, Nat.zero_le _, rfl, by simpa [enc4] using A9'.out⟩
    case round =>
      obtain ⟨k, hk, rfl, ha⟩ := hrel
      by_cases hlt : k < 8
      · have hkx : k < i.dir.length := hlt
        obtain ⟨hb, hc⟩ := Hdir.out k hkx
        have hc := hc _ ha.k
        have hsucc : i.dir.take (k + 1) = i.dir.take k ++ [i.dir[k]] := by rw [List.take_add_one, List.getElem?_eq_getElem hkx]; rfl
        obtain ⟨x, hx⟩ : ∃ x, x = i.dir[k] := ⟨_, rfl⟩
        rw [← hx] at hc hb hsucc
        have hk0 : (0 : Int) ≤ k ∧ (k : Int) < 8 := by omega
        have hlen : (P9 ++ enc4 (i.dir.take k)).length ≤ 1000 := by
          rw [List.length_append, HP9l.out, enc4_len, List.length_take]; omega
        have Ha := Lib.hid ha
        have Hsucc := Lib.hid hsucc
        have Hx := Lib.hid hx
        have Hlen := Lib.hid hlen
        clear ha hsucc hx hlen
        go_wp2_with fail
        refine (lfour _ _ x hb wr Ha.out.own Hlen.out).mono ?_
        rintro e wx ⟨vx, rfl, hox, hkx', hfx⟩
        have hax := Ha.out.step hox hkx' hfx
        have hnew : P9 ++ enc4 (i.dir.take k) ++ nb 4 x = P9 ++ enc4 (i.dir.take (k + 1)) := by rw [Hsucc.out]; simp [enc4]
        rw [hnew] at hax
        clear hox hkx' hfx
        have Hax := Lib.hid hax
        have Hnew := Lib.hid hnew
        clear hax hnew
        go_wp2_with fail
        go_roundw
        case rel => exact ⟨k + 1, by omega, by go_num, Hax.out⟩
        case measure => simp [intOf]; omega
      · obtain rfl : k = 8 := by omega
        have q12 : ∀ w', Keeps nowhere w5.drew w' → w'.cell? ⟨w.heap.size, 12, none⟩ = some (.int .u32 (i.a : Int)) := fun w' hs => (Hb5.out.drew.keep hs (fun h => h)).cell 12
        have q13 : ∀ w', Keeps nowhere w5.drew w' → w'.cell? ⟨w.heap.size, 13, none⟩ = some (.int .u32 (i.b : Int)) := fun w' hs => (Hb5.out.drew.keep hs (fun h => h)).cell 13
        have ha10 := ha.more (Keeps.refl nowhere wr).drew
        have hl10 : (enc4 (i.dir.take 8)).length = 32 := by rw [enc4_len]; rfl
        have Ha := Lib.hid ha
        have Ha10 := Lib.hid ha10
        have Hl10 := Lib.hid hl10
        clear ha ha10 hl10
        go_wp2_with fail
        refine wp_region_script [0, 1, 2, 4, 5] [2, 5] [.ps [0, 1], .fs [2], .ps [4], .fs [5], .es [3] true, .es [6, 7, 8] false] (Keeps nowhere w5.drew) rfl (by kernel_rfl) ?_
        refine wpS_ps rfl fun K hK => ?_
        simp only [List.map_cons, List.map_nil, Option.getD_some, List.getElem?_toArray, List.getElem?_cons_zero, List.getElem?_cons_succ]
        iterate 2 (first | (apply quietO_cons _ rfl; (intro w' _; go_simp; rfl)) | apply quietO_skip rfl)
        refine hK _ ?_
        clear hK K
        simp only [Act.put, List.setIfInBounds_toArray, List.set_cons_zero, List.set_cons_succ]
        refine wpS_fs rfl (Ha10.out.k) fun K hK => ?_
        simp only [List.map_cons, List.map_nil, Option.getD_some, List.getElem?_toArray, List.getElem?_cons_zero, List.getElem?_cons_succ]
        iterate 1 (first | (apply quietO_cons _ rfl; (intro w' hs; have c_0 := q12 w' hs; go_simp; rfl)) | apply quietO_skip rfl)
        refine hK _ ?_
        clear hK K
        simp only [Act.put, List.setIfInBounds_toArray, List.set_cons_zero, List.set_cons_succ]
        refine wpS_ps rfl fun K hK => ?_
        simp only [List.map_cons, List.map_nil, Option.getD_some, List.getElem?_toArray, List.getElem?_cons_zero, List.getElem?_cons_succ]
        iterate 1 (first | (apply quietO_cons _ rfl; (intro w' _; go_simp; rfl)) | apply quietO_skip rfl)
        refine hK _ ?_
        clear hK K
        simp only [Act.put, List.setIfInBounds_toArray, List.set_cons_zero, List.set_cons_succ]
        refine wpS_fs rfl (Ha10.out.k) fun K hK => ?_
        simp only [List.map_cons, List.map_nil, Option.getD_some, List.getElem?_toArray, List.getElem?_cons_zero, List.getElem?_cons_succ]
        iterate 1 (first | (apply quietO_cons _ rfl; (intro w' hs; have c_0 := q13 w' hs; go_simp; rfl)) | apply quietO_skip rfl)
        refine hK _ ?_
        clear hK K
        simp only [Act.put, List.setIfInBounds_toArray, List.set_cons_zero, List.set_cons_succ]
        clear q12 q13
        refine wpS_es rfl fun K hK => ?_
        have HK := Lib.hid hK
        clear hK
        simp only [List.map_cons, List.map_nil, Option.getD_some, List.getElem?_toArray, List.getElem?_cons_zero, List.getElem?_cons_succ]
        go_wp2_with fail
        refine (lfour _ _ i.a h12 _ Ha10.out.own (by rw [List.length_append, Hl10.out, HP9l.out]; omega)).mono ?_
        rintro e w11 ⟨v11, rfl, ho11, hk11, hf11⟩
        have a11 := Ha10.out.step ho11 hk11 hf11
        clear ho11 hk11 hf11
        have A11 := Lib.hid a11
        clear a11
        go_wp2_with fail
        refine HK.out _ _ (fun _ => A11.out.k) ?_
        clear HK K
        refine wpS_es rfl fun K hK => ?_
        have HK := Lib.hid hK
        clear hK
        simp only [List.map_cons, List.map_nil, Option.getD_some, List.getElem?_toArray, List.getElem?_cons_zero, List.getElem?_cons_succ]
        go_wp2_with fail
        refine (lfour v11 _ i.b h13 _ A11.out.own (by rw [List.length_append, List.length_append, Hl10.out, HP9l.out, nb_len]; omega)).mono ?_
        rintro e w12 ⟨v12, rfl, ho12, hk12, hf12⟩
        have a12 := A11.out.step ho12 hk12 hf12
        clear ho12 hk12 hf12
        have A12 := Lib.hid a12
        clear a12
        go_wp2_with (at_builtin; go_must (refine wpList_append_zeros _ rfl (.tmp 68) (.const (.int .i64 8)) rfl v12 _ 8 rfl rfl A12.out.own (by omega) (by rw [List.length_append, List.length_append, List.length_append, Hl10.out, HP9l.out, nb_len, nb_len]; omega) ?_))
        intro v13 w13 ho13 hk13 hf13
        have a13 := A12.out.step ho13 hk13 hf13
        clear ho13 hk13 hf13
        have hall : P9 ++ enc4 (i.dir.take 8) ++ nb 4 i.a ++ nb 4 i.b ++ zeros 8 = E := by
          rw [HEB.out, HP9.out, HP8.out, show i.dir.take 8 = i.dir from rfl]
          simp [encB, encI, enc4, Ino.dir, Ino.blocks]
        simp only [List.append_assoc] at a13 hall
        rw [hall] at a13
        have hr13 := (Hr5.out.keep (Keeps.refl nowhere w5).drew (fun _ _ h => h)).keep a13.k (fun _ _ h => h)
        have hd : decI E = i ∧ decE E = 0 := by rw [HEB.out]; exact dec_enc i Hi.out Hchk.out
        have hEl : E.length ≤ 140737488351232 := by rw [HEB.out, encB_len]; omega
        have A13 := Lib.hid a13
        have Hr13 := Lib.hid hr13
        have Hall := Lib.hid hall
        have Hd := Lib.hid hd
        have HEl := Lib.hid hEl
        clear a13 hr13 hall hd hEl
        go_wp2_with fail
        refine HK.out _ _ (fun h => by cases h) ?_
        clear HK K
        refine wpS_nil ?_
        go_wp2_with fail
        refine (idecode _ _ E _ Hr13.out HEl.out).mono ?_
        rintro e w14 ⟨rfl, hk14⟩
        rw [Hd.out.1, Hd.out.2]
        unfold Ino.val Ino.cells
        have hka := (Keeps.refl nowhere w14).alloc (.cells #[.int .u32 (i.m : Int), .int .u32 (i.v : Int), .int .u32 (i.s : Int), .int .u16 (i.l : Int), .int .u32 (i.d0 : Int), .int .u32 (i.d1 : Int), .int .u32 (i.d2 : Int), .int .u32 (i.d3 : Int), .int .u32 (i.d4 : Int), .int .u32 (i.d5 : Int), .int .u32 (i.d6 : Int), .int .u32 (i.d7 : Int), .int .u32 (i.a : Int), .int .u32 (i.b : Int)] 48)
        have hx15 := Blk.new w14 48 #[.int .u32 (i.m : Int), .int .u32 (i.v : Int), .int .u32 (i.s : Int), .int .u16 (i.l : Int), .int .u32 (i.d0 : Int), .int .u32 (i.d1 : Int), .int .u32 (i.d2 : Int), .int .u32 (i.d3 : Int), .int .u32 (i.d4 : Int), .int .u32 (i.d5 : Int), .int .u32 (i.d6 : Int), .int .u32 (i.d7 : Int), .int .u32 (i.a : Int), .int .u32 (i.b : Int)]
        have a15 := (A13.out.more hk14).more hka
        have hr15 := (Hr13.out.keep hk14 (fun _ _ h => h)).keep hka (fun _ _ h => h)
        have hb15 := Hb5.out.drew.keep a15.k (fun h => h)
        have hkw15 := Hkw5.out.drew.more a15.k
        have y0 : (w14.alloc (.cells #[.int .u32 (i.m : Int), .int .u32 (i.v : Int), .int .u32 (i.s : Int), .int .u16 (i.l : Int), .int .u32 (i.d0 : Int), .int .u32 (i.d1 : Int), .int .u32 (i.d2 : Int), .int .u32 (i.d3 : Int), .int .u32 (i.d4 : Int), .int .u32 (i.d5 : Int), .int .u32 (i.d6 : Int), .int .u32 (i.d7 : Int), .int .u32 (i.a : Int), .int .u32 (i.b : Int)] 48)).cell? ⟨w14.heap.size, 0, none⟩ = some (.int .u32 (i.m : Int)) := hx15.cell 0
        have y1 : (w14.alloc (.cells #[.int .u32 (i.m : Int), .int .u32 (i.v : Int), .int .u32 (i.s : Int), .int .u16 (i.l : Int), .int .u32 (i.d0 : Int), .int .u32 (i.d1 : Int), .int .u32 (i.d2 : Int), .int .u32 (i.d3 : Int), .int .u32 (i.d4 : Int), .int .u32 (i.d5 : Int), .int .u32 (i.d6 : Int), .int .u32 (i.d7 : Int), .int .u32 (i.a : Int), .int .u32 (i.b : Int)] 48)).cell? ⟨w14.heap.size, 1, none⟩ = some (.int .u32 (i.v : Int)) := hx15.cell 1
        have y2 : (w14.alloc (.cells #[.int .u32 (i.m : Int), .int .u32 (i.v : Int), .int .u32 (i.s : Int), .int .u16 (i.l : Int), .int .u32 (i.d0 : Int), .int .u32 (i.d1 : Int), .int .u32 (i.d2 : Int), .int .u32 (i.d3 : Int), .int .u32 (i.d4 : Int), .int .u32 (i.d5 : Int), .int .u32 (i.d6 : Int), .int .u32 (i.d7 : Int), .int .u32 (i.a : Int), .int .u32 (i.b : Int)] 48)).cell? ⟨w14.heap.size, 2, none⟩ = some (.int .u32 (i.s : Int)) := hx15.cell 2
        have y3 : (w14.alloc (.cells #[.int .u32 (i.m : Int), .int .u32 (i.v : Int), .int .u32 (i.s : Int), .int .u16 (i.l : Int), .int .u32 (i.d0 : Int), .int .u32 (i.d1 : Int), .int .u32 (i.d2 : Int), .int .u32 (i.d3 : Int), .int .u32 (i.d4 : Int), .int .u32 (i.d5 : Int), .int .u32 (i.d6 : Int), .int .u32 (i.d7 : Int), .int .u32 (i.a : Int), .int .u32 (i.b : Int)] 48)).cell? ⟨w14.heap.size, 3, none⟩ = some (.int .u16 (i.l : Int)) := hx15.cell 3
        have y4 : (w14.alloc (.cells #[.int .u32 (i.m : Int), .int .u32 (i.v : Int), .int .u32 (i.s : Int), .int .u16 (i.l : Int), .int .u32 (i.d0 : Int), .int .u32 (i.d1 : Int), .int .u32 (i.d2 : Int), .int .u32 (i.d3 : Int), .int .u32 (i.d4 : Int), .int .u32 (i.d5 : Int), .int .u32 (i.d6 : Int), .int .u32 (i.d7 : Int), .int .u32 (i.a : Int), .int .u32 (i.b : Int)] 48)).cell? ⟨w14.heap.size, 4, none⟩ = some (.int .u32 (i.d0 : Int)) := hx15.cell 4
        have y5 : (w14.alloc (.cells #[.int .u32 (i.m : Int), .int .u32 (i.v : Int), .int .u32 (i.s : Int), .int .u16 (i.l : Int), .int .u32 (i.d0 : Int), .int .u32 (i.d1 : Int), .int .u32 (i.d2 : Int), .int .u32 (i.d3 : Int), .int .u32 (i.d4 : Int), .int .u32 (i.d5 : Int), .int .u32 (i.d6 : Int), .int .u32 (i.d7 : Int), .int .u32 (i.a : Int), .int .u32 (i.b : Int)] 48)).cell? ⟨w14.heap.size, 5, none⟩ = some (.int .u32 (i.d1 : Int)) := hx15.cell 5
        have y6 : (w14.alloc (.cells #[.int .u32 (i.m : Int), .int .u32 (i.v : Int), .int .u32 (i.s : Int), .int .u16 (i.l : Int), .int .u32 (i.d0 : Int), .int .u32 (i.d1 : Int), .int .u32 (i.d2 : Int), .int .u32 (i.d3 : Int), .int .u32 (i.d4 : Int), .int .u32 (i.d5 : Int), .int .u32 (i.d6 : Int), .int .u32 (i.d7 : Int), .int .u32 (i.a : Int), .int .u32 (i.b : Int)] 48)).cell? ⟨w14.heap.size, 6, none⟩ = some (.int .u32 (i.d2 : Int)) := hx15.cell 6
        have y7 : (w14.alloc (.cells #[.int .u32 (i.m : Int), .int .u32 (i.v : Int), .int .u32 (i.s : Int), .int .u16 (i.l : Int), .int .u32 (i.d0 : Int), .int .u32 (i.d1 : Int), .int .u32 (i.d2 : Int), .int .u32 (i.d3 : Int), .int .u32 (i.d4 : Int), .int .u32 (i.d5 : Int), .int .u32 (i.d6 : Int), .int .u32 (i.d7 : Int), .int .u32 (i.a : Int), .int .u32 (i.b : Int)] 48)).cell? ⟨w14.heap.size, 7, none⟩ = some (.int .u32 (i.d3 : Int)) := hx15.cell 7
        have y8 : (w14.alloc (.cells #[.int .u32 (i.m : Int), .int .u32 (i.v : Int), .int .u32 (i.s : Int), .int .u16 (i.l : Int), .int .u32 (i.d0 : Int), .int .u32 (i.d1 : Int), .int .u32 (i.d2 : Int), .int .u32 (i.d3 : Int), .int .u32 (i.d4 : Int), .int .u32 (i.d5 : Int), .int .u32 (i.d6 : Int), .int .u32 (i.d7 : Int), .int .u32 (i.a : Int), .int .u32 (i.b : Int)] 48)).cell? ⟨w14.heap.size, 8, none⟩ = some (.int .u32 (i.d4 : Int)) := hx15.cell 8
        have y9 : (w14.alloc (.cells #[.int .u32 (i.m : Int), .int .u32 (i.v : Int), .int .u32 (i.s : Int), .int .u16 (i.l : Int), .int .u32 (i.d0 : Int), .int .u32 (i.d1 : Int), .int .u32 (i.d2 : Int), .int .u32 (i.d3 : Int), .int .u32 (i.d4 : Int), .int .u32 (i.d5 : Int), .int .u32 (i.d6 : Int), .int .u32 (i.d7 : Int), .int .u32 (i.a : Int), .int .u32 (i.b : Int)] 48)).cell? ⟨w14.heap.size, 9, none⟩ = some (.int .u32 (i.d5 : Int)) := hx15.cell 9
        have y10 : (w14.alloc (.cells #[.int .u32 (i.m : Int), .int .u32 (i.v : Int), .int .u32 (i.s : Int), .int .u16 (i.l : Int), .int .u32 (i.d0 : Int), .int .u32 (i.d1 : Int), .int .u32 (i.d2 : Int), .int .u32 (i.d3 : Int), .int .u32 (i.d4 : Int), .int .u32 (i.d5 : Int), .int .u32 (i.d6 : Int), .int .u32 (i.d7 : Int), .int .u32 (i.a : Int), .int .u32 (i.b : Int)] 48)).cell? ⟨w14.heap.size, 10, none⟩ = some (.int .u32 (i.d6 : Int)) := hx15.cell 10
        have y11 : (w14.alloc (.cells #[.int .u32 (i.m : Int), .int .u32 (i.v : Int), .int .u32 (i.s : Int), .int .u16 (i.l : Int), .int .u32 (i.d0 : Int), .int .u32 (i.d1 : Int), .int .u32 (i.d2 : Int), .int .u32 (i.d3 : Int), .int .u32 (i.d4 : Int), .int .u32 (i.d5 : Int), .int .u32 (i.d6 : Int), .int .u32 (i.d7 : Int), .int .u32 (i.a : Int), .int .u32 (i.b : Int)] 48)).cell? ⟨w14.heap.size, 11, none⟩ = some (.int .u32 (i.d7 : Int)) := hx15.cell 11
        have y12 : (w14.alloc (.cells #[.int .u32 (i.m : Int), .int .u32 (i.v : Int), .int .u32 (i.s : Int), .int .u16 (i.l : Int), .int .u32 (i.d0 : Int), .int .u32 (i.d1 : Int), .int .u32 (i.d2 : Int), .int .u32 (i.d3 : Int), .int .u32 (i.d4 : Int), .int .u32 (i.d5 : Int), .int .u32 (i.d6 : Int), .int .u32 (i.d7 : Int), .int .u32 (i.a : Int), .int .u32 (i.b : Int)] 48)).cell? ⟨w14.heap.size, 12, none⟩ = some (.int .u32 (i.a : Int)) := hx15.cell 12
        have y13 : (w14.alloc (.cells #[.int .u32 (i.m : Int), .int .u32 (i.v : Int), .int .u32 (i.s : Int), .int .u16 (i.l : Int), .int .u32 (i.d0 : Int), .int .u32 (i.d1 : Int), .int .u32 (i.d2 : Int), .int .u32 (i.d3 : Int), .int .u32 (i.d4 : Int), .int .u32 (i.d5 : Int), .int .u32 (i.d6 : Int), .int .u32 (i.d7 : Int), .int .u32 (i.a : Int), .int .u32 (i.b : Int)] 48)).cell? ⟨w14.heap.size, 13, none⟩ = some (.int .u32 (i.b : Int)) := hx15.cell 13
        obtain ⟨c0, c1, c2, c3, c4, c5, c6, c7, c8, c9, c10, c11, c12, c13⟩ := ino_cells hb15
        have s1 := conv_str _ _ _ _ hr15
        have s2 := conv_str _ _ _ _ a15.own.rd
        have sq := strOf_beq (rfl : E = E)
        have heq' := Heq.out
        have h8' := H8.out
        have Hk14 := Lib.hid hk14
        have Hka := Lib.hid hka
        have Hx15 := Lib.hid hx15
        have A15 := Lib.hid a15
        have Hr15 := Lib.hid hr15
        have Hb15 := Lib.hid hb15
        have Hkw15 := Lib.hid hkw15
        clear hk14 hka hx15 a15 hr15 hb15 hkw15
        go_wp2_with fail
        go_ret
        exact ⟨rfl, Hkw15.out⟩
  · have hc' : (C != 0) = true := by simp [hc]
    have hE0 : E = [] := by rw [HE.out, encE, if_neg (by rw [← HC.out]; exact hc)]
    have hl0 : ((E.length : Int) == 0) = true := by rw [hE0]; rfl
    clear c0 c1 c2 c3 c4 c5 c6 c7 c8 c9 c10 c11 c12 c13
    have Hk5 := Lib.hid hk5
    have Hkw5 := Lib.hid hkw5
    have Hb5 := Lib.hid hb5
    have Hr5 := Lib.hid hr5
    have Hc := Lib.hid hc
    have HE0 := Lib.hid hE0
    clear hk5 hkw5 hb5 hr5 hc hE0
    go_wp2_with fail
    go_ret
    exact ⟨rfl, Hkw5.out⟩
end Go.Proofs.Ytblmbchjafffbaa
