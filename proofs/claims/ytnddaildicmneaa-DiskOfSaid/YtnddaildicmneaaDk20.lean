/-
  disk: DiskSyncs, walked.
-/
import Derived.Test.YtnddaildicmneaaDk19
namespace Go.Proofs.Ytnddaildicmneaa
open Go.Proofs Go.RowKit Go.Sort Go.Maps

theorem notRaw_blk {w : World} {q : Nat} {T : TypeId} {cs : Array Value} (h : Blk w q T cs) (hT : T ≠ 5 ∧ T ≠ 4) : NotRaw w q := fun cs2 T2 fr hh => by
  unfold Blk at h
  rw [h] at hh
  injection hh with hh
  injection hh with _ hh
  rw [← hh]; exact hT
theorem DOwn.aside {w0 w w' : World} {d : Nat} {F : Nat → Prop} {D : DiskV} (o : DOwn w0 w d F D) {q : Nat} {T : TypeId} {cs : Array Value} (hq : Blk w q T cs) (hT : T ≠ 5 ∧ T ≠ 4) (hF : ¬ F q) (h0 : w0.heap.size ≤ q) (hk : Keeps (only q) w w') : DOwn w0 w' d F D :=
  ⟨o.k.keepAll hk (fun k hk e => hF (by have e2 : k = q := e; rw [← e2]; exact hk)) (fun k e => by have e2 : k = q := e; rw [e2]; exact notRaw_blk hq hT), o.own, o.kp.trans hk (fun k hk e => by have e2 : k = q := e; omega)⟩
theorem DK.readLen {w : World} {d : Nat} {F : Nat → Prop} {D : DiskV} (h : DK w d F D) (ho : D.off = false) {s : Nat} (hs : s < D.kept.length) : (D.readL (s : Int)).length = D.size := by
  obtain ⟨b, kv, kp, ks, vs, rfl, h⟩ := h
  unfold DiskV.readL DiskV.read
  rw [if_neg (by simp [ho]), if_pos ⟨by omega, by omega⟩, Int.toNat_natCast]
  exact read_len h hs _
/-- a row of ints, an array's block -/
def WArr (w : World) (q : Nat) (l : List Int) : Prop := Blk w q 51 (l.map fun x => Value.int .i64 x).toArray
theorem WArr.set {w : World} {q : Nat} {l : List Int} (h : WArr w q l) (i : Nat) (x : Int) : WArr (w.setCell ⟨q, i, none⟩ (.int .i64 x)) q (l.set i x) := by
  have := Blk.set_ h i (.int .i64 x)
  unfold WArr
  rw [List.map_set]
  simpa using this
theorem WArr.cell {w : World} {q : Nat} {l : List Int} (h : WArr w q l) {i : Nat} {x : Int} (hi : l[i]? = some x) : w.cell? ⟨q, i, none⟩ = some (.int .i64 x) := by
  have := Blk.cell h i
  simpa [hi] using this
theorem rdB_cell {w w' : World} {A : Option Addr} {n c : Nat} {g : Option Nat} {L : List UInt8} (h : recB.Rd w (.slice A n c) g L) (hk : Keeps nowhere w w') {i : Nat} {x : UInt8} (hx : L[i]? = some x) : ∃ b o, A = some ⟨b, o, none⟩ ∧ w'.cell? ⟨b, o + i, none⟩ = some (bv x) := by
  obtain ⟨b, o, c', hv, -, hc⟩ := rdB_at (h.same hk) (by have := (List.getElem?_eq_some_iff.1 hx).1; omega)
  injection hv with h1 _ _
  exact ⟨b, o, h1, hc i x hx⟩
theorem rdBo_cell {w w' : World} {A : Option Addr} {n c : Nat} {g : Option Nat} {L : List Bool} (h : recBo.Rd w (.slice A n c) g L) (hk : Keeps nowhere w w') {i : Nat} {x : Bool} (hx : L[i]? = some x) : ∃ b o, A = some ⟨b, o, none⟩ ∧ w'.cell? ⟨b, o + i, none⟩ = some (.bool x) := by
  obtain ⟨A', c', hv, -, -, -, h3, -⟩ := h.same hk
  injection hv with h1 _ _
  obtain ⟨b, o, hA, -, hc⟩ := h3 (by have := (List.getElem?_eq_some_iff.1 hx).1; omega)
  refine ⟨b, o, h1.trans hA, ?_⟩
  have := hc i x hx 0 (by decide)
  rw [show i * recBo.n = i from Nat.mul_one i] at this
  simpa [recBo] using this
/-- the state at the beginning of a round -/
structure SynAt (w wr : World) (d q : Nat) (F : Nat → Prop) (D : DiskV) (l : List Int) : Prop where
  o : DOwn w wr d F D
  a : WArr wr q l
  hF : ¬ F q
  hq : w.heap.size ≤ q
theorem SynAt.same {w wr wr' : World} {d q : Nat} {F : Nat → Prop} {D : DiskV} {l : List Int} (h : SynAt w wr d q F D l) (hk : Keeps nowhere wr wr') : SynAt w wr' d q F D l := ⟨h.o.same hk, Blk.keep h.a hk (fun h => h), h.hF, h.hq⟩
theorem SynAt.put {w wr : World} {d q : Nat} {F : Nat → Prop} {D : DiskV} {l : List Int} (h : SynAt w wr d q F D l) (i : Nat) (x : Int) : SynAt w (wr.setCell ⟨q, i, none⟩ (.int .i64 x)) d q F D (l.set i x) :=
  ⟨h.o.aside h.a (by decide) h.hF h.hq ((Keeps.refl (only q) wr).setCell (p := ⟨q, i, none⟩) (fun _ => rfl) _), h.a.set i x, h.hF, h.hq⟩
theorem SynAt.go {w wr wr' : World} {d q : Nat} {F F' : Nat → Prop} {D D' : DiskV} {l : List Int} (h : SynAt w wr d q F D l) (o : DOwn w wr' d F' D') (hk : Keeps F wr wr') (hg : Grew wr F F') : SynAt w wr' d q F' D' l :=
  ⟨o, Blk.keep h.a hk h.hF, fun e => (hg q e).elim h.hF (fun e => by have := Blk.lt h.a; omega), h.hq⟩
set_option maxRecDepth 20000 in
set_option maxHeartbeats 8000000 in
theorem dsyncs_any (A0 B0 C0 : Option Addr) (cA cB cC : Nat) (gA gB gC : Option Nat) (A B : List UInt8) (keep : List Bool) (w : World) (hA : recB.Rd w (.slice A0 A.length cA) gA A) (hB : recB.Rd w (.slice B0 B.length cB) gB B) (hC : recBo.Rd w (.slice C0 keep.length cC) gC keep)
    (lA : A.length ≤ 40) (lB : B.length ≤ 40) (lC : keep.length ≤ 60) :
    Calls Try.prog 7 #[.slice A0 A.length cA, .slice B0 B.length cB, .slice C0 keep.length cC] w (YesD w) := by
  have hkn := known7 w
  obtain ⟨na, hna⟩ : ∃ n, n = A.length := ⟨_, rfl⟩
  obtain ⟨nb, hnb⟩ : ∃ n, n = B.length := ⟨_, rfl⟩
  obtain ⟨nc, hnc⟩ : ∃ n, n = keep.length := ⟨_, rfl⟩
  rw [← hna] at hA lA ⊢
  rw [← hnb] at hB lB ⊢
  rw [← hnc] at hC lC ⊢
  have g1 : ¬ (40 : Int) < (na : Int) := by omega
  have g2 : ¬ (40 : Int) < (nb : Int) := by omega
  have g3 : ¬ (60 : Int) < (nc : Int) := by omega
  have hsum : IntKind.i64.wrap ((na : Int) + nb) = ((na + nb : Nat) : Int) := by rw [IntWalk.i64_in _ (by omega)]; omega
  have hna1 : IntKind.i64.wrap ((na : Int) - 1) = (na : Int) - 1 := IntWalk.i64_in _ (by omega)
  have Hkn := Lib.hid hkn
  have HA := Lib.hid hA
  have HB := Lib.hid hB
  have HC := Lib.hid hC
  have Hna := Lib.hid hna
  have Hnb := Lib.hid hnb
  have Hnc := Lib.hid hnc
  clear hkn hA hB hC hna hnb hnc
  go_enter Try.func7, Try.ntmps7
  go_wp2_with fail
  refine (Hkn.out).mono ?_
  rintro e w1 ⟨rfl, hk1⟩
  clear Hkn
  have hc := own_new 8 64 hk1 (by decide) (by decide) (by decide) (by decide)
  have Hk1 := Lib.hid hk1
  have Hc := Lib.hid hc
  clear hk1 hc
  go_wp2_with fail
  refine (Hc.out).mono ?_
  rintro e w2 ⟨d, F2, rfl, o2, -, -⟩
  clear Hc
  unfold dp
  obtain ⟨w3, hw3⟩ : ∃ w3, w3 = w2.alloc (.cells #[.int .i64 0, .int .i64 0, .int .i64 0, .int .i64 0, .int .i64 0, .int .i64 0, .int .i64 0, .int .i64 0] 51) := ⟨_, rfl⟩
  obtain ⟨q, hq⟩ : ∃ q, q = w2.heap.size := ⟨_, rfl⟩
  have hs : SynAt w w3 d q F2 (freshD 8 64) (List.replicate 8 0) := by
    rw [hw3]
    refine ⟨o2.same ((Keeps.refl nowhere w2).alloc _), ?_, fun h => by have := o2.k.lt q h; omega, by rw [hq]; exact o2.kp.size⟩
    rw [hq]; exact Blk.new _ _ _
  have e0 : freshD 8 64 = synD A B 0 := by
    unfold synD
    split
    · rfl
    · rename_i h0
      have : A = [] := List.eq_nil_of_length_eq_zero (by omega)
      subst this; rfl
  have e1 : (List.replicate 8 0 : List Int) = synW A B keep 0 := by
    unfold synW
    split
    · rfl
    · rename_i h0
      have : A = [] := List.eq_nil_of_length_eq_zero (by omega)
      subst this; rfl
  rw [e0, e1] at hs
  clear e0 e1 o2
  have Hs := Lib.hid hs
  have Hw3 := Lib.hid hw3
  have Hq := Lib.hid hq
  clear hs hw3 hq
  go_upto_region 8 with fail
  rw [← Hw3.out]
  simp only [← Hq.out]
  clear Hw3
  have hk13 : Keeps nowhere w w3 := Hs.out.o.kp
  go_loopw [10] (fun iv wr => ∃ (i : Nat) (F : Nat → Prop), iv = .int .i64 i ∧ i ≤ na + nb ∧ SynAt w wr d q F (synD A B i) (synW A B keep i)) (fun iv _ => na + nb - (intOf iv).toNat)
  case atStart => exact ⟨0, F2, rfl, Nat.zero_le _, Hs.out⟩
  case round =>
    obtain ⟨i, F, rfl, hi, h⟩ := hrel
    by_cases hlt : i < na + nb
    · have hltI : (i : Int) < ((na + nb : Nat) : Int) := by omega
      have hi1 : IntKind.i64.wrap ((i : Int) + 1) = i + 1 := IntWalk.i64_in _ (by omega)
      have hi8 : IntKind.u8.wrap ((i : Int) + 1) = i + 1 := by rw [IntKind.wrap_u8]; omega
      have hkr : Keeps nowhere w wr := h.o.kp
      have H := Lib.hid h
      have Hkr := Lib.hid hkr
      clear h hkr
      go_wp2_with (at_make; refine wpList_make_bytesB _ rfl _ _ rfl 64 64 rfl rfl rfl (by omega) ?_)
      intro w4 hx4 hk4
      obtain ⟨x, hx⟩ : ∃ x, x = wr.heap.size := ⟨_, rfl⟩
      rw [← hx] at hx4
      simp only [← hx]
      obtain ⟨⟨u, cu⟩, fu, hx5, hk5⟩ := row_set hx4 (i := 0) (by decide) (UInt8.ofNat (i + 1))
      have hbv : bv (UInt8.ofNat (i + 1)) = .int .u8 ((i : Int) + 1) := by
        unfold bv
        rw [UInt8.toNat_ofNat', Nat.mod_eq_of_lt (by omega)]
        rfl
      rw [hbv] at hx5 hk5
      obtain ⟨w5, hw5⟩ : ∃ w5, w5 = w4.setCell ⟨x, 0, none⟩ (.int .u8 ((i : Int) + 1)) := ⟨_, rfl⟩
      rw [← hw5] at hx5 hk5
      have hk45 : Keeps nowhere wr w5 := hk4.trans hk5 (fun k hk e => by have e2 : k = x := e; omega)
      have h5 := H.out.same hk45
      have hkw5 := Hkr.out.more hk45
      change recB.Row w5 _ (bX (i + 1)) at hx5
      clear hx4 hk4 hk5 hk45 hbv
      have Hx5 := Lib.hid hx5
      have H5 := Lib.hid h5
      have Hw5 := Lib.hid hw5
      have Hx := Lib.hid hx
      have Hkw5 := Lib.hid hkw5
      clear hx5 h5 hw5 hx hkw5
      go_upto_region 12 with fail
      rw [← Hw5.out]
      clear cu fu Hw5 H
      by_cases hA1 : i < na
      · have hA1I : (i : Int) < na := by omega
        obtain ⟨y, hy⟩ : ∃ y, A[i]? = some y := ⟨_, List.getElem?_eq_getElem (by have := Hna.out; omega)⟩
        obtain ⟨ba, oa, hAa, ca⟩ := rdB_cell HA.out Hkw5.out hy
        have hyr : Int.tmod (y.toNat : Int) 8 = (secU y : Nat) := by rw [Int.tmod_eq_emod_of_nonneg (by omega)]; unfold secU; omega
        have hy8 : IntKind.u8.wrap ((secU y : Nat) : Int) = (secU y : Nat) := by have := secU_lt y; rw [IntKind.wrap_u8]; omega
        have hy64 : IntKind.i64.wrap ((secU y : Nat) : Int) = (secU y : Nat) := by have := secU_lt y; exact IntWalk.i64_in _ (by omega)
        have hs0 : (0 : Int) ≤ (secU y : Nat) := by omega
        have hs8 : ((secU y : Nat) : Int) < 8 := by have := secU_lt y; omega
        have hsL : secU y < 8 := secU_lt y
        unfold bv at ca
        obtain ⟨sy, hsy⟩ : ∃ sy, sy = secU y := ⟨_, rfl⟩
        rw [← hsy] at hyr hy8 hy64 hs0 hs8 hsL
        have h6 := H5.out.put sy ((i : Int) + 1)
        have hW := synWA B keep hy (by omega)
        rw [← hsy] at hW
        rw [← hW] at h6
        obtain ⟨w6, hw6⟩ : ∃ w6, w6 = w5.setCell ⟨q, sy, none⟩ (.int .i64 ((i : Int) + 1)) := ⟨_, rfl⟩
        rw [← hw6] at h6
        have hx6 : recB.Row w6 _ (bX (i + 1)) := Hx5.out.keep (S := only q) (by rw [hw6]; exact (Keeps.refl (only q) w5).setCell (p := ⟨q, sy, none⟩) (fun _ => rfl) _) (fun k e e2 => by
          have e3 : k = q := e2
          subst e3
          exact own_blk_ne Hx5.out H5.out.a (by decide) e)
        have cq : ∃ z, w5.cell? ⟨q, sy, none⟩ = some z := ⟨_, H5.out.a.cell (List.getElem?_eq_getElem (by rw [synW_len]; exact hsL))⟩
        obtain ⟨z, cq⟩ := cq
        have fq : w5.frozen? ⟨q, sy, none⟩ = false := Blk.frozen H5.out.a sy
        subst hAa
        clear hW
        have Hy := Lib.hid hy
        have Hx6 := Lib.hid hx6
        have H6 := Lib.hid h6
        have Hw6 := Lib.hid hw6
        have Hsy := Lib.hid hsy
        clear hy hx6 h6 hw6 hsy
        go_upto_region 19 with fail
        rw [← Hw6.out]
        clear ca cq fq
        by_cases hlast : i + 1 < na
        · have hne : ((i : Int) == (na : Int) - 1) = false := by simp; omega
          have hwr := synA B Hy.out (by have := Hna.out; omega)
          rw [← Hsy.out] at hwr
          have hc := own_write (sy : Nat) _ (bX (i + 1)) H6.out.o (synD_ok A B i (by have := Hna.out; omega) (by have := Hnb.out; omega) (by omega)) Hx6.out
          rw [hwr] at hc
          unfold dp at hc
          have Hc := Lib.hid hc
          have Hwr := Lib.hid hwr
          have Hlast := Lib.hid hlast
          clear hc hwr hlast
          go_wp2_with fail
          refine (Hc.out).mono ?_
          rintro e w7 ⟨rfl, F7, o7, -, hk7, hg7⟩
          have h7 := H6.out.go o7 hk7 hg7
          clear Hc o7 hk7 hg7
          have H7 := Lib.hid h7
          clear h7
          go_wp2_with fail
          go_roundw
          case rel => exact ⟨i + 1, F7, by simp, by omega, H7.out⟩
          case measure => simp [intOf]; omega
        · have heq : ((i : Int) == (na : Int) - 1) = true := by simp; omega
          obtain ⟨D7, hwr, hok, hsy2⟩ := synAl B Hy.out (by have := Hna.out; omega) (by have := Hna.out; omega)
          rw [← Hsy.out] at hwr
          have hc := own_write (sy : Nat) _ (bX (i + 1)) H6.out.o (synD_ok A B i (by have := Hna.out; omega) (by have := Hnb.out; omega) (by omega)) Hx6.out
          rw [hwr] at hc
          unfold dp at hc
          have Hc := Lib.hid hc
          have Hwr := Lib.hid hwr
          have Hlast := Lib.hid hlast
          clear hc hwr hlast
          go_wp2_with fail
          refine (Hc.out).mono ?_
          rintro e w7 ⟨rfl, F7, o7, -, hk7, hg7⟩
          have h7 := H6.out.go o7 hk7 hg7
          clear Hc o7 hk7 hg7
          have hc := own_sync h7.o hok
          rw [hsy2] at hc
          unfold dp at hc
          have H7 := Lib.hid h7
          have Hc := Lib.hid hc
          have Hsy2 := Lib.hid hsy2
          clear h7 hc hsy2
          go_wp2_with fail
          refine (Hc.out).mono ?_
          rintro e w8 ⟨rfl, F8, o8, hk8, hg8⟩
          have h8 := H7.out.go o8 hk8 hg8
          clear Hc o8 hk8 hg8
          have H8 := Lib.hid h8
          clear h8
          go_wp2_with fail
          go_roundw
          case rel => exact ⟨i + 1, F8, by simp, by omega, H8.out⟩
          case measure => simp [intOf]; omega
      · have hA1I : ¬ (i : Int) < na := by omega
        obtain ⟨j, hij⟩ : ∃ j, i = na + j := ⟨i - na, by omega⟩
        have hin : IntKind.i64.wrap ((i : Int) - na) = (j : Int) := by rw [IntWalk.i64_in _ (by omega)]; omega
        obtain ⟨y, hy⟩ : ∃ y, B[j]? = some y := ⟨_, List.getElem?_eq_getElem (by have := Hnb.out; omega)⟩
        obtain ⟨bb, ob, hBb, cb⟩ := rdB_cell HB.out Hkw5.out hy
        have hj0 : (0 : Int) ≤ (j : Int) := by omega
        have hjn : (j : Int) < nb := by omega
        have hyr : Int.tmod (y.toNat : Int) 8 = (secU y : Nat) := by rw [Int.tmod_eq_emod_of_nonneg (by omega)]; unfold secU; omega
        have hy8 : IntKind.u8.wrap ((secU y : Nat) : Int) = (secU y : Nat) := by have := secU_lt y; rw [IntKind.wrap_u8]; omega
        have hy64 : IntKind.i64.wrap ((secU y : Nat) : Int) = (secU y : Nat) := by have := secU_lt y; exact IntWalk.i64_in _ (by omega)
        have hs0 : (0 : Int) ≤ (secU y : Nat) := by omega
        have hs8 : ((secU y : Nat) : Int) < 8 := by have := secU_lt y; omega
        have hsL : secU y < 8 := secU_lt y
        unfold bv at cb
        obtain ⟨sy, hsy⟩ : ∃ sy, sy = secU y := ⟨_, rfl⟩
        rw [← hsy] at hyr hy8 hy64 hs0 hs8 hsL
        have hW := synWB A keep hy (by have := Hna.out; omega)
        rw [← hsy, show A.length + j = i by have := Hna.out; omega] at hW
        subst hBb
        have Hy := Lib.hid hy
        have Hsy := Lib.hid hsy
        have Hij := Lib.hid hij
        clear hy hsy hij
        by_cases hk : kfOf keep j = true
        · rw [if_pos hk] at hW
          obtain ⟨hkj, hkl⟩ : keep[j]? = some true ∧ j < nc := by
            unfold kfOf at hk
            cases hh : keep[j]? with
            | none => rw [hh] at hk; cases hk
            | some v =>
              rw [hh] at hk
              have := (List.getElem?_eq_some_iff.1 hh).1
              exact ⟨by simpa using hk, by have := Hnc.out; omega⟩
          obtain ⟨bc, oc, hCc, cc⟩ := rdBo_cell HC.out Hkw5.out hkj
          have hjc : (j : Int) < nc := by omega
          have h6 := H5.out.put sy ((i : Int) + 1)
          rw [← hW] at h6
          obtain ⟨w6, hw6⟩ : ∃ w6, w6 = w5.setCell ⟨q, sy, none⟩ (.int .i64 ((i : Int) + 1)) := ⟨_, rfl⟩
          rw [← hw6] at h6
          have hx6 : recB.Row w6 _ (bX (i + 1)) := Hx5.out.keep (S := only q) (by rw [hw6]; exact (Keeps.refl (only q) w5).setCell (p := ⟨q, sy, none⟩) (fun _ => rfl) _) (fun k e e2 => by
            have e3 : k = q := e2
            subst e3
            exact own_blk_ne Hx5.out H5.out.a (by decide) e)
          have cq : ∃ z, w5.cell? ⟨q, sy, none⟩ = some z := ⟨_, H5.out.a.cell (List.getElem?_eq_getElem (by rw [synW_len]; exact hsL))⟩
          obtain ⟨z, cq⟩ := cq
          have fq : w5.frozen? ⟨q, sy, none⟩ = false := Blk.frozen H5.out.a sy
          subst hCc
          clear hW
          have Hx6 := Lib.hid hx6
          have H6 := Lib.hid h6
          have Hw6 := Lib.hid hw6
          have Hk := Lib.hid hk
          have Hkj := Lib.hid hkj
          clear hx6 h6 hw6 hk hkj
          go_upto_region 19 with fail
          rw [← Hw6.out]
          clear cb cc cq fq
          have hwr := synB A Hy.out
          rw [← Hsy.out, show A.length + j = i by have := Hna.out; have := Hij.out; omega] at hwr
          have hne : ((i : Int) == (na : Int) - 1) = false := by have := Hij.out; simp; omega
          have hc := own_write (sy : Nat) _ (bX (i + 1)) H6.out.o (synD_ok A B i (by have := Hna.out; omega) (by have := Hnb.out; omega) (by omega)) Hx6.out
          rw [hwr] at hc
          unfold dp at hc
          have Hc := Lib.hid hc
          have Hwr := Lib.hid hwr
          clear hc hwr
          go_wp2_with fail
          refine (Hc.out).mono ?_
          rintro e w7 ⟨rfl, F7, o7, -, hk7, hg7⟩
          have h7 := H6.out.go o7 hk7 hg7
          clear Hc o7 hk7 hg7
          have H7 := Lib.hid h7
          clear h7
          go_wp2_with fail
          go_roundw
          case rel => exact ⟨i + 1, F7, by simp, by omega, H7.out⟩
          case measure => simp [intOf]; omega
        · rw [if_neg hk] at hW
          have h6 := H5.out
          rw [← hW] at h6
          have hx6 := Hx5.out
          by_cases hkl : j < nc
          · have hjc : (j : Int) < nc := by omega
            have hkj : keep[j]? = some false := by
              have hh : keep[j]? = some (keep[j]'(by have := Hnc.out; omega)) := List.getElem?_eq_getElem _
              unfold kfOf at hk
              rw [hh] at hk ⊢
              simpa using hk
            obtain ⟨bc, oc, hCc, cc⟩ := rdBo_cell HC.out Hkw5.out hkj
            subst hCc
            clear hW
            have Hx6 := Lib.hid hx6
            have H6 := Lib.hid h6
            have Hk := Lib.hid hk
            have Hkj := Lib.hid hkj
            clear hx6 h6 hk hkj
            go_upto_region 19 with fail
            clear cb cc
            have hwr := synB A Hy.out
            rw [← Hsy.out, show A.length + j = i by have := Hna.out; have := Hij.out; omega] at hwr
            have hne : ((i : Int) == (na : Int) - 1) = false := by have := Hij.out; simp; omega
            have hc := own_write (sy : Nat) _ (bX (i + 1)) H6.out.o (synD_ok A B i (by have := Hna.out; omega) (by have := Hnb.out; omega) (by omega)) Hx6.out
            rw [hwr] at hc
            unfold dp at hc
            have Hc := Lib.hid hc
            have Hwr := Lib.hid hwr
            clear hc hwr
            go_wp2_with fail
            refine (Hc.out).mono ?_
            rintro e w7 ⟨rfl, F7, o7, -, hk7, hg7⟩
            have h7 := H6.out.go o7 hk7 hg7
            clear Hc o7 hk7 hg7
            have H7 := Lib.hid h7
            clear h7
            go_wp2_with fail
            go_roundw
            case rel => exact ⟨i + 1, F7, by simp, by omega, H7.out⟩
            case measure => simp [intOf]; omega
          · have hjc : ¬ (j : Int) < nc := by omega
            clear hW
            have Hx6 := Lib.hid hx6
            have H6 := Lib.hid h6
            have Hk := Lib.hid hk
            clear hx6 h6 hk
            go_upto_region 19 with fail
            clear cb
            have hwr := synB A Hy.out
            rw [← Hsy.out, show A.length + j = i by have := Hna.out; have := Hij.out; omega] at hwr
            have hne : ((i : Int) == (na : Int) - 1) = false := by have := Hij.out; simp; omega
            have hc := own_write (sy : Nat) _ (bX (i + 1)) H6.out.o (synD_ok A B i (by have := Hna.out; omega) (by have := Hnb.out; omega) (by omega)) Hx6.out
            rw [hwr] at hc
            unfold dp at hc
            have Hc := Lib.hid hc
            have Hwr := Lib.hid hwr
            clear hc hwr
            go_wp2_with fail
            refine (Hc.out).mono ?_
            rintro e w7 ⟨rfl, F7, o7, -, hk7, hg7⟩
            have h7 := H6.out.go o7 hk7 hg7
            clear Hc o7 hk7 hg7
            have H7 := Lib.hid h7
            clear h7
            go_wp2_with fail
            go_roundw
            case rel => exact ⟨i + 1, F7, by simp, by omega, H7.out⟩
            case measure => simp [intOf]; omega
    · obtain rfl : i = na + nb := by omega
      have hltI : ¬ ((na + nb : Nat) : Int) < ((na + nb : Nat) : Int) := by omega
      have hN : na + nb = A.length + B.length := by have := Hna.out; have := Hnb.out; omega
      have hok := synD_ok A B (na + nb) (by have := Hna.out; omega) (by have := Hnb.out; omega) (by omega)
      have hend := synEnd A B keep
      rw [← hN] at hend
      have hc := own_cut _ gC keep h.o hok (HC.out.same h.o.kp) (fun k e hF => by
        obtain ⟨_, _, _, _, _, hu, _⟩ := HC.out
        have := hu k e
        have := h.o.own k hF
        omega)
      unfold dp at hc
      have H := Lib.hid h
      have Hc := Lib.hid hc
      have Hend := Lib.hid hend
      have Hok := Lib.hid hok
      clear h hc hend hok
      go_wp2_with fail
      refine (Hc.out).mono ?_
      rintro e w7 ⟨rfl, F7, o7, hk7, hg7⟩
      have h7 := H.out.go o7 hk7 hg7
      clear Hc o7 hk7 hg7
      have hc := own_on h7.o
      unfold dp at hc
      have H7 := Lib.hid h7
      have Hc := Lib.hid hc
      clear h7 hc
      go_wp2_with fail
      refine (Hc.out).mono ?_
      rintro e w8 ⟨rfl, F8, o8, hk8, hg8⟩
      have h8 := H7.out.go o8 hk8 hg8
      have hok8 : DOk ((synD A B (na + nb)).cut keep).on := ⟨(Hok.out.cut keep).pend, (Hok.out.cut keep).size, (Hok.out.cut keep).kept, (Hok.out.cut keep).all, (Hok.out.cut keep).writes, (Hok.out.cut keep).arm, (Hok.out.cut keep).keep⟩
      clear Hc o8 hk8 hg8
      obtain ⟨e1, e2, e3, e4, e5⟩ := Hend.out
      generalize hD9 : ((synD A B (na + nb)).cut keep).on = D9 at *
      generalize hl9 : synW A B keep (na + nb) = l9 at *
      clear Hend Hok
      have H8 := Lib.hid h8
      have Hok8 := Lib.hid hok8
      have E1 := Lib.hid e1
      have E2 := Lib.hid e2
      have E3 := Lib.hid e3
      have E4 := Lib.hid e4
      have E5 := Lib.hid e5
      have HD9 := Lib.hid hD9
      have Hl9 := Lib.hid hl9
      clear h8 hok8 e1 e2 e3 e4 e5 hD9 hl9
      go_wp2_with fail
      go_loopw [13] (fun iv wr => ∃ k : Nat, iv = .int .i64 k ∧ k ≤ 8 ∧ SynAt w wr d q F8 D9 l9) (fun iv _ => 8 - (intOf iv).toNat)
      case atStart => exact ⟨0, rfl, by omega, H8.out⟩
      case round =>
        obtain ⟨k, rfl, hk, h⟩ := hrel
        by_cases hlt : k < 8
        · have hltI : (k : Int) < 8 := by omega
          have hk1 : IntKind.i64.wrap ((k : Int) + 1) = k + 1 := IntWalk.i64_in _ (by omega)
          have hk0 : (0 : Int) ≤ (k : Int) := by omega
          have hlen := h.o.k.readLen E1.out (s := k) (by rw [E3.out]; exact hlt)
          rw [E4.out] at hlen
          have hre : D9.readE (k : Int) = 0 := by
            unfold DiskV.readE
            rw [if_neg (by rw [E1.out]; simp), if_pos ⟨by omega, by rw [E3.out]; omega⟩]
          have hwk := E5.out k hlt
          have hc := own_read (k : Int) h.o Hok8.out
          rw [hlen, hre] at hc
          unfold dp at hc
          obtain ⟨L, hL⟩ : ∃ L, L = D9.readL (k : Int) := ⟨_, rfl⟩
          rw [← hL] at hc hlen hwk
          have H := Lib.hid h
          have Hc := Lib.hid hc
          have HL := Lib.hid hL
          clear h hc hL
          go_wp2_with fail
          refine (Hc.out).mono ?_
          rintro e w9 ⟨A9, c9, g9, rfl, hr9, -, -, hk9⟩
          have h9 := H.out.same hk9
          obtain ⟨y, hy⟩ : ∃ y, L[0]? = some y := ⟨_, List.getElem?_eq_getElem (by omega)⟩
          obtain ⟨b9, o9, hA9, c9'⟩ := rdB_cell hr9 (Keeps.refl nowhere w9) hy
          have cw := h9.a.cell hwk
          rw [hdL, hy, Option.getD_some] at cw
          unfold bv at c9'
          rw [Nat.add_zero] at c9'
          subst hA9
          have hy64 : IntKind.i64.wrap (y.toNat : Int) = (y.toNat : Int) := IntWalk.i64_in _ (by have := y.toNat_lt; omega)
          clear hr9 Hc hwk hlen
          have H9 := Lib.hid h9
          have Hy := Lib.hid hy
          have Hre := Lib.hid hre
          clear h9 hy hre
          go_wp2_with fail
          go_quiet (fail)
          go_wp2_with fail
          go_roundw
          case rel => exact ⟨k + 1, by simp, by omega, H9.out.same ((Keeps.refl nowhere w9).drewN _)⟩
          case measure => simp [intOf]; omega
        · obtain rfl : k = 8 := by omega
          have hp := dk_pending h.o.k
          rw [E2.out] at hp
          unfold dp at hp
          have hkk := h.o.kp
          have H := Lib.hid h
          have Hp := Lib.hid hp
          have Hkk := Lib.hid hkk
          clear h hp hkk
          go_wp2_with fail
          go_wp2_with fail
          refine (Hp.out).mono ?_
          rintro e w9 ⟨rfl, rfl⟩
          go_wp2_with fail
          go_ret
          exact ⟨by simp, Hkk.out⟩
end Go.Proofs.Ytnddaildicmneaa
