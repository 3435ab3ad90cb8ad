/-
  Parts of the proof, joined in build order: PgV, PgW.
-/
import Derived.Test.YtnddaildicmneaaMp6
import Derived.Deep.CutBlock
import Derived.Deep.CutRange
set_option linter.unusedVariables false
set_option linter.unusedSimpArgs false
/-
  pages: a page's bytes by a number, as the law writes them.
-/
namespace Go.Proofs.Ytnddaildicmneaa
open Go.Proofs Go.RowKit Go.Sort Go.Maps

def pageL (v : Nat) : List UInt8 := (((zerosB 48).set 0 (UInt8.ofNat v)).set 1 (UInt8.ofNat (v / 256))).set 47 (UInt8.ofNat v)
theorem pageL_len (v : Nat) : (pageL v).length = 48 := by simp [pageL, zerosB]
theorem bv_ofNat (v : Nat) : bv (UInt8.ofNat v) = .int .u8 ((v % 256 : Nat) : Int) := by simp [bv]
set_option maxRecDepth 20000 in
set_option maxHeartbeats 4000000 in
theorem page_any (v : Nat) (w : World) (hv : v < 65536) : Calls Try.prog 44 #[.int .i64 48, .int .u16 v] w fun e w' => e = .returned (.string (strOf (pageL v))) ∧ Keeps nowhere w w' := by
  have e1 : IntKind.u8.wrap (v : Int) = ((v % 256 : Nat) : Int) := by rw [IntKind.wrap_u8']; omega
  have e1b : (v : Int) % 256 = ((v % 256 : Nat) : Int) := by omega
  have e2 : (v : Int) / 2 ^ (8 : Nat) = ((v / 256 : Nat) : Int) := by omega
  have e2b : (v : Int) / 256 = ((v / 256 : Nat) : Int) := by omega
  have e3 : IntKind.u16.wrap ((v / 256 : Nat) : Int) = ((v / 256 : Nat) : Int) := by rw [IntKind.wrap_u16]; omega
  have e4 : IntKind.u8.wrap ((v / 256 : Nat) : Int) = ((v / 256 % 256 : Nat) : Int) := by rw [IntKind.wrap_u8']; omega
  obtain ⟨x, hx⟩ : ∃ x, x = v % 256 := ⟨_, rfl⟩
  obtain ⟨y, hy⟩ : ∃ y, y = v / 256 := ⟨_, rfl⟩
  obtain ⟨y2, hy2⟩ : ∃ y2, y2 = v / 256 % 256 := ⟨_, rfl⟩
  have hyy : y2 = y := by omega
  rw [← hx] at e1 e1b
  rw [← hy2] at e4
  rw [← hy] at e2 e2b e3 e4
  have Hx := Lib.hid hx
  have Hy := Lib.hid hy
  have Hy2 := Lib.hid hy2
  have Hyy := Lib.hid hyy
  clear hx hy hy2 hyy
  go_enter Try.func44, Try.ntmps44
  go_wp2_with (at_make; refine wpList_make_bytesB _ rfl _ _ rfl 48 48 rfl rfl rfl (by omega) ?_)
  intro w2 hx2 hk2
  obtain ⟨q, hq⟩ : ∃ q, q = w.heap.size := ⟨_, rfl⟩
  rw [← hq] at hx2
  simp only [← hq]
  obtain ⟨⟨u2, cu2⟩, fu2, hx3, hk3⟩ := row_set hx2 (i := 0) (by decide) (UInt8.ofNat v)
  rw [bv_ofNat, ← Hx.out] at hx3 hk3
  obtain ⟨w3, hw3⟩ : ∃ w3, w3 = w2.setCell ⟨q, 0, none⟩ (.int .u8 x) := ⟨_, rfl⟩
  rw [← hw3] at hx3 hk3
  have hk03 : Keeps nowhere w w3 := hk2.trans hk3 (fun k hk e => by have e2 : k = q := e; omega)
  clear hk2 hk3 hx2
  have Hx3 := Lib.hid hx3
  have Hk03 := Lib.hid hk03
  have Hq := Lib.hid hq
  have Hw3 := Lib.hid hw3
  clear hx3 hk03 hq hw3
  go_upto_region 3 with fail
  rw [← Hw3.out]
  clear cu2 fu2
  obtain ⟨⟨u3, cu3⟩, fu3, hx4, hk4⟩ := row_set Hx3.out (i := 1) (by decide) (UInt8.ofNat (v / 256))
  rw [bv_ofNat, ← Hy2.out, Hyy.out] at hx4 hk4
  obtain ⟨w4, hw4⟩ : ∃ w4, w4 = w3.setCell ⟨q, 1, none⟩ (.int .u8 y) := ⟨_, rfl⟩
  rw [← hw4] at hx4 hk4
  have hqw : w.heap.size ≤ q := by rw [Hq.out]; exact Nat.le_refl _
  have hk04 : Keeps nowhere w w4 := Hk03.out.trans hk4 (fun k hk e => by have e2 : k = q := e; omega)
  clear hk4
  have hyy3 := Hyy.out
  subst hyy3
  have Hx4 := Lib.hid hx4
  have Hk04 := Lib.hid hk04
  have Hw4 := Lib.hid hw4
  have Hqw := Lib.hid hqw
  clear hx4 hk04 hw4 hqw
  go_upto_region 4 with fail
  rw [← Hw4.out]
  clear cu3 fu3
  obtain ⟨⟨u4, cu4⟩, fu4, hx5, hk5⟩ := row_set Hx4.out (i := 47) (by decide) (UInt8.ofNat v)
  rw [bv_ofNat, ← Hx.out] at hx5 hk5
  obtain ⟨w5, hw5⟩ : ∃ w5, w5 = w4.setCell ⟨q, 47, none⟩ (.int .u8 x) := ⟨_, rfl⟩
  rw [← hw5] at hx5 hk5
  have hk05 : Keeps nowhere w w5 := Hk04.out.trans hk5 (fun k hk e => by have e2 : k = q := e; have := Hqw.out; omega)
  clear hk5
  change recB.Row w5 _ (pageL v) at hx5
  have hcv := conv_str _ _ (pageL v) w5 (rd_ofB hx5.rd (by rw [pageL_len]; omega))
  have Hx5 := Lib.hid hx5
  have Hk05 := Lib.hid hk05
  have Hw5 := Lib.hid hw5
  clear hx5 hk05 hw5
  go_upto_region 5 with fail
  rw [← Hw5.out]
  clear cu4 fu4
  go_wp2_with fail
  go_ret
  exact ⟨rfl, Hk05.out⟩
end Go.Proofs.Ytnddaildicmneaa
/-
  loggialaw8.PagesWhole: the walk.
-/
namespace Go.Proofs.Ytnddaildicmneaa
open Go.Proofs Go.RowKit Go.Sort Go.Maps

theorem PV.mono {N W G W' G' : Nat} {D : DiskV} {B : BookV} {vals : List (List UInt8)} (h : PV N W G D B vals) (hW : W ≤ W') (hG : G ≤ G') : PV N W' G' D B vals :=
  ⟨h.lies, h.pend, h.size, h.bsz, h.klen, Nat.le_trans h.wr hW, h.keep, h.arm, Nat.le_trans h.gen hG, h.ch, h.out⟩
/-- a book with one number on all its pages, behind `c` commits -/
structure WSt (w0 w : World) (d s N k c : Nat) (X : List UInt8) (F M : Nat → Prop) (D : DiskV) (B : BookV) : Prop where
  pm : PM w0 w d s F M D B
  pv : PV N (4000 + 2000 * c) (2 + c) D B (List.replicate k X)
  a0 : B.a = 0
  nN : B.n = N
  pk : B.pages = k
  xl : X.length = 48
section
variable {w0 w w' : World} {d s N k c : Nat} {X : List UInt8} {F M : Nat → Prop} {D : DiskV} {B : BookV}
theorem WSt.same (h : WSt w0 w d s N k c X F M D B) (hk : Keeps nowhere w w') : WSt w0 w' d s N k c X F M D B := ⟨h.pm.same hk, h.pv, h.a0, h.nN, h.pk, h.xl⟩
theorem WSt.more (h : WSt w0 w d s N k c X F M D B) {c' : Nat} (hc : c ≤ c') : WSt w0 w d s N k c' X F M D B := ⟨h.pm, h.pv.mono (by omega) (by omega), h.a0, h.nN, h.pk, h.xl⟩
theorem mixL_zero (k : Nat) (X Y : List UInt8) : List.replicate 0 Y ++ List.replicate (k - 0) X = List.replicate k X := by simp
theorem mixL_succ {k j : Nat} (hj : j < k) (X Y : List UInt8) : (List.replicate j Y ++ List.replicate (k - j) X).set j Y = List.replicate (j + 1) Y ++ List.replicate (k - (j + 1)) X := by
  rw [List.set_append_right _ _ (by simp), List.length_replicate, Nat.sub_self, show k - j = (k - (j + 1)) + 1 by omega, List.replicate_succ, List.set_cons_zero, List.replicate_succ']
  simp
theorem get_rep {k j : Nat} (hj : j < k) (X : List UInt8) : ((List.replicate k X)[j]?).getD [] = X := by simp [hj]
end
theorem rdB_cell {w : World} {A : Option Addr} {n c : Nat} {g : Option Nat} {L : List UInt8} (h : recB.Rd w (.slice A n c) g L) {i : Nat} {x : UInt8} (hx : L[i]? = some x) : ∃ b o, A = some ⟨b, o, none⟩ ∧ w.cell? ⟨b, o + i, none⟩ = some (bv x) := by
  obtain ⟨b, o, c', hv, -, hc⟩ := rdB_at h (by have := (List.getElem?_eq_some_iff.1 hx).1; omega)
  injection hv with e _ _
  exact ⟨b, o, e, hc i x hx⟩
set_option maxRecDepth 20000 in
set_option maxHeartbeats 4000000 in
theorem pwhole_long (n : Nat) (A1 A2 : Option Addr) (n1 c1 n2 c2 : Nat) (w : World) (h : 20 < n1 ∨ 60 < n2) : Calls Try.prog 11 #[.int .u8 n, .slice A1 n1 c1, .slice A2 n2 c2] w (YesD w) := by
  have hkn := known8 w
  by_cases h1 : 20 < n1
  · have g1 : (20 : Int) < (n1 : Int) := by omega
    have Hkn := Lib.hid hkn
    have H := Lib.hid h
    clear hkn h
    go_enter Try.func11, Try.ntmps11
    go_wp2_with fail
    refine (Hkn.out).mono ?_
    rintro e w1 ⟨rfl, hk1⟩
    go_wp2_with fail
    go_ret
    exact ⟨rfl, hk1⟩
  · have g1 : ¬ (20 : Int) < (n1 : Int) := by omega
    have g2 : (60 : Int) < (n2 : Int) := by omega
    have Hkn := Lib.hid hkn
    have H := Lib.hid h
    clear hkn h
    go_enter Try.func11, Try.ntmps11
    go_wp2_with fail
    refine (Hkn.out).mono ?_
    rintro e w1 ⟨rfl, hk1⟩
    go_wp2_with fail
    go_ret
    exact ⟨rfl, hk1⟩
set_option maxRecDepth 20000 in
set_option maxHeartbeats 16000000 in
theorem pwhole_any (n : Nat) (A1 A2 : Option Addr) (c1 c2 : Nat) (g1 g2 : Option Nat) (cuts : List UInt8) (keep : List Bool) (w : World) (hn : n < 256) (hr1 : recB.Rd w (.slice A1 cuts.length c1) g1 cuts) (hr2 : recBo.Rd w (.slice A2 keep.length c2) g2 keep) (hl1 : cuts.length ≤ 20) (hl2 : keep.length ≤ 60) :
    Calls Try.prog 11 #[.int .u8 n, .slice A1 cuts.length c1, .slice A2 keep.length c2] w (YesD w) := by
  have hkn := known8 w
  obtain ⟨n1, hn1⟩ : ∃ n1, n1 = cuts.length := ⟨_, rfl⟩
  obtain ⟨n2, hn2⟩ : ∃ n2, n2 = keep.length := ⟨_, rfl⟩
  rw [← hn1] at hr1 hl1 ⊢
  rw [← hn2] at hr2 hl2 ⊢
  have i1 : ¬ (20 : Int) < (n1 : Int) := by omega
  have i2 : ¬ (60 : Int) < (n2 : Int) := by omega
  obtain ⟨m, hm⟩ : ∃ m, m = n % 8 := ⟨_, rfl⟩
  have e1 : Int.tmod (n : Int) 8 = (m : Int) := by rw [Int.tmod_eq_emod_of_nonneg (by omega)]; omega
  have e1b : (n : Int) % 8 = (m : Int) := by omega
  have e1c : IntKind.u8.wrap (m : Int) = m := by rw [IntKind.wrap_u8']; omega
  have e2 : IntKind.i64.wrap (m : Int) = m := IntWalk.i64_in _ (by omega)
  obtain ⟨k, hk⟩ : ∃ k, k = 1 + m := ⟨_, rfl⟩
  have e3 : IntKind.i64.wrap (1 + (m : Int)) = (k : Int) := by rw [IntWalk.i64_in _ (by omega)]; omega
  obtain ⟨N, hN⟩ : ∃ N, N = 3 * k + 16 := ⟨_, rfl⟩
  obtain ⟨k3, hk3⟩ : ∃ k3, k3 = 3 * k := ⟨_, rfl⟩
  have e4 : IntKind.i64.wrap (3 * (k : Int)) = (k3 : Int) := by rw [IntWalk.i64_in _ (by omega)]; omega
  have e5 : IntKind.i64.wrap ((k3 : Int) + 16) = (N : Int) := by rw [IntWalk.i64_in _ (by omega)]; omega
  have hk1 : 1 ≤ k ∧ k ≤ 8 := by omega
  have hft : fitsN N k := ⟨by omega, by omega, by omega⟩
  have hNl : 40 < 100 ∧ N ≤ 100 ∧ 1 ≤ N := by omega
  have hnew := fun w1 (hk : Keeps nowhere w w1) => own_new (w0 := w) N 64 hk (by omega) (by omega) (by decide) (by decide)
  clear hm hk hk3
  have Hkn := Lib.hid hkn
  have Hr1 := Lib.hid hr1
  have Hr2 := Lib.hid hr2
  have Hn1 := Lib.hid hn1
  have Hn2 := Lib.hid hn2
  have HN := Lib.hid hN
  have Hft := Lib.hid hft
  have Hnew := Lib.hid hnew
  clear hkn hr1 hr2 hn1 hn2 hN hft hnew
  go_enter Try.func11, Try.ntmps11
  go_wp2_with fail
  refine (Hkn.out).mono ?_
  rintro e w1 ⟨rfl, hkw1⟩
  go_wp2_with fail
  refine (Hnew.out w1 hkw1).mono ?_
  rintro e w2 ⟨d, F2, rfl, o2, -, -⟩
  have hfm := pm_format N 0 N k o2 (by omega) (by omega) Hft.out
  unfold dp bp at *
  have O2 := Lib.hid o2
  have Hfm := Lib.hid hfm
  have Hkw1 := Lib.hid hkw1
  clear o2 hfm hkw1
  go_wp2_with fail
  refine (Hfm.out).mono ?_
  rintro e w3 ⟨s, F3, M3, D3, rfl, pm3, pv3, ho3, -, -, -⟩
  have ws3 : WSt w w3 d s N k (4 * 0) (zerosB 48) F3 M3 D3 ⟨0, N, 64, 1, k, List.replicate k false, []⟩ := ⟨pm3, pv3.mono (by omega) (by omega), rfl, rfl, rfl, by simp [zerosB]⟩
  clear Hfm pm3 pv3
  have Ws3 := Lib.hid ws3
  have Ho3 := Lib.hid ho3
  clear ws3 ho3
  go_upto_region 12 with fail
  go_loopw [10, 12, 13] (fun sv vv iv wr => ∃ (i s v : Nat) (X : List UInt8) (F M : Nat → Prop) (D : DiskV) (B : BookV), iv = .int .i64 i ∧ sv = .pointer (some ⟨s, 0, none⟩) ∧ vv = .int .u16 v ∧ i ≤ n1 ∧ v < 65536 ∧ WSt w wr d s N k (4 * i) X F M D B ∧ D.off = false ∧ B.changed = []) (fun _ _ iv _ => n1 - (intOf iv).toNat)
  case atStart => exact ⟨0, s, 0, _, F3, M3, D3, _, rfl, rfl, rfl, Nat.zero_le _, by omega, Ws3.out, Ho3.out, rfl⟩
  case round =>
    obtain ⟨i, s, v, X, F, M, D, B, rfl, rfl, rfl, hi, hv, hws, ho, hch⟩ := hrel
    by_cases hlt : i < n1
    · have hltI : (i : Int) < n1 := by omega
      have hi0 : (0 : Int) ≤ (i : Int) := by omega
      have hi1 : IntKind.i64.wrap ((i : Int) + 1) = i + 1 := IntWalk.i64_in _ (by omega)
      obtain ⟨u, hu⟩ : ∃ u, cuts[i]? = some u := ⟨_, List.getElem?_eq_getElem (by rw [← Hn1.out]; exact hlt)⟩
      obtain ⟨b1, o1, hA1, hcu⟩ := rdB_cell (Hr1.out.same hws.pm.kp) hu
      obtain ⟨x, hx⟩ : ∃ x, x = u.toNat := ⟨_, rfl⟩
      have hbv : bv u = .int .u8 (x : Int) := by unfold bv; rw [hx]
      rw [hbv] at hcu
      have hx8 : x < 256 := by rw [hx]; exact u.toNat_lt
      have hxw : IntKind.i64.wrap (x : Int) = x := IntWalk.i64_in _ (by omega)
      have harm := pm_arm (x : Int) (.slice A2 n2 c2) g2 keep hws.pm (Hr2.out.same hws.pm.kp) (by have := Hn2.out; omega)
      unfold dp at harm
      subst hA1
      clear hbv hx
      have Hws := Lib.hid hws
      have Ho := Lib.hid ho
      have Hch := Lib.hid hch
      have Harm := Lib.hid harm
      have Hu := Lib.hid hu
      clear hws ho hch harm hu
      go_wp2_with fail
      refine Harm.out.mono ?_
      rintro e w4 ⟨rfl, F4, pm4, st4⟩
      clear hcu Harm
      have ws4 : WSt w w4 d s N k (4 * i + 0) X F4 M (D.arm x keep) B := ⟨pm4, Hws.out.pv.arming x (by omega) keep (by have := Hn2.out; omega), Hws.out.a0, Hws.out.nN, Hws.out.pk, Hws.out.xl⟩
      have Pm4 := Lib.hid pm4
      have St4 := Lib.hid st4
      have Ws4 := Lib.hid ws4
      clear pm4 st4 ws4
      go_upto_block 2 with fail
      go_cut [12, 14, 15] from 73 to 96 (fun vv _ _ wx => ∃ (v : Nat) (X : List UInt8) (F M : Nat → Prop) (D : DiskV) (B : BookV), vv = .int .u16 v ∧ v < 65536 ∧ WSt w wx d s N k (4 * (i + 1)) X F M D B)
      case first =>
        go_wp2_with fail
        go_loopw [12, 14] (fun vv tv wr => ∃ (t v : Nat) (X : List UInt8) (F M : Nat → Prop) (D : DiskV) (B : BookV), tv = .int .i64 t ∧ vv = .int .u16 v ∧ t ≤ 4 ∧ v < 65536 ∧ WSt w wr d s N k (4 * i + t) X F M D B ∧ (D.off = false → B.changed = [])) (fun _ tv _ => 4 - (intOf tv).toNat)
        case atStart => exact ⟨0, v, X, F4, M, _, B, rfl, rfl, Nat.zero_le _, hv, Ws4.out, fun _ => Hch.out⟩
        case round =>
          obtain ⟨t, v, X, F, M, D, B, rfl, rfl, ht, hv, hws, hch⟩ := hrel
          by_cases h4 : t < 4
          · have h4I : (t : Int) < 4 := by omega
            have ht1 : IntKind.i64.wrap ((t : Int) + 1) = t + 1 := IntWalk.i64_in _ (by omega)
            have hoff := dk_off hws.pm.dk
            unfold dp at hoff
            cases ho : D.off with
            | true =>
              rw [ho] at hoff
              have Hws := Lib.hid hws
              have Hch := Lib.hid hch
              have Hoff := Lib.hid hoff
              have Ho := Lib.hid ho
              clear hws hch hoff ho
              go_wp2_with fail
              refine Hoff.out.mono ?_
              rintro e w' ⟨rfl, rfl⟩
              go_wp2_with fail
              go_meet
              case rel => exact ⟨v, X, F, M, D, B, rfl, hv, Hws.out.more (by omega)⟩
            | false =>
              rw [ho] at hoff
              have hB0 := hch ho
              obtain ⟨v', hv'⟩ : ∃ v', v' = (v + 1) % 65536 := ⟨_, rfl⟩
              have ev : IntKind.u16.wrap ((v : Int) + 1) = (v' : Int) := by rw [IntKind.wrap_u16]; omega
              have ev2 : ((v : Int) + 1) % 65536 = (v' : Int) := by omega
              have hv6 : v' < 65536 := by omega
              have hcur0 : curV B (List.replicate k X) = List.replicate 0 (pageL v') ++ List.replicate (k - 0) X := by rw [curV_nil hB0, mixL_zero]
              have Hws := Lib.hid hws
              have Hch := Lib.hid hch
              have Hoff := Lib.hid hoff
              have Ho := Lib.hid ho
              have HB0 := Lib.hid hB0
              have Hv' := Lib.hid hv'
              have Hcur0 := Lib.hid hcur0
              clear hws hch hoff ho hB0 hv' hcur0
              go_wp2_with fail
              refine Hoff.out.mono ?_
              rintro e w' ⟨rfl, rfl⟩
              go_upto_region 20 with fail
              go_loopw [15] (fun jv wr => ∃ (j : Nat) (M' : Nat → Prop) (B' : BookV), jv = .int .i64 j ∧ j ≤ k ∧ PM w wr d s F M' D B' ∧ PV N (4000 + 2000 * (4 * i + t)) (2 + (4 * i + t)) D B' (List.replicate k X) ∧ (B'.a = 0 ∧ B'.n = N ∧ B'.pages = k) ∧ curV B' (List.replicate k X) = List.replicate j (pageL v') ++ List.replicate (k - j) X) (fun jv _ => k - (intOf jv).toNat)
              case atStart => exact ⟨0, M, B, rfl, Nat.zero_le _, Hws.out.pm, Hws.out.pv, ⟨Hws.out.a0, Hws.out.nN, Hws.out.pk⟩, Hcur0.out⟩
              case round =>
                obtain ⟨j, M', B', rfl, hj, pm, pv, ⟨ba, bn, bk⟩, hcur⟩ := hrel
                by_cases hjk : j < k
                · have hjI : (j : Int) < k := by omega
                  have hj1 : IntKind.i64.wrap ((j : Int) + 1) = j + 1 := IntWalk.i64_in _ (by omega)
                  have hpg := page_any v' wr hv6
                  have Pm := Lib.hid pm
                  have Pv := Lib.hid pv
                  have Ba := Lib.hid ba
                  have Bn := Lib.hid bn
                  have Bk := Lib.hid bk
                  have Hcur := Lib.hid hcur
                  have Hpg := Lib.hid hpg
                  clear pm pv ba bn bk hcur hpg
                  go_wp2_with fail
                  refine Hpg.out.mono ?_
                  rintro e w5 ⟨rfl, hk5⟩
                  have pm5 := Pm.out.same hk5
                  obtain ⟨cv, W6, hcv, hrv, hkv⟩ := conv_bytes (pageL v') (by rw [pageL_len]; omega) w5
                  rw [pageL_len] at hcv hrv
                  have pm6 := pm5.same hkv
                  have hwk : writeOk B' (j : Int) (pageL v') = true := by
                    unfold writeOk inP
                    rw [Bk.out, pageL_len, Pv.out.bsz, decide_eq_true (by omega)]; rfl
                  have hwr := pm_write (j : Int) _ 48 cv _ (pageL v') pm6 (Pv.out.ok (by omega) (by omega)) hrv (by have := Pv.out.ch.le; have := Bk.out; omega)
                  have hwB : writeB B' (j : Int) (pageL v') = { B' with changed := putC B'.changed j (pageL v') } := by unfold writeB; rw [if_pos hwk, Int.toNat_natCast]
                  have hwE : writeE B' (j : Int) (pageL v') = 0 := by unfold writeE; rw [if_pos hwk]
                  rw [hwB, hwE] at hwr
                  have pv6 : PV N (4000 + 2000 * (4 * i + t)) (2 + (4 * i + t)) D { B' with changed := putC B'.changed j (pageL v') } (List.replicate k X) := Pv.out.chg (Pv.out.ch.put (by rw [Bk.out]; exact hjk) (by rw [pageL_len, Pv.out.bsz]))
                  have hcur6 : curV { B' with changed := putC B'.changed j (pageL v') } (List.replicate k X) = List.replicate (j + 1) (pageL v') ++ List.replicate (k - (j + 1)) X := by rw [curV_put, Hcur.out, mixL_succ hjk]
                  unfold bp at hwr
                  clear hwk hwB hwE
                  have Pm5 := Lib.hid pm5
                  have Pm6 := Lib.hid pm6
                  have Hrv := Lib.hid hrv
                  have Hkv := Lib.hid hkv
                  have Hk5 := Lib.hid hk5
                  have Pv6 := Lib.hid pv6
                  have Hcur6 := Lib.hid hcur6
                  have Hwr := Lib.hid hwr
                  clear pm5 pm6 hrv hkv hk5 pv6 hcur6 hwr
                  go_wp2_with fail
                  clear hcv
                  refine Hwr.out.mono ?_
                  rintro e w7 ⟨rfl, M7, pm7, -⟩
                  have Pm7 := Lib.hid pm7
                  clear pm7
                  go_wp2_with fail
                  go_roundw
                  case rel => exact ⟨j + 1, M7, _, by simp, by omega, Pm7.out, Pv6.out, ⟨Ba.out, Bn.out, Bk.out⟩, Hcur6.out⟩
                  case measure => simp [intOf]; omega
                · obtain rfl : j = k := by omega
                  have hjI : ¬ (j : Int) < j := by omega
                  have hcm := pm_commit pm pv Ho.out (by omega) (by omega) (by omega)
                  unfold bp at hcm
                  rw [Nat.sub_self, List.replicate_zero, List.append_nil] at hcur
                  have Pm := Lib.hid pm
                  have Pv := Lib.hid pv
                  have Ba := Lib.hid ba
                  have Bn := Lib.hid bn
                  have Bk := Lib.hid bk
                  have Hcur := Lib.hid hcur
                  have Hcm := Lib.hid hcm
                  clear pm pv ba bn bk hcur hcm
                  go_wp2_with fail
                  refine Hcm.out.mono ?_
                  rintro e w7 ⟨rfl, F7, M7, pm7, -⟩
                  obtain ⟨b1', b2', b3', b4'⟩ := commitB_same B' D
                  have hfin : ∃ X', WSt w w7 d s N j (4 * i + (t + 1)) X' F7 M7 (commitR B' D).2 (commitB B' D) ∧ ((commitR B' D).2.off = false → (commitB B' D).changed = []) := by
                    rcases Pv.out.commit Ho.out (by omega) with ⟨-, h1, h2, h3⟩ | ⟨-, h1, h2, h3⟩
                    · rw [Hcur.out] at h1
                      exact ⟨pageL v', ⟨pm7, h1.mono (by omega) (by omega), b1'.trans Ba.out, b2'.trans Bn.out, b4'.trans Bk.out, pageL_len _⟩, fun _ => h3⟩
                    · refine ⟨X, ⟨pm7, ?_, b1'.trans Ba.out, b2'.trans Bn.out, b4'.trans Bk.out, Hws.out.xl⟩, fun e => by rw [h2] at e; cases e⟩
                      rw [h3]
                      exact h1.mono (by omega) (by omega)
                  obtain ⟨X', hw7, hc7⟩ := hfin
                  clear b1' b2' b3' b4'
                  have Pm7 := Lib.hid pm7
                  have Hw7 := Lib.hid hw7
                  have Hc7 := Lib.hid hc7
                  clear pm7 hw7 hc7
                  go_wp2_with fail
                  go_roundw
                  case rel => exact ⟨t + 1, v', X', F7, M7, _, _, by simp, rfl, by omega, hv6, Hw7.out, Hc7.out⟩
                  case measure => simp [intOf]; omega
          · obtain rfl : t = 4 := by omega
            have Hws := Lib.hid hws
            have Hch := Lib.hid hch
            clear hws hch
            go_wp2_with fail
            go_meet
            case rel => exact ⟨v, X, F, M, D, B, rfl, hv, Hws.out.more (by omega)⟩
      case rest =>
        obtain ⟨v, X, F, M, D, B, rfl, hv, hws⟩ := hcut
        have hg2 : ∀ b, g2 = some b → ¬ F b := fun b hb hf => by
          obtain ⟨_, _, -, -, -, hu, -⟩ := Hr2.out
          have := hu b hb
          have := hws.pm.own b (.inl hf)
          omega
        have hc1 := pm_cut (.slice A2 n2 c2) g2 keep hws.pm (hws.pv.lok (by omega) (by omega)).ok (Hr2.out.same hws.pm.kp) hg2
        unfold dp at hc1
        have Hws := Lib.hid hws
        have Hc1 := Lib.hid hc1
        have Hg2 := Lib.hid hg2
        clear hws hc1 hg2
        go_wp2_with fail
        refine Hc1.out.mono ?_
        rintro e w5 ⟨rfl, F5, pm5, -⟩
        have pv5 := Hws.out.pv.cut keep
        have hc2 := pm_on pm5
        unfold dp at hc2
        have Pm5 := Lib.hid pm5
        have Pv5 := Lib.hid pv5
        have Hc2 := Lib.hid hc2
        clear pm5 pv5 hc2
        go_wp2_with fail
        refine Hc2.out.mono ?_
        rintro e w6 ⟨rfl, F6, pm6, -⟩
        have pv6 := Pv5.out.on
        have hc3 := pm_open pm6 pv6 rfl (by omega) (by omega) (by omega) 0 N Hws.out.a0.symm Hws.out.nN.symm
        unfold dp bp at hc3
        have Pm6 := Lib.hid pm6
        have Pv6 := Lib.hid pv6
        have Hc3 := Lib.hid hc3
        clear pm6 pv6 hc3
        go_wp2_with fail
        refine Hc3.out.mono ?_
        rintro e w7 ⟨s7, M7, rfl, pm7, -, -⟩
        have pv7 := Pv6.out.chg (ChOk.nil B)
        obtain ⟨B7, hB7⟩ : ∃ B7 : BookV, B7 = { B with changed := [] } := ⟨_, rfl⟩
        obtain ⟨D7, hD7⟩ : ∃ D7, D7 = (D.cut keep).on := ⟨_, rfl⟩
        rw [← hB7, ← hD7] at pm7 pv7
        have hch7 : B7.changed = [] := by rw [hB7]
        have ho7 : D7.off = false := by rw [hD7]; rfl
        have hpk7 : B7.pages = k := by rw [hB7]; exact Hws.out.pk
        have hcur : curV B7 (List.replicate k X) = List.replicate k X := curV_nil hch7
        have hxl := Hws.out.xl
        have hread := fun (j : Nat) (hj : j < k) (w8 : World) (hk : Keeps nowhere w7 w8) => pm_read j (pm7.same hk) pv7 ho7 (by omega) (by omega) (by omega) (by omega)
        have ws7 : WSt w w7 d s7 N k (4 * (i + 1)) X F6 M7 D7 B7 := ⟨pm7, pv7, by rw [hB7]; exact Hws.out.a0, by rw [hB7]; exact Hws.out.nN, hpk7, hxl⟩
        have hread2 : ∀ (j : Nat), j < k → ∀ w8, Keeps nowhere w7 w8 → Calls Try.prog 46 #[.pointer (some ⟨s7, 0, none⟩), .int .i64 j] w8 (RetRd w8 X) := fun j hj w8 hk => by
          have h := hread j hj w8 hk
          rw [hcur, get_rep hj] at h
          exact h
        unfold RetRd at hread2
        rw [hxl] at hread2
        have hr0 := hread2 0 (by omega) w7 (Keeps.refl _ _)
        rw [show ((0 : Nat) : Int) = 0 from rfl] at hr0
        clear hread
        have Pm7 := Lib.hid pm7
        have Pv7 := Lib.hid pv7
        have HB7 := Lib.hid hB7
        have HD7 := Lib.hid hD7
        have Hch7 := Lib.hid hch7
        have Ho7 := Lib.hid ho7
        have Hpk7 := Lib.hid hpk7
        have Hcur := Lib.hid hcur
        have Hxl := Lib.hid hxl
        have Ws7 := Lib.hid ws7
        have Hread2 := Lib.hid hread2
        have Hr0 := Lib.hid hr0
        clear pm7 pv7 hB7 hD7 hch7 ho7 hpk7 hcur hxl ws7 hread2 hr0
        go_wp2_with fail
        refine Hr0.out.mono ?_
        rintro e w8 ⟨A8, c8, g8, rfl, hr8, -, hk8⟩
        have Hr8 := Lib.hid hr8
        have Hk8 := Lib.hid hk8
        clear hr8 hk8
        go_upto_region 34 with fail
        go_loopw [20] (fun jv wr => ∃ j : Nat, jv = .int .i64 j ∧ 1 ≤ j ∧ j ≤ k ∧ Keeps nowhere w8 wr) (fun jv _ => k - (intOf jv).toNat)
        case atStart => exact ⟨1, rfl, by omega, by omega, Keeps.refl _ _⟩
        case round =>
          obtain ⟨j, rfl, hj1, hj, hkr⟩ := hrel
          by_cases hjk : j < k
          · have hjI : (j : Int) < k := by omega
            have hjw : IntKind.i64.wrap ((j : Int) + 1) = j + 1 := IntWalk.i64_in _ (by omega)
            have hrj := Hread2.out j hjk wr (Hk8.out.more hkr)
            have Hkr := Lib.hid hkr
            have Hrj := Lib.hid hrj
            clear hkr hrj
            go_wp2_with fail
            refine Hrj.out.mono ?_
            rintro e w9 ⟨A9, c9, g9, rfl, hr9, -, hk9⟩
            have hca := conv_str _ _ X w9 (rd_ofB ((Hr8.out.same Hkr.out).same hk9) (by rw [Hxl.out]; omega))
            have hcb := conv_str _ _ X w9 (rd_ofB hr9 (by rw [Hxl.out]; omega))
            have hne : ((strOf X).toList != (strOf X).toList) = false := by simp
            have hk89 := Hkr.out.more hk9
            have Hr9 := Lib.hid hr9
            have Hk9 := Lib.hid hk9
            have Hk89 := Lib.hid hk89
            clear hr9 hk9 hk89
            go_wp2_with fail
            exact ⟨⟨j + 1, by simp, by omega, by omega, Hk89.out⟩, by simp [intOf]; omega⟩
          · obtain rfl : j = k := by omega
            have hjI : ¬ (j : Int) < j := by omega
            have hws9 := (Ws7.out.same Hk8.out).same hkr
            have Hkr := Lib.hid hkr
            have Hws9 := Lib.hid hws9
            clear hkr hws9
            go_wp2_with fail
            go_roundw
            case rel => exact ⟨i + 1, s7, v, X, F6, M7, D7, B7, by simp, rfl, rfl, by omega, hv, Hws9.out, Ho7.out, Hch7.out⟩
            case measure => simp [intOf]; omega
    · obtain rfl : i = n1 := by omega
      have hltI : ¬ (i : Int) < i := by omega
      have hkp := hws.pm.kp
      have Hws := Lib.hid hws
      have Ho := Lib.hid ho
      have Hch := Lib.hid hch
      have Hkp := Lib.hid hkp
      clear hws ho hch hkp
      go_wp2_with fail
      go_ret
      exact ⟨rfl, Hkp.out⟩
theorem pagesWhole_walk (n : Nat) (A1 A2 : Option Addr) (c1 c2 : Nat) (g1 g2 : Option Nat) (cuts : List UInt8) (keep : List Bool) (w : World) (hn : n < 256) (hr1 : recB.Rd w (.slice A1 cuts.length c1) g1 cuts) (hr2 : recBo.Rd w (.slice A2 keep.length c2) g2 keep) :
    Calls Try.prog 11 #[.int .u8 n, .slice A1 cuts.length c1, .slice A2 keep.length c2] w (YesD w) := by
  by_cases h : 20 < cuts.length ∨ 60 < keep.length
  · exact pwhole_long n A1 A2 _ c1 _ c2 w h
  · exact pwhole_any n A1 A2 c1 c2 g1 g2 cuts keep w hn hr1 hr2 (by omega) (by omega)
end Go.Proofs.Ytnddaildicmneaa
