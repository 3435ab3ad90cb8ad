/-
  geom: the statement GeomApart, walked.
-/
import Derived.Test.YtblmbchjafffbaaG8
import Derived.BigQuiet
namespace Go.Proofs.Ytblmbchjafffbaa
open Go.RowKit

theorem up_ge (n s : Int) (hn : 1 ≤ n) (hs : 1 ≤ s) : 1 ≤ (n + s - 1) / s := by
  have h := Int.ediv_le_ediv (a := s) (b := n + s - 1) (c := s) (by omega) (by omega)
  rwa [Int.ediv_self (by omega)] at h
theorem geo_pos {g : Geo} (h : g.ok) : 1 ≤ g.x ∧ 1 ≤ g.y := by
  obtain ⟨h1, h2, h3, h4, h5⟩ := h
  obtain ⟨b1, b2, -⟩ := gsizes_le h1
  exact ⟨up_ge _ _ (by omega) (by omega), up_ge _ _ (by omega) (by omega)⟩
theorem at0_lt {g : Geo} (h : g.ok) {a : Int} (h1 : 1 ≤ a) (h2 : a ≤ g.m) : 0 ≤ (a - 1) / (g.b / 64) ∧ (a - 1) / (g.b / 64) < g.z := by
  obtain ⟨k1, k2, k3, k4, k5⟩ := h
  obtain ⟨b1, b2, b3, b4, b5⟩ := gsizes_le k1
  unfold Geo.z
  obtain ⟨d, hd⟩ : ∃ d, d = g.b / 64 := ⟨_, rfl⟩
  rw [← hd] at b3 b4 b5 ⊢
  refine ⟨Int.ediv_nonneg (by omega) (by omega), ?_⟩
  have e : (a - 1 + d) / d = (a - 1) / d + 1 := Int.add_ediv_of_dvd_right (Int.dvd_refl d) |>.trans (by rw [Int.ediv_self (by omega)])
  have h := Int.ediv_le_ediv (a := a - 1 + d) (b := g.m + d - 1) (c := d) (by omega) (by omega)
  omega
theorem at1_in {g : Geo} (h : g.ok) (a : Int) : 0 ≤ g.at1 a ∧ g.at1 a + 64 ≤ g.b ∧ (g.at1 a).tmod 64 = 0 ∧ g.at1 a ≤ 1024 := by
  obtain ⟨k1, k2, k3, k4, k5⟩ := h
  obtain ⟨b1, b2, b3, b4, b5⟩ := gsizes_le k1
  unfold Geo.at1
  obtain ⟨d, hd⟩ : ∃ d, d = g.b / 64 := ⟨_, rfl⟩
  rw [← hd] at b3 b4 b5 ⊢
  have r0 : 0 ≤ (a - 1) % d := Int.emod_nonneg _ (by omega)
  have r1 : (a - 1) % d < d := Int.emod_lt_of_pos _ (by omega)
  refine ⟨by omega, by omega, ?_, by omega⟩
  rw [Int.tmod_eq_emod_of_nonneg (by omega)]
  exact Int.mul_emod_left _ _
theorem at_inj {g : Geo} (h : g.ok) {a b : Int} (h0 : g.at0 a = g.at0 b) (h1 : g.at1 a = g.at1 b) : a = b := by
  obtain ⟨k1, k2, k3, k4, k5⟩ := h
  obtain ⟨b1, b2, b3, b4, b5⟩ := gsizes_le k1
  unfold Geo.at0 at h0
  unfold Geo.at1 at h1
  obtain ⟨d, hd⟩ : ∃ d, d = g.b / 64 := ⟨_, rfl⟩
  rw [← hd] at b3 b4 b5 h0 h1
  have e0 : (a - 1) / d = (b - 1) / d := by omega
  have e1 : (a - 1) % d = (b - 1) % d := by omega
  have ea := Int.mul_ediv_add_emod (a - 1) d
  have eb := Int.mul_ediv_add_emod (b - 1) d
  rw [e0, e1] at ea
  omega

set_option maxHeartbeats 40000000 in
set_option maxRecDepth 20000 in
theorem gapart_walk (g : Geo) (a b : Int) (w : World) : Calls Try.prog 13 #[g.val, .int .i64 a, .int .i64 b] w (YesG w) := by
  obtain ⟨w1, hw1⟩ : ∃ w1, w1 = w.alloc (.cells #[.int .i64 g.b, .int .i64 g.n, .int .i64 g.m] 60) := ⟨_, rfl⟩
  have hk1 : Keeps nowhere w w1 := by rw [hw1]; exact (Keeps.refl _ _).alloc _
  have hb1 : Blk w1 w.heap.size 60 #[.int .i64 g.b, .int .i64 g.n, .int .i64 g.m] := by rw [hw1]; exact Blk.new _ _ _
  unfold Geo.val
  have Hk1 := Lib.hid hk1
  have Hb1 := Lib.hid hb1
  clear hk1 hb1
  go_enter Try.func13, Try.ntmps13
  go_wp2_with fail
  rw [← hw1]
  refine (known10 w1).mono ?_
  rintro e w2 ⟨rfl, hk2⟩
  have hb2 := Hb1.out.keep hk2 (fun h => h)
  have hkw2 := Hk1.out.more hk2
  have hck := lgcheck g w2
  unfold Geo.val at hck
  obtain ⟨C, hC⟩ : ∃ C : Int, C = if g.ok then 0 else 1 := ⟨_, rfl⟩
  rw [← hC] at hck
  have c0 : w2.cell? ⟨w.heap.size, 0, none⟩ = some (.int .i64 g.b) := hb2.cell 0
  have c1 : w2.cell? ⟨w.heap.size, 1, none⟩ = some (.int .i64 g.n) := hb2.cell 1
  have c2 : w2.cell? ⟨w.heap.size, 2, none⟩ = some (.int .i64 g.m) := hb2.cell 2
  have Hw1 := Lib.hid hw1
  have Hk2 := Lib.hid hk2
  have Hb2 := Lib.hid hb2
  have Hkw2 := Lib.hid hkw2
  have Hck := Lib.hid hck
  have HC := Lib.hid hC
  clear hw1 hk2 hb2 hkw2 hck hC
  go_wp2_with fail
  clear c0 c1 c2
  refine Hck.out.mono ?_
  rintro e w3 ⟨rfl, hk3⟩
  have hb3 := Hb2.out.keep hk3 (fun h => h)
  have hkw3 := Hkw2.out.more hk3
  have c0 : w3.cell? ⟨w.heap.size, 0, none⟩ = some (.int .i64 g.b) := hb3.cell 0
  have c1 : w3.cell? ⟨w.heap.size, 1, none⟩ = some (.int .i64 g.n) := hb3.cell 1
  have c2 : w3.cell? ⟨w.heap.size, 2, none⟩ = some (.int .i64 g.m) := hb3.cell 2
  by_cases hok : g.ok
  · have hC0 : C = 0 := by rw [HC.out, if_pos hok]
    subst hC0
    by_cases ha1 : a < 1
    · have Hk3 := Lib.hid hk3
      have Hb3 := Lib.hid hb3
      have Hkw3 := Lib.hid hkw3
      have Hok := Lib.hid hok
      clear hk3 hb3 hkw3 hok
      go_wp2_with fail
      go_ret
      exact ⟨rfl, Hkw3.out⟩
    · by_cases ha2 : a > g.m
      · have Hk3 := Lib.hid hk3
        have Hb3 := Lib.hid hb3
        have Hkw3 := Lib.hid hkw3
        have Hok := Lib.hid hok
        clear hk3 hb3 hkw3 hok
        go_wp2_with fail
        go_ret
        exact ⟨rfl, Hkw3.out⟩
      · by_cases hb1' : b < 1
        · have Hk3 := Lib.hid hk3
          have Hb3 := Lib.hid hb3
          have Hkw3 := Lib.hid hkw3
          have Hok := Lib.hid hok
          clear hk3 hb3 hkw3 hok
          go_wp2_with fail
          go_ret
          exact ⟨rfl, Hkw3.out⟩
        · by_cases hb2' : b > g.m
          · have Hk3 := Lib.hid hk3
            have Hb3 := Lib.hid hb3
            have Hkw3 := Lib.hid hkw3
            have Hok := Lib.hid hok
            clear hk3 hb3 hkw3 hok
            go_wp2_with fail
            go_ret
            exact ⟨rfl, Hkw3.out⟩
          · have hgp := gparts g w3
            rw [partsV, if_pos hok] at hgp
            unfold partsC Geo.val at hgp
            have hbnd := geo_bounds hok
            have hpos := geo_pos hok
            obtain ⟨x, hx⟩ : ∃ x, x = g.x := ⟨_, rfl⟩
            obtain ⟨y, hy⟩ : ∃ y, y = g.y := ⟨_, rfl⟩
            obtain ⟨z, hz⟩ : ∃ z, z = g.z := ⟨_, rfl⟩
            rw [← hx, ← hy, ← hz] at hbnd hgp
            rw [← hx, ← hy] at hpos
            have Hk3 := Lib.hid hk3
            have Hb3 := Lib.hid hb3
            have Hkw3 := Lib.hid hkw3
            have Hok := Lib.hid hok
            have Hgp := Lib.hid hgp
            have Hx := Lib.hid hx
            have Hy := Lib.hid hy
            have Hz := Lib.hid hz
            clear hk3 hb3 hkw3 hok hgp hx hy hz
            go_wp2_with fail
            clear c0 c1 c2
            refine Hgp.out.mono ?_
            rintro e w4 ⟨rfl, hk4⟩
            obtain ⟨w5, hw5⟩ : ∃ w5, w5 = w4.alloc (.cells #[.int .i64 0, .int .i64 1, .int .i64 1, .int .i64 x, .int .i64 (1 + x), .int .i64 y, .int .i64 (1 + x + y), .int .i64 z] 71) := ⟨_, rfl⟩
            have hka : Keeps nowhere w4 w5 := by rw [hw5]; exact (Keeps.refl _ _).alloc _
            have hp5 : Blk w5 w4.heap.size 71 #[.int .i64 0, .int .i64 1, .int .i64 1, .int .i64 x, .int .i64 (1 + x), .int .i64 y, .int .i64 (1 + x + y), .int .i64 z] := by rw [hw5]; exact Blk.new _ _ _
            have hb5 := (Hb3.out.keep hk4 (fun h => h)).keep hka (fun h => h)
            have hkw5 := (Hkw3.out.more hk4).more hka
            obtain ⟨p7, hp7⟩ : ∃ p7, p7 = w4.heap.size := ⟨_, rfl⟩
            have hw5' := hw5
            have Hk4 := Lib.hid hk4
            have Hka := Lib.hid hka
            have Hp5 := Lib.hid hp5
            have Hb5 := Lib.hid hb5
            have Hkw5 := Lib.hid hkw5
            have Hw5 := Lib.hid hw5
            clear hk4 hka hp5 hb5 hkw5 hw5
            go_wp2_with fail
            rw [← hw5', ← hp7]
            clear hw5'
            have hp5' := Hp5.out
            rw [← hp7] at hp5'
            have Hp5' := Lib.hid hp5'
            have Hp7 := Lib.hid hp7
            clear hp5' hp7
            go_loopw [8] (fun kv wr => ∃ k : Nat, k ≤ 3 ∧ kv = .int .i64 k ∧ Keeps nowhere w wr ∧ Blk wr p7 71 #[.int .i64 0, .int .i64 1, .int .i64 1, .int .i64 x, .int .i64 (1 + x), .int .i64 y, .int .i64 (1 + x + y), .int .i64 z] ∧ Blk wr w.heap.size 60 #[.int .i64 g.b, .int .i64 g.n, .int .i64 g.m]) (fun kv _ => 3 - (intOf kv).toNat)
            case atStart => exact ⟨0, Nat.zero_le _, rfl, Hkw5.out, Hp5'.out, Hb5.out⟩
            case round =>
              obtain ⟨k, hk, rfl, hkr, hpr, hbr⟩ := hrel
              by_cases hlt : k < 3
              · obtain rfl | rfl | rfl : k = 0 ∨ k = 1 ∨ k = 2 := by omega
                all_goals clear hlt hk
                · rw [show ((0 : Nat) : Int) = 0 from rfl]
                  have hsum : IntKind.i64.wrap (0 + 1) = 1 := IntWalk.i64_in _ (by omega)
                  have hne : ((1 : Int) != 1) = false := by simp
                  have hn1 : ¬ (1 : Int) < 1 := by omega
                  have hn2 : decide ((1 : Int) < 1) = false := decide_eq_false hn1
                  have pp0 : wr.cell? ⟨p7, 0, none⟩ = some (.int .i64 0) := hpr.cell 0
                  have pp1 : wr.cell? ⟨p7, 1, none⟩ = some (.int .i64 1) := hpr.cell 1
                  have pp2 : wr.cell? ⟨p7, 2, none⟩ = some (.int .i64 1) := hpr.cell 2
                  have pp3 : wr.cell? ⟨p7, 3, none⟩ = some (.int .i64 x) := hpr.cell 3
                  have pp4 : wr.cell? ⟨p7, 4, none⟩ = some (.int .i64 (1 + x)) := hpr.cell 4
                  have pp5 : wr.cell? ⟨p7, 5, none⟩ = some (.int .i64 y) := hpr.cell 5
                  have pp6 : wr.cell? ⟨p7, 6, none⟩ = some (.int .i64 (1 + x + y)) := hpr.cell 6
                  have pp7 : wr.cell? ⟨p7, 7, none⟩ = some (.int .i64 z) := hpr.cell 7
                  have Hkr := Lib.hid hkr
                  have Hpr := Lib.hid hpr
                  have Hbr := Lib.hid hbr
                  clear hkr hpr hbr
                  go_wp2_with fail
                  go_quiet (fail)
                  go_wp2_with fail
                  go_roundw
                  case rel => exact ⟨1, by omega, by go_num, Hkr.out.drewN nq, Hpr.out.keep ((Keeps.refl nowhere wr).drewN nq) (fun h => h), Hbr.out.keep ((Keeps.refl nowhere wr).drewN nq) (fun h => h)⟩
                  case measure => simp [intOf]
                · rw [show ((1 : Nat) : Int) = 1 from rfl]
                  have hsum : IntKind.i64.wrap (1 + x) = 1 + x := IntWalk.i64_in _ (by omega)
                  have hne : ((1 + x : Int) != 1 + x) = false := by simp
                  have hn1 : ¬ (x : Int) < 1 := by omega
                  have hn2 : decide ((x : Int) < 1) = false := decide_eq_false hn1
                  have pp0 : wr.cell? ⟨p7, 0, none⟩ = some (.int .i64 0) := hpr.cell 0
                  have pp1 : wr.cell? ⟨p7, 1, none⟩ = some (.int .i64 1) := hpr.cell 1
                  have pp2 : wr.cell? ⟨p7, 2, none⟩ = some (.int .i64 1) := hpr.cell 2
                  have pp3 : wr.cell? ⟨p7, 3, none⟩ = some (.int .i64 x) := hpr.cell 3
                  have pp4 : wr.cell? ⟨p7, 4, none⟩ = some (.int .i64 (1 + x)) := hpr.cell 4
                  have pp5 : wr.cell? ⟨p7, 5, none⟩ = some (.int .i64 y) := hpr.cell 5
                  have pp6 : wr.cell? ⟨p7, 6, none⟩ = some (.int .i64 (1 + x + y)) := hpr.cell 6
                  have pp7 : wr.cell? ⟨p7, 7, none⟩ = some (.int .i64 z) := hpr.cell 7
                  have Hkr := Lib.hid hkr
                  have Hpr := Lib.hid hpr
                  have Hbr := Lib.hid hbr
                  clear hkr hpr hbr
                  go_wp2_with fail
                  go_quiet (fail)
                  go_wp2_with fail
                  go_roundw
                  case rel => exact ⟨2, by omega, by go_num, Hkr.out.drewN nq, Hpr.out.keep ((Keeps.refl nowhere wr).drewN nq) (fun h => h), Hbr.out.keep ((Keeps.refl nowhere wr).drewN nq) (fun h => h)⟩
                  case measure => simp [intOf]
                · rw [show ((2 : Nat) : Int) = 2 from rfl]
                  have hsum : IntKind.i64.wrap (1 + x + y) = 1 + x + y := IntWalk.i64_in _ (by omega)
                  have hne : ((1 + x + y : Int) != 1 + x + y) = false := by simp
                  have hn1 : ¬ (y : Int) < 1 := by omega
                  have hn2 : decide ((y : Int) < 1) = false := decide_eq_false hn1
                  have pp0 : wr.cell? ⟨p7, 0, none⟩ = some (.int .i64 0) := hpr.cell 0
                  have pp1 : wr.cell? ⟨p7, 1, none⟩ = some (.int .i64 1) := hpr.cell 1
                  have pp2 : wr.cell? ⟨p7, 2, none⟩ = some (.int .i64 1) := hpr.cell 2
                  have pp3 : wr.cell? ⟨p7, 3, none⟩ = some (.int .i64 x) := hpr.cell 3
                  have pp4 : wr.cell? ⟨p7, 4, none⟩ = some (.int .i64 (1 + x)) := hpr.cell 4
                  have pp5 : wr.cell? ⟨p7, 5, none⟩ = some (.int .i64 y) := hpr.cell 5
                  have pp6 : wr.cell? ⟨p7, 6, none⟩ = some (.int .i64 (1 + x + y)) := hpr.cell 6
                  have pp7 : wr.cell? ⟨p7, 7, none⟩ = some (.int .i64 z) := hpr.cell 7
                  have Hkr := Lib.hid hkr
                  have Hpr := Lib.hid hpr
                  have Hbr := Lib.hid hbr
                  clear hkr hpr hbr
                  go_wp2_with fail
                  go_quiet (fail)
                  go_wp2_with fail
                  go_roundw
                  case rel => exact ⟨3, by omega, by go_num, Hkr.out.drewN nq, Hpr.out.keep ((Keeps.refl nowhere wr).drewN nq) (fun h => h), Hbr.out.keep ((Keeps.refl nowhere wr).drewN nq) (fun h => h)⟩
                  case measure => simp [intOf]
              · obtain rfl : k = 3 := by omega
                rw [show ((3 : Nat) : Int) = 3 from rfl]
                have hja := ginode g Hok.out a (by omega) (by omega) wr
                unfold Geo.val at hja
                have c0 : wr.cell? ⟨w.heap.size, 0, none⟩ = some (.int .i64 g.b) := hbr.cell 0
                have c1 : wr.cell? ⟨w.heap.size, 1, none⟩ = some (.int .i64 g.n) := hbr.cell 1
                have c2 : wr.cell? ⟨w.heap.size, 2, none⟩ = some (.int .i64 g.m) := hbr.cell 2
                have Hkr := Lib.hid hkr
                have Hpr := Lib.hid hpr
                have Hbr := Lib.hid hbr
                have Hja := Lib.hid hja
                clear hkr hpr hbr hja
                go_wp2_with fail
                clear c0 c1 c2
                refine Hja.out.mono ?_
                rintro e wi ⟨rfl, hki⟩
                have hbi := Hbr.out.keep hki (fun h => h)
                have hpi := Hpr.out.keep hki (fun h => h)
                have hkwi := Hkr.out.more hki
                have hjb := ginode g Hok.out b (by omega) (by omega) wi
                unfold Geo.val at hjb
                have c0 : wi.cell? ⟨w.heap.size, 0, none⟩ = some (.int .i64 g.b) := hbi.cell 0
                have c1 : wi.cell? ⟨w.heap.size, 1, none⟩ = some (.int .i64 g.n) := hbi.cell 1
                have c2 : wi.cell? ⟨w.heap.size, 2, none⟩ = some (.int .i64 g.m) := hbi.cell 2
                have Hki := Lib.hid hki
                have Hbi := Lib.hid hbi
                have Hpi := Lib.hid hpi
                have Hkwi := Lib.hid hkwi
                have Hjb := Lib.hid hjb
                clear hki hbi hpi hkwi hjb
                go_wp2_with fail
                clear c0 c1 c2
                refine Hjb.out.mono ?_
                rintro e wj ⟨rfl, hk9⟩
                have hbj := Hbi.out.keep hk9 (fun h => h)
                have hpj := Hpi.out.keep hk9 (fun h => h)
                have hkj := Hkwi.out.more hk9
                have hla := at0_lt Hok.out (a := a) (by omega) (by omega)
                have hiaF := at1_in Hok.out a
                have hinj := at_inj Hok.out (a := a) (b := b)
                have hn9 := Hok.out.2.2.1
                have hn8 := Hok.out.2.1
                obtain ⟨xa, hxa⟩ : ∃ xa, xa = g.at0 a := ⟨_, rfl⟩
                obtain ⟨ia, hia⟩ : ∃ ia, ia = g.at1 a := ⟨_, rfl⟩
                obtain ⟨xb, hxb⟩ : ∃ xb, xb = g.at0 b := ⟨_, rfl⟩
                obtain ⟨ib, hib⟩ : ∃ ib, ib = g.at1 b := ⟨_, rfl⟩
                obtain ⟨lst, hlst⟩ : ∃ lst, lst = 1 + x + y + z := ⟨_, rfl⟩
                obtain ⟨l, hl⟩ : ∃ l, l = g.left := ⟨_, rfl⟩
                have hgd := gdata g Hok.out wj.drew
                unfold Geo.val at hgd
                rw [← hl] at hgd
                rw [← Hz.out] at hla
                have hxa' : xa = 1 + x + y + (a - 1) / (g.b / 64) := by rw [hxa, Geo.at0, ← Hx.out, ← Hy.out]
                have hl' : l = g.n - lst := by rw [hl, Geo.left, ← Hx.out, ← Hy.out, ← Hz.out, hlst]; omega
                rw [← hxa, ← hxb, ← hia, ← hib] at hinj
                rw [← hia] at hiaF
                rw [← hxa, ← hia, ← hxb, ← hib]
                have f1 : IntKind.i64.wrap (1 + x + y + z) = lst := by rw [hlst]; exact IntWalk.i64_in _ (by omega)
                have f2 : IntKind.i64.wrap (g.n - lst) = l := by rw [hl']; exact IntWalk.i64_in _ (by omega)
                have f3 : xa ≥ 1 + x + y := by omega
                have f3' : decide (1 + x + y ≤ xa) = true := decide_eq_true f3
                have f4 : xa < lst := by omega
                have f4' : decide (xa < lst) = true := decide_eq_true f4
                have f5 : ia ≥ 0 := hiaF.1
                have f5' : decide (0 ≤ ia) = true := decide_eq_true hiaF.1
                have f6 : IntKind.i64.wrap (ia + 64) = ia + 64 := IntWalk.i64_in _ (by omega)
                have f7 : ia + 64 ≤ g.b := hiaF.2.1
                have f7' : decide (ia + 64 ≤ g.b) = true := decide_eq_true f7
                have f8 : ia.tmod 64 = 0 := hiaF.2.2.1
                have pp6 : wj.cell? ⟨p7, 6, none⟩ = some (.int .i64 (1 + x + y)) := hpj.cell 6
                have pp7 : wj.cell? ⟨p7, 7, none⟩ = some (.int .i64 z) := hpj.cell 7
                have r0 : ∀ w', Keeps nowhere wj.drew w' → w'.cell? ⟨w.heap.size, 0, none⟩ = some (.int .i64 g.b) := fun w' hs => by simpa using (hbj.drew.keep hs (fun h => h)).cell 0
                have r1 : ∀ w', Keeps nowhere wj.drew w' → w'.cell? ⟨w.heap.size, 1, none⟩ = some (.int .i64 g.n) := fun w' hs => by simpa using (hbj.drew.keep hs (fun h => h)).cell 1
                have r2 : ∀ w', Keeps nowhere wj.drew w' → w'.cell? ⟨w.heap.size, 2, none⟩ = some (.int .i64 g.m) := fun w' hs => by simpa using (hbj.drew.keep hs (fun h => h)).cell 2
                have q6 : ∀ w', Keeps nowhere wj.drew w' → w'.cell? ⟨p7, 6, none⟩ = some (.int .i64 (1 + x + y)) := fun w' hs => by simpa using (hpj.drew.keep hs (fun h => h)).cell 6
                clear hla hl' hxa'
                have hll : (l == l) = true := beq_self_eq_true l
                have hxx : (xa == xa) = true := beq_self_eq_true xa
                have hii : (ia == ia) = true := beq_self_eq_true ia
                have haa : (a == a) = true := beq_self_eq_true a
                by_cases hab : a = b
                · subst hab
                  have hxe : xa = xb := by rw [hxa, hxb]
                  have hie : ia = ib := by rw [hia, hib]
                  subst hxe hie
                  clear hinj
                  have Hkj := Lib.hid hkj
                  have Hpj := Lib.hid hpj
                  have Hbj := Lib.hid hbj
                  have Hk9 := Lib.hid hk9
                  have Hxa := Lib.hid hxa
                  have Hia := Lib.hid hia
                  have Hxb := Lib.hid hxb
                  have Hib := Lib.hid hib
                  have Hlst := Lib.hid hlst
                  have Hl := Lib.hid hl
                  have Hgd := Lib.hid hgd
                  have HiaF := Lib.hid hiaF
                  have Hpos := Lib.hid hpos
                  have Hbnd := Lib.hid hbnd
                  clear hkj hpj hbj hk9 hxa hia hxb hib hlst hl hgd hiaF hpos hbnd
                  go_wp2_with fail
                  refine wp_region_script [0, 2, 3, 4, 5, 6, 7, 8, 9, 10, 11, 12, 13, 14, 15, 16, 17, 18, 19, 20, 21, 22, 23, 24, 25, 26, 27, 28, 29, 30, 31, 32, 33, 34, 35, 36, 37, 38, 39, 40, 41, 42, 43, 44, 45, 46, 47, 48] [0, 3, 11, 27] [.fs [0], .ps [2], .fs [3], .ps [4, 5], .es [1] true, .ps [6, 7, 8, 9, 10], .fs [11], .ps [12, 13, 14], .ps [15, 16, 17], .ps [18, 19, 20], .ps [21, 22, 23], .ps [24, 25, 26], .fs [27], .ps [28, 29, 30], .ps [31, 32, 33], .ps [34, 35, 36], .ps [37, 38, 39], .ps [40, 41, 42], .ps [43, 44, 45], .ps [46, 47, 48], .es [49] false] (Keeps nowhere wj.drew) rfl (by kernel_rfl) ?_
                  refine wpS_fs rfl (Keeps.refl _ _) fun K hK => ?_
                  simp only [List.map_cons, List.map_nil, Option.getD_some, List.getElem?_toArray, List.getElem?_cons_zero, List.getElem?_cons_succ]
                  iterate 1 (first | (apply quietO_cons _ rfl; (intro w' hs; have c_0 := r0 w' hs; have c_1 := r1 w' hs; have c_2 := r2 w' hs; go_simp; rfl)) | apply quietO_skip rfl)
                  refine hK _ ?_
                  clear hK K
                  simp only [Act.put, List.setIfInBounds_toArray, List.set_cons_zero, List.set_cons_succ]
                  refine wpS_ps rfl fun K hK => ?_
                  simp only [List.map_cons, List.map_nil, Option.getD_some, List.getElem?_toArray, List.getElem?_cons_zero, List.getElem?_cons_succ]
                  iterate 1 (first | (apply quietO_cons _ rfl; (intro w' _; go_simp; rfl)) | apply quietO_skip rfl)
                  refine hK _ ?_
                  clear hK K
                  simp only [Act.put, List.setIfInBounds_toArray, List.set_cons_zero, List.set_cons_succ]
                  refine wpS_fs rfl (Keeps.refl _ _) fun K hK => ?_
                  simp only [List.map_cons, List.map_nil, Option.getD_some, List.getElem?_toArray, List.getElem?_cons_zero, List.getElem?_cons_succ]
                  iterate 1 (first | (apply quietO_cons _ rfl; (intro w' hs; have c_0 := r1 w' hs; go_simp; rfl)) | apply quietO_skip rfl)
                  refine hK _ ?_
                  clear hK K
                  simp only [Act.put, List.setIfInBounds_toArray, List.set_cons_zero, List.set_cons_succ]
                  refine wpS_ps rfl fun K hK => ?_
                  simp only [List.map_cons, List.map_nil, Option.getD_some, List.getElem?_toArray, List.getElem?_cons_zero, List.getElem?_cons_succ]
                  iterate 2 (first | (apply quietO_cons _ rfl; (intro w' _; go_simp; rfl)) | apply quietO_skip rfl)
                  refine hK _ ?_
                  clear hK K
                  simp only [Act.put, List.setIfInBounds_toArray, List.set_cons_zero, List.set_cons_succ]
                  refine wpS_es rfl fun K hK => ?_
                  have HK := Lib.hid hK
                  clear hK
                  simp only [List.map_cons, List.map_nil, Option.getD_some, List.getElem?_toArray, List.getElem?_cons_zero, List.getElem?_cons_succ]
                  go_wp2_with fail
                  refine Hgd.out.mono ?_
                  rintro e w10 ⟨rfl, hk10⟩
                  have hkw10 := Hkj.out.drew.more hk10
                  have Hk10 := Lib.hid hk10
                  have Hkw10 := Lib.hid hkw10
                  clear hk10 hkw10
                  go_wp2_with fail
                  refine HK.out _ _ (fun _ => Hk10.out) ?_
                  clear HK K
                  refine wpS_ps rfl fun K hK => ?_
                  simp only [List.map_cons, List.map_nil, Option.getD_some, List.getElem?_toArray, List.getElem?_cons_zero, List.getElem?_cons_succ]
                  iterate 5 (first | (apply quietO_cons _ rfl; (intro w' _; go_simp; rfl)) | apply quietO_skip rfl)
                  refine hK _ ?_
                  clear hK K
                  simp only [Act.put, List.setIfInBounds_toArray, List.set_cons_zero, List.set_cons_succ]
                  refine wpS_fs rfl (Hk10.out) fun K hK => ?_
                  simp only [List.map_cons, List.map_nil, Option.getD_some, List.getElem?_toArray, List.getElem?_cons_zero, List.getElem?_cons_succ]
                  iterate 1 (first | (apply quietO_cons _ rfl; (intro w' hs; have c_0 := q6 w' hs; go_simp; rfl)) | apply quietO_skip rfl)
                  refine hK _ ?_
                  clear hK K
                  simp only [Act.put, List.setIfInBounds_toArray, List.set_cons_zero, List.set_cons_succ]
                  refine wpS_ps rfl fun K hK => ?_
                  simp only [List.map_cons, List.map_nil, Option.getD_some, List.getElem?_toArray, List.getElem?_cons_zero, List.getElem?_cons_succ]
                  iterate 3 (first | (apply quietO_cons _ rfl; (intro w' _; go_simp; rfl)) | apply quietO_skip rfl)
                  refine hK _ ?_
                  clear hK K
                  simp only [Act.put, List.setIfInBounds_toArray, List.set_cons_zero, List.set_cons_succ]
                  refine wpS_ps rfl fun K hK => ?_
                  simp only [List.map_cons, List.map_nil, Option.getD_some, List.getElem?_toArray, List.getElem?_cons_zero, List.getElem?_cons_succ]
                  iterate 3 (first | (apply quietO_cons _ rfl; (intro w' _; go_simp; rfl)) | apply quietO_skip rfl)
                  refine hK _ ?_
                  clear hK K
                  simp only [Act.put, List.setIfInBounds_toArray, List.set_cons_zero, List.set_cons_succ]
                  refine wpS_ps rfl fun K hK => ?_
                  simp only [List.map_cons, List.map_nil, Option.getD_some, List.getElem?_toArray, List.getElem?_cons_zero, List.getElem?_cons_succ]
                  iterate 3 (first | (apply quietO_cons _ rfl; (intro w' _; go_simp; rfl)) | apply quietO_skip rfl)
                  refine hK _ ?_
                  clear hK K
                  simp only [Act.put, List.setIfInBounds_toArray, List.set_cons_zero, List.set_cons_succ]
                  refine wpS_ps rfl fun K hK => ?_
                  simp only [List.map_cons, List.map_nil, Option.getD_some, List.getElem?_toArray, List.getElem?_cons_zero, List.getElem?_cons_succ]
                  iterate 3 (first | (apply quietO_cons _ rfl; (intro w' _; go_simp; rfl)) | apply quietO_skip rfl)
                  refine hK _ ?_
                  clear hK K
                  simp only [Act.put, List.setIfInBounds_toArray, List.set_cons_zero, List.set_cons_succ]
                  refine wpS_ps rfl fun K hK => ?_
                  simp only [List.map_cons, List.map_nil, Option.getD_some, List.getElem?_toArray, List.getElem?_cons_zero, List.getElem?_cons_succ]
                  iterate 3 (first | (apply quietO_cons _ rfl; (intro w' _; go_simp; rfl)) | apply quietO_skip rfl)
                  refine hK _ ?_
                  clear hK K
                  simp only [Act.put, List.setIfInBounds_toArray, List.set_cons_zero, List.set_cons_succ]
                  refine wpS_fs rfl (Hk10.out) fun K hK => ?_
                  simp only [List.map_cons, List.map_nil, Option.getD_some, List.getElem?_toArray, List.getElem?_cons_zero, List.getElem?_cons_succ]
                  iterate 1 (first | (apply quietO_cons _ rfl; (intro w' hs; have c_0 := r0 w' hs; go_simp; rfl)) | apply quietO_skip rfl)
                  refine hK _ ?_
                  clear hK K
                  simp only [Act.put, List.setIfInBounds_toArray, List.set_cons_zero, List.set_cons_succ]
                  refine wpS_ps rfl fun K hK => ?_
                  simp only [List.map_cons, List.map_nil, Option.getD_some, List.getElem?_toArray, List.getElem?_cons_zero, List.getElem?_cons_succ]
                  iterate 3 (first | (apply quietO_cons _ rfl; (intro w' _; go_simp; rfl)) | apply quietO_skip rfl)
                  refine hK _ ?_
                  clear hK K
                  simp only [Act.put, List.setIfInBounds_toArray, List.set_cons_zero, List.set_cons_succ]
                  refine wpS_ps rfl fun K hK => ?_
                  simp only [List.map_cons, List.map_nil, Option.getD_some, List.getElem?_toArray, List.getElem?_cons_zero, List.getElem?_cons_succ]
                  iterate 3 (first | (apply quietO_cons _ rfl; (intro w' _; go_simp; rfl)) | apply quietO_skip rfl)
                  refine hK _ ?_
                  clear hK K
                  simp only [Act.put, List.setIfInBounds_toArray, List.set_cons_zero, List.set_cons_succ]
                  refine wpS_ps rfl fun K hK => ?_
                  simp only [List.map_cons, List.map_nil, Option.getD_some, List.getElem?_toArray, List.getElem?_cons_zero, List.getElem?_cons_succ]
                  iterate 3 (first | (apply quietO_cons _ rfl; (intro w' _; go_simp; rfl)) | apply quietO_skip rfl)
                  refine hK _ ?_
                  clear hK K
                  simp only [Act.put, List.setIfInBounds_toArray, List.set_cons_zero, List.set_cons_succ]
                  refine wpS_ps rfl fun K hK => ?_
                  simp only [List.map_cons, List.map_nil, Option.getD_some, List.getElem?_toArray, List.getElem?_cons_zero, List.getElem?_cons_succ]
                  iterate 3 (first | (apply quietO_cons _ rfl; (intro w' _; go_simp; rfl)) | apply quietO_skip rfl)
                  refine hK _ ?_
                  clear hK K
                  simp only [Act.put, List.setIfInBounds_toArray, List.set_cons_zero, List.set_cons_succ]
                  refine wpS_ps rfl fun K hK => ?_
                  simp only [List.map_cons, List.map_nil, Option.getD_some, List.getElem?_toArray, List.getElem?_cons_zero, List.getElem?_cons_succ]
                  iterate 3 (first | (apply quietO_cons _ rfl; (intro w' _; go_simp; rfl)) | apply quietO_skip rfl)
                  refine hK _ ?_
                  clear hK K
                  simp only [Act.put, List.setIfInBounds_toArray, List.set_cons_zero, List.set_cons_succ]
                  refine wpS_ps rfl fun K hK => ?_
                  simp only [List.map_cons, List.map_nil, Option.getD_some, List.getElem?_toArray, List.getElem?_cons_zero, List.getElem?_cons_succ]
                  iterate 3 (first | (apply quietO_cons _ rfl; (intro w' _; go_simp; rfl)) | apply quietO_skip rfl)
                  refine hK _ ?_
                  clear hK K
                  simp only [Act.put, List.setIfInBounds_toArray, List.set_cons_zero, List.set_cons_succ]
                  refine wpS_ps rfl fun K hK => ?_
                  simp only [List.map_cons, List.map_nil, Option.getD_some, List.getElem?_toArray, List.getElem?_cons_zero, List.getElem?_cons_succ]
                  iterate 3 (first | (apply quietO_cons _ rfl; (intro w' _; go_simp; rfl)) | apply quietO_skip rfl)
                  refine hK _ ?_
                  clear hK K
                  simp only [Act.put, List.setIfInBounds_toArray, List.set_cons_zero, List.set_cons_succ]
                  clear r0 r1 r2 q6
                  refine wpS_es rfl fun K hK => ?_
                  have HK := Lib.hid hK
                  clear hK
                  simp only [List.map_cons, List.map_nil, Option.getD_some, List.getElem?_toArray, List.getElem?_cons_zero, List.getElem?_cons_succ]
                  go_wp2_with fail
                  refine HK.out _ _ (fun h => by cases h) ?_
                  clear HK K
                  refine wpS_nil ?_
                  go_wp2_with fail
                  go_ret
                  exact ⟨rfl, Hkw10.out⟩
                · have hab' : (a == b) = false := by simp [hab]
                  by_cases hxe : xa = xb
                  · have hie : ¬ ia = ib := fun e => hab (hinj hxe e)
                    have hie' : (ia == ib) = false := by simp [hie]
                    subst hxe
                    clear hinj
                    have Hkj := Lib.hid hkj
                    have Hpj := Lib.hid hpj
                    have Hbj := Lib.hid hbj
                    have Hk9 := Lib.hid hk9
                    have Hxa := Lib.hid hxa
                    have Hia := Lib.hid hia
                    have Hxb := Lib.hid hxb
                    have Hib := Lib.hid hib
                    have Hlst := Lib.hid hlst
                    have Hl := Lib.hid hl
                    have Hgd := Lib.hid hgd
                    have HiaF := Lib.hid hiaF
                    have Hpos := Lib.hid hpos
                    have Hbnd := Lib.hid hbnd
                    clear hkj hpj hbj hk9 hxa hia hxb hib hlst hl hgd hiaF hpos hbnd
                    go_wp2_with fail
                    refine wp_region_script [0, 2, 3, 4, 5, 6, 7, 8, 9, 10, 11, 12, 13, 14, 15, 16, 17, 18, 19, 20, 21, 22, 23, 24, 25, 26, 27, 28, 29, 30, 31, 32, 33, 34, 35, 36, 37, 38, 39, 40, 41, 42, 43, 44, 45, 46, 47, 48] [0, 3, 11, 27] [.fs [0], .ps [2], .fs [3], .ps [4, 5], .es [1] true, .ps [6, 7, 8, 9, 10], .fs [11], .ps [12, 13, 14], .ps [15, 16, 17], .ps [18, 19, 20], .ps [21, 22, 23], .ps [24, 25, 26], .fs [27], .ps [28, 29, 30], .ps [31, 32, 33], .ps [34, 35, 36], .ps [37, 38, 39], .ps [40, 41, 42], .ps [43, 44, 45], .ps [46, 47, 48], .es [49] false] (Keeps nowhere wj.drew) rfl (by kernel_rfl) ?_
                    refine wpS_fs rfl (Keeps.refl _ _) fun K hK => ?_
                    simp only [List.map_cons, List.map_nil, Option.getD_some, List.getElem?_toArray, List.getElem?_cons_zero, List.getElem?_cons_succ]
                    iterate 1 (first | (apply quietO_cons _ rfl; (intro w' hs; have c_0 := r0 w' hs; have c_1 := r1 w' hs; have c_2 := r2 w' hs; go_simp; rfl)) | apply quietO_skip rfl)
                    refine hK _ ?_
                    clear hK K
                    simp only [Act.put, List.setIfInBounds_toArray, List.set_cons_zero, List.set_cons_succ]
                    refine wpS_ps rfl fun K hK => ?_
                    simp only [List.map_cons, List.map_nil, Option.getD_some, List.getElem?_toArray, List.getElem?_cons_zero, List.getElem?_cons_succ]
                    iterate 1 (first | (apply quietO_cons _ rfl; (intro w' _; go_simp; rfl)) | apply quietO_skip rfl)
                    refine hK _ ?_
                    clear hK K
                    simp only [Act.put, List.setIfInBounds_toArray, List.set_cons_zero, List.set_cons_succ]
                    refine wpS_fs rfl (Keeps.refl _ _) fun K hK => ?_
                    simp only [List.map_cons, List.map_nil, Option.getD_some, List.getElem?_toArray, List.getElem?_cons_zero, List.getElem?_cons_succ]
                    iterate 1 (first | (apply quietO_cons _ rfl; (intro w' hs; have c_0 := r1 w' hs; go_simp; rfl)) | apply quietO_skip rfl)
                    refine hK _ ?_
                    clear hK K
                    simp only [Act.put, List.setIfInBounds_toArray, List.set_cons_zero, List.set_cons_succ]
                    refine wpS_ps rfl fun K hK => ?_
                    simp only [List.map_cons, List.map_nil, Option.getD_some, List.getElem?_toArray, List.getElem?_cons_zero, List.getElem?_cons_succ]
                    iterate 2 (first | (apply quietO_cons _ rfl; (intro w' _; go_simp; rfl)) | apply quietO_skip rfl)
                    refine hK _ ?_
                    clear hK K
                    simp only [Act.put, List.setIfInBounds_toArray, List.set_cons_zero, List.set_cons_succ]
                    refine wpS_es rfl fun K hK => ?_
                    have HK := Lib.hid hK
                    clear hK
                    simp only [List.map_cons, List.map_nil, Option.getD_some, List.getElem?_toArray, List.getElem?_cons_zero, List.getElem?_cons_succ]
                    go_wp2_with fail
                    refine Hgd.out.mono ?_
                    rintro e w10 ⟨rfl, hk10⟩
                    have hkw10 := Hkj.out.drew.more hk10
                    have Hk10 := Lib.hid hk10
                    have Hkw10 := Lib.hid hkw10
                    clear hk10 hkw10
                    go_wp2_with fail
                    refine HK.out _ _ (fun _ => Hk10.out) ?_
                    clear HK K
                    refine wpS_ps rfl fun K hK => ?_
                    simp only [List.map_cons, List.map_nil, Option.getD_some, List.getElem?_toArray, List.getElem?_cons_zero, List.getElem?_cons_succ]
                    iterate 5 (first | (apply quietO_cons _ rfl; (intro w' _; go_simp; rfl)) | apply quietO_skip rfl)
                    refine hK _ ?_
                    clear hK K
                    simp only [Act.put, List.setIfInBounds_toArray, List.set_cons_zero, List.set_cons_succ]
                    refine wpS_fs rfl (Hk10.out) fun K hK => ?_
                    simp only [List.map_cons, List.map_nil, Option.getD_some, List.getElem?_toArray, List.getElem?_cons_zero, List.getElem?_cons_succ]
                    iterate 1 (first | (apply quietO_cons _ rfl; (intro w' hs; have c_0 := q6 w' hs; go_simp; rfl)) | apply quietO_skip rfl)
                    refine hK _ ?_
                    clear hK K
                    simp only [Act.put, List.setIfInBounds_toArray, List.set_cons_zero, List.set_cons_succ]
                    refine wpS_ps rfl fun K hK => ?_
                    simp only [List.map_cons, List.map_nil, Option.getD_some, List.getElem?_toArray, List.getElem?_cons_zero, List.getElem?_cons_succ]
                    iterate 3 (first | (apply quietO_cons _ rfl; (intro w' _; go_simp; rfl)) | apply quietO_skip rfl)
                    refine hK _ ?_
                    clear hK K
                    simp only [Act.put, List.setIfInBounds_toArray, List.set_cons_zero, List.set_cons_succ]
                    refine wpS_ps rfl fun K hK => ?_
                    simp only [List.map_cons, List.map_nil, Option.getD_some, List.getElem?_toArray, List.getElem?_cons_zero, List.getElem?_cons_succ]
                    iterate 3 (first | (apply quietO_cons _ rfl; (intro w' _; go_simp; rfl)) | apply quietO_skip rfl)
                    refine hK _ ?_
                    clear hK K
                    simp only [Act.put, List.setIfInBounds_toArray, List.set_cons_zero, List.set_cons_succ]
                    refine wpS_ps rfl fun K hK => ?_
                    simp only [List.map_cons, List.map_nil, Option.getD_some, List.getElem?_toArray, List.getElem?_cons_zero, List.getElem?_cons_succ]
                    iterate 3 (first | (apply quietO_cons _ rfl; (intro w' _; go_simp; rfl)) | apply quietO_skip rfl)
                    refine hK _ ?_
                    clear hK K
                    simp only [Act.put, List.setIfInBounds_toArray, List.set_cons_zero, List.set_cons_succ]
                    refine wpS_ps rfl fun K hK => ?_
                    simp only [List.map_cons, List.map_nil, Option.getD_some, List.getElem?_toArray, List.getElem?_cons_zero, List.getElem?_cons_succ]
                    iterate 3 (first | (apply quietO_cons _ rfl; (intro w' _; go_simp; rfl)) | apply quietO_skip rfl)
                    refine hK _ ?_
                    clear hK K
                    simp only [Act.put, List.setIfInBounds_toArray, List.set_cons_zero, List.set_cons_succ]
                    refine wpS_ps rfl fun K hK => ?_
                    simp only [List.map_cons, List.map_nil, Option.getD_some, List.getElem?_toArray, List.getElem?_cons_zero, List.getElem?_cons_succ]
                    iterate 3 (first | (apply quietO_cons _ rfl; (intro w' _; go_simp; rfl)) | apply quietO_skip rfl)
                    refine hK _ ?_
                    clear hK K
                    simp only [Act.put, List.setIfInBounds_toArray, List.set_cons_zero, List.set_cons_succ]
                    refine wpS_fs rfl (Hk10.out) fun K hK => ?_
                    simp only [List.map_cons, List.map_nil, Option.getD_some, List.getElem?_toArray, List.getElem?_cons_zero, List.getElem?_cons_succ]
                    iterate 1 (first | (apply quietO_cons _ rfl; (intro w' hs; have c_0 := r0 w' hs; go_simp; rfl)) | apply quietO_skip rfl)
                    refine hK _ ?_
                    clear hK K
                    simp only [Act.put, List.setIfInBounds_toArray, List.set_cons_zero, List.set_cons_succ]
                    refine wpS_ps rfl fun K hK => ?_
                    simp only [List.map_cons, List.map_nil, Option.getD_some, List.getElem?_toArray, List.getElem?_cons_zero, List.getElem?_cons_succ]
                    iterate 3 (first | (apply quietO_cons _ rfl; (intro w' _; go_simp; rfl)) | apply quietO_skip rfl)
                    refine hK _ ?_
                    clear hK K
                    simp only [Act.put, List.setIfInBounds_toArray, List.set_cons_zero, List.set_cons_succ]
                    refine wpS_ps rfl fun K hK => ?_
                    simp only [List.map_cons, List.map_nil, Option.getD_some, List.getElem?_toArray, List.getElem?_cons_zero, List.getElem?_cons_succ]
                    iterate 3 (first | (apply quietO_cons _ rfl; (intro w' _; go_simp; rfl)) | apply quietO_skip rfl)
                    refine hK _ ?_
                    clear hK K
                    simp only [Act.put, List.setIfInBounds_toArray, List.set_cons_zero, List.set_cons_succ]
                    refine wpS_ps rfl fun K hK => ?_
                    simp only [List.map_cons, List.map_nil, Option.getD_some, List.getElem?_toArray, List.getElem?_cons_zero, List.getElem?_cons_succ]
                    iterate 3 (first | (apply quietO_cons _ rfl; (intro w' _; go_simp; rfl)) | apply quietO_skip rfl)
                    refine hK _ ?_
                    clear hK K
                    simp only [Act.put, List.setIfInBounds_toArray, List.set_cons_zero, List.set_cons_succ]
                    refine wpS_ps rfl fun K hK => ?_
                    simp only [List.map_cons, List.map_nil, Option.getD_some, List.getElem?_toArray, List.getElem?_cons_zero, List.getElem?_cons_succ]
                    iterate 3 (first | (apply quietO_cons _ rfl; (intro w' _; go_simp; rfl)) | apply quietO_skip rfl)
                    refine hK _ ?_
                    clear hK K
                    simp only [Act.put, List.setIfInBounds_toArray, List.set_cons_zero, List.set_cons_succ]
                    refine wpS_ps rfl fun K hK => ?_
                    simp only [List.map_cons, List.map_nil, Option.getD_some, List.getElem?_toArray, List.getElem?_cons_zero, List.getElem?_cons_succ]
                    iterate 3 (first | (apply quietO_cons _ rfl; (intro w' _; go_simp; rfl)) | apply quietO_skip rfl)
                    refine hK _ ?_
                    clear hK K
                    simp only [Act.put, List.setIfInBounds_toArray, List.set_cons_zero, List.set_cons_succ]
                    refine wpS_ps rfl fun K hK => ?_
                    simp only [List.map_cons, List.map_nil, Option.getD_some, List.getElem?_toArray, List.getElem?_cons_zero, List.getElem?_cons_succ]
                    iterate 3 (first | (apply quietO_cons _ rfl; (intro w' _; go_simp; rfl)) | apply quietO_skip rfl)
                    refine hK _ ?_
                    clear hK K
                    simp only [Act.put, List.setIfInBounds_toArray, List.set_cons_zero, List.set_cons_succ]
                    refine wpS_ps rfl fun K hK => ?_
                    simp only [List.map_cons, List.map_nil, Option.getD_some, List.getElem?_toArray, List.getElem?_cons_zero, List.getElem?_cons_succ]
                    iterate 3 (first | (apply quietO_cons _ rfl; (intro w' _; go_simp; rfl)) | apply quietO_skip rfl)
                    refine hK _ ?_
                    clear hK K
                    simp only [Act.put, List.setIfInBounds_toArray, List.set_cons_zero, List.set_cons_succ]
                    clear r0 r1 r2 q6
                    refine wpS_es rfl fun K hK => ?_
                    have HK := Lib.hid hK
                    clear hK
                    simp only [List.map_cons, List.map_nil, Option.getD_some, List.getElem?_toArray, List.getElem?_cons_zero, List.getElem?_cons_succ]
                    go_wp2_with fail
                    refine HK.out _ _ (fun h => by cases h) ?_
                    clear HK K
                    refine wpS_nil ?_
                    go_wp2_with fail
                    go_ret
                    exact ⟨rfl, Hkw10.out⟩
                  · have hxe' : (xa == xb) = false := by simp [hxe]
                    clear hinj
                    have Hkj := Lib.hid hkj
                    have Hpj := Lib.hid hpj
                    have Hbj := Lib.hid hbj
                    have Hk9 := Lib.hid hk9
                    have Hxa := Lib.hid hxa
                    have Hia := Lib.hid hia
                    have Hxb := Lib.hid hxb
                    have Hib := Lib.hid hib
                    have Hlst := Lib.hid hlst
                    have Hl := Lib.hid hl
                    have Hgd := Lib.hid hgd
                    have HiaF := Lib.hid hiaF
                    have Hpos := Lib.hid hpos
                    have Hbnd := Lib.hid hbnd
                    clear hkj hpj hbj hk9 hxa hia hxb hib hlst hl hgd hiaF hpos hbnd
                    go_wp2_with fail
                    refine wp_region_script [0, 2, 3, 4, 5, 6, 7, 8, 9, 10, 11, 12, 13, 14, 15, 16, 17, 18, 19, 20, 21, 22, 23, 24, 25, 26, 27, 28, 29, 30, 31, 32, 33, 34, 35, 36, 37, 38, 39, 40, 41, 42, 43, 44, 45, 46, 47, 48] [0, 3, 11, 27] [.fs [0], .ps [2], .fs [3], .ps [4, 5], .es [1] true, .ps [6, 7, 8, 9, 10], .fs [11], .ps [12, 13, 14], .ps [15, 16, 17], .ps [18, 19, 20], .ps [21, 22, 23], .ps [24, 25, 26], .fs [27], .ps [28, 29, 30], .ps [31, 32, 33], .ps [34, 35, 36], .ps [37, 38, 39], .ps [40, 41, 42], .ps [43, 44, 45], .ps [46, 47, 48], .es [49] false] (Keeps nowhere wj.drew) rfl (by kernel_rfl) ?_
                    refine wpS_fs rfl (Keeps.refl _ _) fun K hK => ?_
                    simp only [List.map_cons, List.map_nil, Option.getD_some, List.getElem?_toArray, List.getElem?_cons_zero, List.getElem?_cons_succ]
                    iterate 1 (first | (apply quietO_cons _ rfl; (intro w' hs; have c_0 := r0 w' hs; have c_1 := r1 w' hs; have c_2 := r2 w' hs; go_simp; rfl)) | apply quietO_skip rfl)
                    refine hK _ ?_
                    clear hK K
                    simp only [Act.put, List.setIfInBounds_toArray, List.set_cons_zero, List.set_cons_succ]
                    refine wpS_ps rfl fun K hK => ?_
                    simp only [List.map_cons, List.map_nil, Option.getD_some, List.getElem?_toArray, List.getElem?_cons_zero, List.getElem?_cons_succ]
                    iterate 1 (first | (apply quietO_cons _ rfl; (intro w' _; go_simp; rfl)) | apply quietO_skip rfl)
                    refine hK _ ?_
                    clear hK K
                    simp only [Act.put, List.setIfInBounds_toArray, List.set_cons_zero, List.set_cons_succ]
                    refine wpS_fs rfl (Keeps.refl _ _) fun K hK => ?_
                    simp only [List.map_cons, List.map_nil, Option.getD_some, List.getElem?_toArray, List.getElem?_cons_zero, List.getElem?_cons_succ]
                    iterate 1 (first | (apply quietO_cons _ rfl; (intro w' hs; have c_0 := r1 w' hs; go_simp; rfl)) | apply quietO_skip rfl)
                    refine hK _ ?_
                    clear hK K
                    simp only [Act.put, List.setIfInBounds_toArray, List.set_cons_zero, List.set_cons_succ]
                    refine wpS_ps rfl fun K hK => ?_
                    simp only [List.map_cons, List.map_nil, Option.getD_some, List.getElem?_toArray, List.getElem?_cons_zero, List.getElem?_cons_succ]
                    iterate 2 (first | (apply quietO_cons _ rfl; (intro w' _; go_simp; rfl)) | apply quietO_skip rfl)
                    refine hK _ ?_
                    clear hK K
                    simp only [Act.put, List.setIfInBounds_toArray, List.set_cons_zero, List.set_cons_succ]
                    refine wpS_es rfl fun K hK => ?_
                    have HK := Lib.hid hK
                    clear hK
                    simp only [List.map_cons, List.map_nil, Option.getD_some, List.getElem?_toArray, List.getElem?_cons_zero, List.getElem?_cons_succ]
                    go_wp2_with fail
                    refine Hgd.out.mono ?_
                    rintro e w10 ⟨rfl, hk10⟩
                    have hkw10 := Hkj.out.drew.more hk10
                    have Hk10 := Lib.hid hk10
                    have Hkw10 := Lib.hid hkw10
                    clear hk10 hkw10
                    go_wp2_with fail
                    refine HK.out _ _ (fun _ => Hk10.out) ?_
                    clear HK K
                    refine wpS_ps rfl fun K hK => ?_
                    simp only [List.map_cons, List.map_nil, Option.getD_some, List.getElem?_toArray, List.getElem?_cons_zero, List.getElem?_cons_succ]
                    iterate 5 (first | (apply quietO_cons _ rfl; (intro w' _; go_simp; rfl)) | apply quietO_skip rfl)
                    refine hK _ ?_
                    clear hK K
                    simp only [Act.put, List.setIfInBounds_toArray, List.set_cons_zero, List.set_cons_succ]
                    refine wpS_fs rfl (Hk10.out) fun K hK => ?_
                    simp only [List.map_cons, List.map_nil, Option.getD_some, List.getElem?_toArray, List.getElem?_cons_zero, List.getElem?_cons_succ]
                    iterate 1 (first | (apply quietO_cons _ rfl; (intro w' hs; have c_0 := q6 w' hs; go_simp; rfl)) | apply quietO_skip rfl)
                    refine hK _ ?_
                    clear hK K
                    simp only [Act.put, List.setIfInBounds_toArray, List.set_cons_zero, List.set_cons_succ]
                    refine wpS_ps rfl fun K hK => ?_
                    simp only [List.map_cons, List.map_nil, Option.getD_some, List.getElem?_toArray, List.getElem?_cons_zero, List.getElem?_cons_succ]
                    iterate 3 (first | (apply quietO_cons _ rfl; (intro w' _; go_simp; rfl)) | apply quietO_skip rfl)
                    refine hK _ ?_
                    clear hK K
                    simp only [Act.put, List.setIfInBounds_toArray, List.set_cons_zero, List.set_cons_succ]
                    refine wpS_ps rfl fun K hK => ?_
                    simp only [List.map_cons, List.map_nil, Option.getD_some, List.getElem?_toArray, List.getElem?_cons_zero, List.getElem?_cons_succ]
                    iterate 3 (first | (apply quietO_cons _ rfl; (intro w' _; go_simp; rfl)) | apply quietO_skip rfl)
                    refine hK _ ?_
                    clear hK K
                    simp only [Act.put, List.setIfInBounds_toArray, List.set_cons_zero, List.set_cons_succ]
                    refine wpS_ps rfl fun K hK => ?_
                    simp only [List.map_cons, List.map_nil, Option.getD_some, List.getElem?_toArray, List.getElem?_cons_zero, List.getElem?_cons_succ]
                    iterate 3 (first | (apply quietO_cons _ rfl; (intro w' _; go_simp; rfl)) | apply quietO_skip rfl)
                    refine hK _ ?_
                    clear hK K
                    simp only [Act.put, List.setIfInBounds_toArray, List.set_cons_zero, List.set_cons_succ]
                    refine wpS_ps rfl fun K hK => ?_
                    simp only [List.map_cons, List.map_nil, Option.getD_some, List.getElem?_toArray, List.getElem?_cons_zero, List.getElem?_cons_succ]
                    iterate 3 (first | (apply quietO_cons _ rfl; (intro w' _; go_simp; rfl)) | apply quietO_skip rfl)
                    refine hK _ ?_
                    clear hK K
                    simp only [Act.put, List.setIfInBounds_toArray, List.set_cons_zero, List.set_cons_succ]
                    refine wpS_ps rfl fun K hK => ?_
                    simp only [List.map_cons, List.map_nil, Option.getD_some, List.getElem?_toArray, List.getElem?_cons_zero, List.getElem?_cons_succ]
                    iterate 3 (first | (apply quietO_cons _ rfl; (intro w' _; go_simp; rfl)) | apply quietO_skip rfl)
                    refine hK _ ?_
                    clear hK K
                    simp only [Act.put, List.setIfInBounds_toArray, List.set_cons_zero, List.set_cons_succ]
                    refine wpS_fs rfl (Hk10.out) fun K hK => ?_
                    simp only [List.map_cons, List.map_nil, Option.getD_some, List.getElem?_toArray, List.getElem?_cons_zero, List.getElem?_cons_succ]
                    iterate 1 (first | (apply quietO_cons _ rfl; (intro w' hs; have c_0 := r0 w' hs; go_simp; rfl)) | apply quietO_skip rfl)
                    refine hK _ ?_
                    clear hK K
                    simp only [Act.put, List.setIfInBounds_toArray, List.set_cons_zero, List.set_cons_succ]
                    refine wpS_ps rfl fun K hK => ?_
                    simp only [List.map_cons, List.map_nil, Option.getD_some, List.getElem?_toArray, List.getElem?_cons_zero, List.getElem?_cons_succ]
                    iterate 3 (first | (apply quietO_cons _ rfl; (intro w' _; go_simp; rfl)) | apply quietO_skip rfl)
                    refine hK _ ?_
                    clear hK K
                    simp only [Act.put, List.setIfInBounds_toArray, List.set_cons_zero, List.set_cons_succ]
                    refine wpS_ps rfl fun K hK => ?_
                    simp only [List.map_cons, List.map_nil, Option.getD_some, List.getElem?_toArray, List.getElem?_cons_zero, List.getElem?_cons_succ]
                    iterate 3 (first | (apply quietO_cons _ rfl; (intro w' _; go_simp; rfl)) | apply quietO_skip rfl)
                    refine hK _ ?_
                    clear hK K
                    simp only [Act.put, List.setIfInBounds_toArray, List.set_cons_zero, List.set_cons_succ]
                    refine wpS_ps rfl fun K hK => ?_
                    simp only [List.map_cons, List.map_nil, Option.getD_some, List.getElem?_toArray, List.getElem?_cons_zero, List.getElem?_cons_succ]
                    iterate 3 (first | (apply quietO_cons _ rfl; (intro w' _; go_simp; rfl)) | apply quietO_skip rfl)
                    refine hK _ ?_
                    clear hK K
                    simp only [Act.put, List.setIfInBounds_toArray, List.set_cons_zero, List.set_cons_succ]
                    refine wpS_ps rfl fun K hK => ?_
                    simp only [List.map_cons, List.map_nil, Option.getD_some, List.getElem?_toArray, List.getElem?_cons_zero, List.getElem?_cons_succ]
                    iterate 3 (first | (apply quietO_cons _ rfl; (intro w' _; go_simp; rfl)) | apply quietO_skip rfl)
                    refine hK _ ?_
                    clear hK K
                    simp only [Act.put, List.setIfInBounds_toArray, List.set_cons_zero, List.set_cons_succ]
                    refine wpS_ps rfl fun K hK => ?_
                    simp only [List.map_cons, List.map_nil, Option.getD_some, List.getElem?_toArray, List.getElem?_cons_zero, List.getElem?_cons_succ]
                    iterate 3 (first | (apply quietO_cons _ rfl; (intro w' _; go_simp; rfl)) | apply quietO_skip rfl)
                    refine hK _ ?_
                    clear hK K
                    simp only [Act.put, List.setIfInBounds_toArray, List.set_cons_zero, List.set_cons_succ]
                    refine wpS_ps rfl fun K hK => ?_
                    simp only [List.map_cons, List.map_nil, Option.getD_some, List.getElem?_toArray, List.getElem?_cons_zero, List.getElem?_cons_succ]
                    iterate 3 (first | (apply quietO_cons _ rfl; (intro w' _; go_simp; rfl)) | apply quietO_skip rfl)
                    refine hK _ ?_
                    clear hK K
                    simp only [Act.put, List.setIfInBounds_toArray, List.set_cons_zero, List.set_cons_succ]
                    refine wpS_ps rfl fun K hK => ?_
                    simp only [List.map_cons, List.map_nil, Option.getD_some, List.getElem?_toArray, List.getElem?_cons_zero, List.getElem?_cons_succ]
                    iterate 3 (first | (apply quietO_cons _ rfl; (intro w' _; go_simp; rfl)) | apply quietO_skip rfl)
                    refine hK _ ?_
                    clear hK K
                    simp only [Act.put, List.setIfInBounds_toArray, List.set_cons_zero, List.set_cons_succ]
                    clear r0 r1 r2 q6
                    refine wpS_es rfl fun K hK => ?_
                    have HK := Lib.hid hK
                    clear hK
                    simp only [List.map_cons, List.map_nil, Option.getD_some, List.getElem?_toArray, List.getElem?_cons_zero, List.getElem?_cons_succ]
                    go_wp2_with fail
                    refine HK.out _ _ (fun h => by cases h) ?_
                    clear HK K
                    refine wpS_nil ?_
                    go_wp2_with fail
                    go_ret
                    exact ⟨rfl, Hkw10.out⟩
  · have hC1 : C = 1 := by rw [HC.out, if_neg hok]
    subst hC1
    have Hk3 := Lib.hid hk3
    have Hb3 := Lib.hid hb3
    have Hkw3 := Lib.hid hkw3
    have Hok := Lib.hid hok
    clear hk3 hb3 hkw3 hok
    go_wp2_with fail
    go_ret
    exact ⟨rfl, Hkw3.out⟩
end Go.Proofs.Ytblmbchjafffbaa
