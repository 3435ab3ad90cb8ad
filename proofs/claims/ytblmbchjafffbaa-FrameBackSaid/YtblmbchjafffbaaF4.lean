/-
  frame: the reference's Feed.
-/
import Derived.Test.YtblmbchjafffbaaF3
import Derived.BigQuiet
namespace Go.Proofs.Ytblmbchjafffbaa
open Go.RowKit

set_option maxHeartbeats 400000 in
theorem rfeed_done (p : Nat) (g : Option Nat) (L B : List UInt8) (m : Nat) (v1 : Value) (w : World) (h : StAt 44 w p g L true) :
    Calls Try.prog 23 #[.pointer (some ⟨p, 0, none⟩), v1, .int .i64 m] w (RetFeed 44 w p g (feedS m L true B)) := by
  have hS := h
  obtain ⟨v, hb, hr, _⟩ := h
  have hc1 := hb.cell 1
  simp at hc1
  have HS := Lib.hid hS
  clear hS
  clear hr hb
  go_enter Try.func23, Try.ntmps23
  go_wp2
  go_ret
  exact ⟨_, g, rfl, Heap.nil _ _, HS.out, From.refl _ _, Keeps.refl _ _⟩

theorem bits_or_i64_nat (a b : Nat) (ha : a < 9223372036854775808) (hb : b < 9223372036854775808) :
    bits .or .i64 (a : Int) (b : Int) = ((a ||| b : Nat) : Int) := by
  have hx : a ||| b < 2 ^ 63 := Nat.or_lt_two_pow (by omega) (by omega)
  have h1 : (BitVec.ofInt 64 (a : Int)).toNat = a := by
    rw [BitVec.ofInt_natCast, BitVec.toNat_ofNat]; exact Nat.mod_eq_of_lt (by omega)
  have h2 : (BitVec.ofInt 64 (b : Int)).toNat = b := by
    rw [BitVec.ofInt_natCast, BitVec.toNat_ofNat]; exact Nat.mod_eq_of_lt (by omega)
  show IntKind.i64.wrap ((BitVec.ofInt 64 (a : Int) ||| BitVec.ofInt 64 (b : Int)).toNat : Int) = _
  rw [BitVec.toNat_or, h1, h2]
  exact IntWalk.i64_in _ (by omega)
theorem or_high (x y k : Nat) (hk : k ≤ 32) (hx : x < 2 ^ k) (hy : y < 256) : bits .or .i64 (x : Int) ((y : Int) * ((2 ^ k : Nat) : Int)) = ((x + y * 2 ^ k : Nat) : Int) := by
  have hp : (2 : Nat) ^ k ≤ 2 ^ 32 := Nat.pow_le_pow_right (by omega) hk
  have h32 : (2 : Nat) ^ 32 = 4294967296 := by decide
  have hm : y * 2 ^ k ≤ 255 * 2 ^ 32 := Nat.mul_le_mul (by omega) hp
  rw [← Int.natCast_mul, bits_or_i64_nat _ _ (by omega) (by omega)]
  congr 1
  rw [Nat.or_comm, ← Nat.shiftLeft_eq, ← Nat.shiftLeft_add_eq_or_of_lt hx, Nat.add_comm]
theorem or_size (a b c d : Nat) (ha : a < 256) (hb : b < 256) (hc : c < 256) (hd : d < 256) :
    bits .or .i64 (bits .or .i64 (bits .or .i64 (a : Int) ((b : Int) * 256)) ((c : Int) * 65536)) ((d : Int) * 16777216) = ((a + b * 256 + c * 65536 + d * 16777216 : Nat) : Int) := by
  have e1 := or_high a b 8 (by omega) (by omega) hb
  have e2 := or_high (a + b * 256) c 16 (by omega) (by omega) hc
  have e3 := or_high (a + b * 256 + c * 65536) d 24 (by omega) (by omega) hd
  simp only [show (2 : Nat) ^ 8 = 256 from rfl, show (2 : Nat) ^ 16 = 65536 from rfl, show (2 : Nat) ^ 24 = 16777216 from rfl] at e1 e2 e3
  rw [show ((b : Int) * 256) = (b : Int) * ((256 : Nat) : Int) from rfl, e1, show ((c : Int) * 65536) = (c : Int) * ((65536 : Nat) : Int) from rfl, e2, show ((d : Int) * 16777216) = (d : Int) * ((16777216 : Nat) : Int) from rfl, e3]

set_option maxHeartbeats 1600000 in
set_option maxRecDepth 8000 in
theorem rfeed_live (p : Nat) (g g1 : Option Nat) (L B : List UInt8) (m : Nat) (v1 : Value) (w : World) (h : StAt 44 w p g L false) (hr1 : Rd w v1 g1 (B.map bv)) (hm : m ≤ 65535) (hlb : L.length + B.length ≤ 1099511627776) :
    Calls Try.prog 23 #[.pointer (some ⟨p, 0, none⟩), v1, .int .i64 m] w (RetFeed 44 w p g (feed m (L ++ B))) := by
  obtain ⟨v, hb, hr, hgp⟩ := h
  have hplt := hb.lt
  have hka := (Keeps.refl nowhere w).alloc (.cells #[] 5)
  have hba := hb.keep hka (fun h => h)
  have hc1 := hb.cell 1
  have hc0 := hba.cell 0
  simp at hc0 hc1
  obtain ⟨A, c, rfl, -⟩ := hr.form
  rw [List.length_map] at *
  have hr2 := hr.keep hka (fun _ _ h => h)
  have Hb := Lib.hid hb
  have Hba := Lib.hid hba
  have Hr := Lib.hid hr
  have Hgp := Lib.hid hgp
  have Hr1 := Lib.hid hr1
  have Hr2 := Lib.hid hr2
  have Hka := Lib.hid hka
  clear hb hba hr hgp hr1 hr2 hka
  go_enter Try.func23, Try.ntmps23
  go_wp2_with (at_builtin; go_must (refine wpList_append_bytes rfl (.tmp 14) (.tmp 18) rfl _ _ rfl (OwnB.empty w) _ g L rfl Hr2.out (by simp; omega) ?_))
  intro v2 w2 hown2 hk2 hf2
  replace hown2 : OwnB w2 v2 L := hown2
  have hab2 : Above w.heap.size v2.ownBlock := fun b hb => (hf2 b hb).elim (fun e => by simp [Value.ownBlock] at e; omega) (fun h => by have := Hka.out.size; omega)
  have hkb : Keeps nowhere w w2 := Hka.out.trans hk2 fun b hb e => by simp [Value.ownBlock] at e; omega
  have hr12 := Hr1.out.keep hkb (fun _ _ h => h)
  have Hown2 := Lib.hid hown2
  have Hk2 := Lib.hid hk2
  have Hf2 := Lib.hid hf2
  have Hab2 := Lib.hid hab2
  have Hkb := Lib.hid hkb
  have Hr12 := Lib.hid hr12
  clear hown2 hk2 hf2 hab2 hkb hr12
  go_wp2_with (at_builtin; go_must (refine wpList_append_bytes rfl (.tmp 19) (.tmp 20) rfl v2 _ rfl Hown2.out _ g1 B rfl Hr12.out hlb ?_))
  intro v3 w3 hown3 hk3 hf3
  have hab3 : Above w.heap.size v3.ownBlock := Hab2.out.of_from hf3 Hkb.out.size
  have hkc : Keeps nowhere w w3 := Hkb.out.trans hk3 fun b hb e => absurd (Hab2.out b e) (by omega)
  obtain ⟨A3, c3, rfl, -⟩ := hown3.form'
  obtain ⟨n3, hn3⟩ : ∃ n3, n3 = (L ++ B).length := ⟨_, rfl⟩
  rw [← hn3] at hown3 hab3 ⊢
  have hb3 := Hb.out.keep hkc (fun h => h)
  have hcc := hb3.cell 0
  have hff := hb3.frozen 0
  simp at hcc
  have hst := StAt.set0 (T := 44) hb3 hown3.rd (fun e => by have := hab3 p e; omega)
  have hk4 : Keeps (only p) w (w3.setCell ⟨p, 0, none⟩ (.slice A3 n3 c3)) := (hkc.mono (T := only p) fun _ _ h => h.elim).setCell (p := ⟨p, 0, none⟩) (fun _ => rfl) _
  have Hown3 := Lib.hid hown3
  have Hk3 := Lib.hid hk3
  have Hf3 := Lib.hid hf3
  have Hab3 := Lib.hid hab3
  have Hkc := Lib.hid hkc
  have Hb3 := Lib.hid hb3
  have Hst := Lib.hid hst
  have Hk4 := Lib.hid hk4
  have Hn3 := Lib.hid hn3
  clear hown3 hk3 hf3 hab3 hkc hb3 hst hk4 hn3
  clear hc0 hc1
  go_wp2_with fail
  go_loopw [7] (fun o wr => ∃ (Ls : List (List UInt8)) (R : List UInt8) (gr : Option Nat), Heap wr w.heap.size o Ls ∧ StAt 44 wr p gr R false ∧ Above w.heap.size gr ∧ (∀ b, gr = some b → o.ownBlock ≠ some b) ∧ Keeps (only p) w wr ∧
      feed m (L ++ B) = (Ls ++ (feed m R).1, (feed m R).2) ∧ Ls.length + R.length ≤ L.length + B.length) (fun _ wr => heldLen wr p)
  case atStart => exact ⟨[], L ++ B, _, Heap.nil _ _, Hst.out, Hab3.out, fun b _ h => (by cases h), Hk4.out, by simp, by simp⟩
  case round =>
    obtain ⟨Ls, R, gr, hh, hs, hgr, hne, hk, hf, hlen⟩ := hrel
    have hheld := hs.held
    have hlt := hs.lt
    have hS := hs
    obtain ⟨vr, hbr, hrr, hgpr⟩ := hs
    have hc0 := hbr.cell 0
    have hf0 := hbr.frozen 0
    have hc1 := hbr.cell 1
    have hf1 := hbr.frozen 1
    simp at hc0 hc1
    clear hcc hff
    by_cases h4 : R.length < 4
    · obtain ⟨A', c', rfl, -⟩ := hrr.form
      rw [List.length_map] at hc0
      have h4' : ¬ (R.length : Int) ≥ 4 := by omega
      have hfin : RetFeed 44 w p g (feed m (L ++ B)) (.returned u7) wr := by
        rw [hf, feed_wait (.inl h4)]
        exact ⟨u7, gr, rfl, by simpa using hh, hS, fun b hb => .inr (hgr b hb), hk⟩
      have Hh := Lib.hid hh
      have HS := Lib.hid hS
      have Hgr := Lib.hid hgr
      have Hne := Lib.hid hne
      have Hk := Lib.hid hk
      have Hf := Lib.hid hf
      have Hheld := Lib.hid hheld
      have Hlt := Lib.hid hlt
      have Hbr := Lib.hid hbr
      have Hrr := Lib.hid hrr
      have Hgpr := Lib.hid hgpr
      have Hfin := Lib.hid hfin
      clear hh hS hgr hne hk hf hheld hlt hbr hrr hgpr hfin
      go_wp2_with fail
      go_ret
      exact Hfin.out
    · obtain ⟨b', off, cap, rfl, rfl, hblt, hl, hcm, hcell⟩ := hrr.plain (by rw [List.length_map]; omega)
      rw [List.length_map] at hc0 hl hrr hbr
      have h4' : (R.length : Int) ≥ 4 := by omega
      obtain ⟨x0, x1, x2, x3, hx0, hx1, hx2, hx3, hsz⟩ : ∃ x0 x1 x2 x3 : UInt8, wr.cell? ⟨b', off, none⟩ = some (.int .u8 (x0.toNat : Int)) ∧ wr.cell? ⟨b', off + 1, none⟩ = some (.int .u8 (x1.toNat : Int)) ∧ wr.cell? ⟨b', off + 2, none⟩ = some (.int .u8 (x2.toNat : Int)) ∧ wr.cell? ⟨b', off + 3, none⟩ = some (.int .u8 (x3.toNat : Int)) ∧
          sizeN R = x0.toNat + x1.toNat * 256 + x2.toNat * 65536 + x3.toNat * 16777216 := by
        refine ⟨R[0], R[1], R[2], R[3], hcell 0 _ (get_bv R 0 (by omega)), hcell 1 _ (get_bv R 1 (by omega)), hcell 2 _ (get_bv R 2 (by omega)), hcell 3 _ (get_bv R 3 (by omega)), ?_⟩
        obtain ⟨y0, y1, y2, y3, T, rfl⟩ : ∃ y0 y1 y2 y3 T, R = y0 :: y1 :: y2 :: y3 :: T := by
          match R, h4 with
          | y0 :: y1 :: y2 :: y3 :: T, _ => exact ⟨y0, y1, y2, y3, T, rfl⟩
          | [], h => simp at h
          | [_], h => simp at h
          | [_, _], h => simp at h
          | [_, _, _], h => simp at h
        simp [sizeN, le]
        omega
      have hx0b := x0.toNat_lt
      have hx1b := x1.toNat_lt
      have hx2b := x2.toNat_lt
      have hx3b := x3.toNat_lt
      have hb1 : (1 : Int) < R.length := by omega
      have hb2 : (2 : Int) < R.length := by omega
      have hb3 : (3 : Int) < R.length := by omega
      have hb0 : (0 : Int) < R.length := by omega
      have hbits := or_size x0.toNat x1.toNat x2.toNat x3.toNat hx0b hx1b hx2b hx3b
      obtain ⟨N, hN⟩ : ∃ N, N = sizeN R := ⟨_, rfl⟩
      rw [← hsz, ← hN] at hbits
      have hN32 : N < 4294967296 := by omega
      have Hh := Lib.hid hh
      have HS := Lib.hid hS
      have Hgr := Lib.hid hgr
      have Hne := Lib.hid hne
      have Hk := Lib.hid hk
      have Hf := Lib.hid hf
      have Hheld := Lib.hid hheld
      have Hlt := Lib.hid hlt
      have Hbr := Lib.hid hbr
      have Hrr := Lib.hid hrr
      have Hgpr := Lib.hid hgpr
      have Hsz := Lib.hid hsz
      have Hcell := Lib.hid hcell
      have HN := Lib.hid hN
      clear hh hS hgr hne hk hf hheld hlt hbr hrr hgpr hsz hcell hN
      go_wp2_with fail
      go_quiet (fail)
      clear hbits hx0 hx1 hx2 hx3 hx0b hx1b hx2b hx3b
      clear hc0 hc1 hf0 hf1
      obtain ⟨wd, hwd⟩ : ∃ wd, wd = wr.drewN nq := ⟨_, rfl⟩
      have hkn : Keeps nowhere wr wd := by rw [hwd]; exact (Keeps.refl nowhere wr).drewN nq
      rw [← hwd]
      have hkd : Keeps (only p) w wd := Hk.out.trans hkn fun _ _ h => h.elim
      have hbrd := Hbr.out.keep hkn (fun h => h)
      have hc0 := hbrd.cell 0
      have hf0 := hbrd.frozen 0
      have hc1 := hbrd.cell 1
      have hf1 := hbrd.frozen 1
      simp at hc0 hc1
      have hhd := Hh.out.keep hkn (fun _ _ h => h)
      have hSd := HS.out.keep0 hkn
      have hrrd := Hrr.out.keep hkn (fun _ _ h => h)
      have hltd := hSd.lt
      have Hkn := Lib.hid hkn
      clear hkn
      have Hkd := Lib.hid hkd
      have Hbrd := Lib.hid hbrd
      have Hhd := Lib.hid hhd
      have HSd := Lib.hid hSd
      have Hrrd := Lib.hid hrrd
      have Hltd := Lib.hid hltd
      have Hwd := Lib.hid hwd
      clear hkd hbrd hhd hSd hrrd hltd hwd
      by_cases hbad : N < 7 ∨ m < N
      · have hfin : RetFeed 44 w p g (feed m (L ++ B)) (.returned u7) ((wd.setCell ⟨p, 1, none⟩ (.bool true)).setCell ⟨p, 0, none⟩ (.slice none 0 0)) := by
          rw [Hf.out, feed_dead ⟨by omega, by rw [← HN.out]; exact hbad⟩]
          have hk1 := (((Keeps.refl (only p) wd).setCell (p := ⟨p, 1, none⟩) (fun _ => rfl) (.bool true)).setCell (p := ⟨p, 0, none⟩) (fun _ => rfl) (.slice none 0 0))
          refine ⟨u7, none, rfl, ?_, ⟨_, by simpa using (Hbrd.out.set_ 1 (.bool true)).set_ 0 (.slice none 0 0), Rd.nil _, by simp⟩, fun b hb => (by cases hb), Hkd.out.trans hk1 fun _ _ h => h⟩
          simpa using Hhd.out.keep hk1 (fun b hb h => by unfold only at h; omega)
        have Hfin := Lib.hid hfin
        clear hfin
        by_cases h7 : N < 7
        · have h7' : (N : Int) < 7 := by omega
          go_wp2_with fail
          go_ret
          exact Hfin.out
        · have h7' : ¬ (N : Int) < 7 := by omega
          have h8' : (N : Int) > m := by omega
          go_wp2_with fail
          go_ret
          exact Hfin.out
      · have h7' : ¬ (N : Int) < 7 := by omega
        have h8' : ¬ (N : Int) > m := by omega
        by_cases hsh : R.length < N
        · have hsh' : (R.length : Int) < N := by omega
          have hfin : RetFeed 44 w p g (feed m (L ++ B)) (.returned u7) wd := by
            rw [Hf.out, feed_wait (.inr (by rw [← HN.out]; omega))]
            exact ⟨u7, _, rfl, by simpa using Hhd.out, HSd.out, fun b hb => .inr (Hgr.out b hb), Hkd.out⟩
          have Hfin := Lib.hid hfin
          clear hfin
          go_wp2_with fail
          go_ret
          exact Hfin.out
        · have hsh' : ¬ (R.length : Int) < N := by omega
          have hcond : 7 ≤ sizeN R ∧ sizeN R ≤ m ∧ sizeN R ≤ R.length := by rw [← HN.out]; omega
          have hfc := Hf.out
          rw [feed_cut hcond, ← HN.out] at hfc
          have hsub : Rd wd (.slice (some ⟨b', off + 4, none⟩) (N - 4) (cap - 4)) (some b') (((R.drop 4).take (N - 4)).map bv) := by
            have h1 := Hrrd.out.drop 4 (by simp; omega) _ _ _ rfl
            rw [if_neg (by omega)] at h1
            have h2 := h1.take (N - 4) (by simp; omega) _ _ _ rfl
            simpa [List.map_take, List.map_drop, Addr.add_lit] using h2
          have hrest : Rd wd (.slice (if cap = N then some ⟨b', off, none⟩ else some ⟨b', off + N, none⟩) (R.length - N) (cap - N)) (some b') ((R.drop N).map bv) := by
            have h1 := Hrrd.out.drop N (by simp; omega) _ _ _ rfl
            simpa [List.map_take, List.map_drop, Addr.add_lit] using h1
          have hgu := Hgr.out b' rfl
          have hka3 := (Keeps.refl nowhere wd).alloc (.cells #[.slice (some ⟨b', off + 4, none⟩) (N - 4) (cap - 4)] 24)
          have hh4 := Hhd.out.keep hka3 (fun _ _ h => h)
          have hp4 : Parts (wd.alloc (.cells #[.slice (some ⟨b', off + 4, none⟩) (N - 4) (cap - 4)] 24)) (fun b => w.heap.size ≤ b ∧ u7.ownBlock ≠ some b) [.slice (some ⟨b', off + 4, none⟩) (N - 4) (cap - 4)] [List.take (N - 4) (List.drop 4 R)] :=
            (Parts.nil _ _).snoc (hsub.keep hka3 fun _ _ h => h) fun b hb => by
              injection hb with hb
              subst hb
              exact ⟨hgu, Hne.out _ rfl⟩
          have hs4 := HSd.out.keep0 hka3
          have hrest4 := hrest.keep hka3 (fun _ _ h => h)
          have hdl : (R.drop N).length + 7 ≤ R.length := by rw [List.length_drop]; omega
          have hsz0 := Hkd.out.size
          have Hcond := Lib.hid hcond
          have Hfc := Lib.hid hfc
          have Hsub := Lib.hid hsub
          have Hrest := Lib.hid hrest
          have Hka3 := Lib.hid hka3
          have Hh4 := Lib.hid hh4
          have Hp4 := Lib.hid hp4
          have Hs4 := Lib.hid hs4
          have Hrest4 := Lib.hid hrest4
          have Hdl := Lib.hid hdl
          have Hsz0 := Lib.hid hsz0
          clear hcond hfc hsub hrest hka3 hh4 hp4 hs4 hrest4 hdl hsz0
          go_wp2_with (at_builtin; go_must (refine wpList_append_parts rfl (.tmp 86) (.tmp 93) rfl w.heap.size u7 Ls rfl Hh4.out ?hN _ _ _ _ rfl (Rd.full (heap_alloc_new wd (.cells #[.slice (some ⟨b', off + 4, none⟩) (N - 4) (cap - 4)] 24)) (by simp [maxLen])) Hp4.out ?hb ?_))
          case hN => have := Hsz0.out; simp; omega
          case hb => have := Hdl.out; simp; omega
          intro v' w' hh5 hk5 hf5
          have hs5 : StAt 44 w' p (some b') R false := Hs4.out.keep hk5 (fun e => by have := Hh.out; obtain ⟨vs, _, _, h3⟩ := this; have := h3 p e; omega) (fun b hb e => Hne.out b hb e)
          have hrest5 := Hrest4.out.keep hk5 (fun b hb e => Hne.out b hb e)
          have hk6 : Keeps (only p) w w' := (Hkd.out.alloc _).trans hk5 fun b hb e => by have := Hh.out; obtain ⟨vs, _, _, h3⟩ := this; have := h3 b e; omega
          have hv'lt : ∀ b, v'.ownBlock = some b → b < w'.heap.size := fun b hb => by
            obtain ⟨vs, h1, _⟩ := hh5
            exact h1.lt b hb
          have hb5 := (Hbrd.out.alloc (.cells #[.slice (some ⟨b', off + 4, none⟩) (N - 4) (cap - 4)] 24)).keep hk5 (fun e => by have := Hh.out; obtain ⟨vs, _, _, h3⟩ := this; have := h3 p e; omega)
          have hka5 := (Keeps.refl nowhere w').alloc (.cells #[] 5)
          have hbk5 := hb5.keep hka5 (fun h => h)
          have hc5 := hbk5.cell 0
          simp at hc5
          have hrest6 := hrest5.keep hka5 (fun _ _ h => h)
          clear hc0 hc1 hf0 hf1
          have Hh5 := Lib.hid hh5
          have Hk5 := Lib.hid hk5
          have Hf5 := Lib.hid hf5
          have Hs5 := Lib.hid hs5
          have Hrest5 := Lib.hid hrest5
          have Hk6 := Lib.hid hk6
          have Hv'lt := Lib.hid hv'lt
          have Hb5 := Lib.hid hb5
          have Hka5 := Lib.hid hka5
          have Hbk5 := Lib.hid hbk5
          have Hrest6 := Lib.hid hrest6
          clear hh5 hk5 hf5 hs5 hrest5 hk6 hv'lt hb5 hka5 hbk5 hrest6
          by_cases hcn : cap = N
          · have h0 : R.length - cap = 0 := by omega
            have hrest7 := Hrest6.out
            rw [if_pos hcn] at hrest7
            subst hcn
            rw [h0, Nat.sub_self] at hrest7
            have Hrest7 := Lib.hid hrest7
            clear hrest7
            have hb7 : ([] : List UInt8).length + (R.drop cap).length ≤ 1099511627776 := by have h := Hdl.out; rw [List.length_nil]; omega
            have Hb7 := Lib.hid hb7
            clear hb7
            go_wp2_with (at_builtin; go_must (refine wpList_append_bytes rfl (.tmp 96) (.tmp 102) rfl _ _ rfl (OwnB.empty w') _ (some b') (R.drop cap) rfl Hrest7.out Hb7.out ?_))
            intro v8 w8 hown8 hk8 hf8
            replace hown8 : OwnB w8 v8 (R.drop cap) := hown8
            have hab8 : Above w'.heap.size v8.ownBlock := fun b hb => (hf8 b hb).elim (fun e => by simp [Value.ownBlock] at e; omega) (fun h => by have := Hka5.out.size; omega)
            have hkb8 : Keeps nowhere w' w8 := Hka5.out.trans hk8 fun b hb e => by simp [Value.ownBlock] at e; omega
            obtain ⟨A8, c8, rfl, -⟩ := hown8.form'
            obtain ⟨n8, hn8⟩ : ∃ n8, n8 = (R.drop cap).length := ⟨_, rfl⟩
            rw [← hn8] at hown8 hab8 ⊢
            have hb8 := Hb5.out.keep hkb8 (fun h => h)
            have hc8 := hb8.cell 0
            have hf8' := hb8.frozen 0
            simp at hc8
            have hplw : p < w'.heap.size := Hb5.out.lt
            have hst8 := StAt.set0 (T := 44) hb8 hown8.rd (fun e => by have := hab8 p e; omega)
            have hk9 : Keeps (only p) w8 (w8.setCell ⟨p, 0, none⟩ (.slice A8 n8 c8)) := (Keeps.refl (only p) w8).setCell (p := ⟨p, 0, none⟩) (fun _ => rfl) _
            have hk10 := (Hk6.out.trans hkb8 fun _ _ h => h.elim).trans hk9 fun _ _ h => h
            have hh8 := (Hh5.out.keep hkb8 (fun _ _ h => h)).keep hk9 (fun b hb h => by unfold only at h; omega)
            have hw'w := Hk6.out.size
            have habw := hab8.mono hw'w
            have hne8 : ∀ b, (Value.slice A8 n8 c8).ownBlock = some b → v'.ownBlock ≠ some b := fun b hb e => by have := Hv'lt.out b e; have := hab8 b hb; omega
            have hheld8 := hst8.held
            have Hown8 := Lib.hid hown8
            have Hk8 := Lib.hid hk8
            have Hf8 := Lib.hid hf8
            have Hab8 := Lib.hid hab8
            have Hkb8 := Lib.hid hkb8
            have Hb8 := Lib.hid hb8
            have Hst8 := Lib.hid hst8
            have Hk9 := Lib.hid hk9
            have Hk10 := Lib.hid hk10
            have Hh8 := Lib.hid hh8
            have Habw := Lib.hid habw
            have Hne8 := Lib.hid hne8
            have Hheld8 := Lib.hid hheld8
            have Hn8 := Lib.hid hn8
            clear hown8 hk8 hf8 hab8 hkb8 hb8 hst8 hk9 hk10 hh8 habw hne8 hheld8 hn8
            go_wp2_with fail
            go_roundw
            case rel =>
              refine ⟨_, _, _, Hh8.out, Hst8.out, Habw.out, Hne8.out, Hk10.out, ?_, ?_⟩
              · rw [Hfc.out]; simp
              · have := Hdl.out; simp only [List.length_append, List.length_cons, List.length_nil]; omega
            case measure => rw [Hheld.out, Hheld8.out]; have := Hdl.out; omega
          · have hrest7 := Hrest6.out
            rw [if_neg hcn] at hrest7
            have Hrest7 := Lib.hid hrest7
            clear hrest7
            have hb7 : ([] : List UInt8).length + (R.drop N).length ≤ 1099511627776 := by have h := Hdl.out; rw [List.length_nil]; omega
            have Hb7 := Lib.hid hb7
            clear hb7
            go_wp2_with (at_builtin; go_must (refine wpList_append_bytes rfl (.tmp 96) (.tmp 102) rfl _ _ rfl (OwnB.empty w') _ (some b') (R.drop N) rfl Hrest7.out Hb7.out ?_))
            intro v8 w8 hown8 hk8 hf8
            replace hown8 : OwnB w8 v8 (R.drop N) := hown8
            have hab8 : Above w'.heap.size v8.ownBlock := fun b hb => (hf8 b hb).elim (fun e => by simp [Value.ownBlock] at e; omega) (fun h => by have := Hka5.out.size; omega)
            have hkb8 : Keeps nowhere w' w8 := Hka5.out.trans hk8 fun b hb e => by simp [Value.ownBlock] at e; omega
            obtain ⟨A8, c8, rfl, -⟩ := hown8.form'
            obtain ⟨n8, hn8⟩ : ∃ n8, n8 = (R.drop N).length := ⟨_, rfl⟩
            rw [← hn8] at hown8 hab8 ⊢
            have hb8 := Hb5.out.keep hkb8 (fun h => h)
            have hc8 := hb8.cell 0
            have hf8' := hb8.frozen 0
            simp at hc8
            have hplw : p < w'.heap.size := Hb5.out.lt
            have hst8 := StAt.set0 (T := 44) hb8 hown8.rd (fun e => by have := hab8 p e; omega)
            have hk9 : Keeps (only p) w8 (w8.setCell ⟨p, 0, none⟩ (.slice A8 n8 c8)) := (Keeps.refl (only p) w8).setCell (p := ⟨p, 0, none⟩) (fun _ => rfl) _
            have hk10 := (Hk6.out.trans hkb8 fun _ _ h => h.elim).trans hk9 fun _ _ h => h
            have hh8 := (Hh5.out.keep hkb8 (fun _ _ h => h)).keep hk9 (fun b hb h => by unfold only at h; omega)
            have hw'w := Hk6.out.size
            have habw := hab8.mono hw'w
            have hne8 : ∀ b, (Value.slice A8 n8 c8).ownBlock = some b → v'.ownBlock ≠ some b := fun b hb e => by have := Hv'lt.out b e; have := hab8 b hb; omega
            have hheld8 := hst8.held
            have Hown8 := Lib.hid hown8
            have Hk8 := Lib.hid hk8
            have Hf8 := Lib.hid hf8
            have Hab8 := Lib.hid hab8
            have Hkb8 := Lib.hid hkb8
            have Hb8 := Lib.hid hb8
            have Hst8 := Lib.hid hst8
            have Hk9 := Lib.hid hk9
            have Hk10 := Lib.hid hk10
            have Hh8 := Lib.hid hh8
            have Habw := Lib.hid habw
            have Hne8 := Lib.hid hne8
            have Hheld8 := Lib.hid hheld8
            have Hn8 := Lib.hid hn8
            clear hown8 hk8 hf8 hab8 hkb8 hb8 hst8 hk9 hk10 hh8 habw hne8 hheld8 hn8
            go_wp2_with fail
            go_roundw
            case rel =>
              refine ⟨_, _, _, Hh8.out, Hst8.out, Habw.out, Hne8.out, Hk10.out, ?_, ?_⟩
              · rw [Hfc.out]; simp
              · have := Hdl.out; simp only [List.length_append, List.length_cons, List.length_nil]; omega
            case measure => rw [Hheld.out, Hheld8.out]; have := Hdl.out; omega
end Go.Proofs.Ytblmbchjafffbaa
