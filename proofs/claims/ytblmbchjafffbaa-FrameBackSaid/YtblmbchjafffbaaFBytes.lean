/-
  frame: the statement FrameBytes, walked.
-/
import Derived.Test.YtblmbchjafffbaaFEach
import Derived.Deep.CutBlock
namespace Go.Proofs.Ytblmbchjafffbaa
open Go.RowKit

theorem getD_lt {α : Type} (l : List α) (k : Nat) (d : α) (hk : k < l.length) : l.getD k d = l[k] := by simp [List.getD, hk]

/-- Two streams of one state, neither in the other. -/
structure Two (N : Nat) (w : World) (p q : Nat) (L : List UInt8) (d : Bool) : Prop where
  st : ∃ gp gq, StAt 84 w p gp L d ∧ StAt 44 w q gq L d ∧ gp ≠ some q ∧ gq ≠ some p
  ne : p ≠ q
  np : N ≤ p
  nq : N ≤ q

def pieceN (Cs : List UInt8) (i rest : Nat) : Nat := if i < Cs.length ∧ (Cs.getD i 0).toNat < rest then (Cs.getD i 0).toNat else rest
def mostN (Ms : List Nat) (i : Nat) : Nat := if i < Ms.length then Ms.getD i 0 else 8192
def uv (m : Nat) : Value := .int .u16 (m : Int)

theorem piece_le (Cs : List UInt8) (i rest : Nat) : pieceN Cs i rest ≤ rest := by unfold pieceN; split <;> omega
theorem piece_out (Cs : List UInt8) (i rest : Nat) (h : Cs.length ≤ i) : pieceN Cs i rest = rest := by unfold pieceN; rw [if_neg (by omega)]

/-- two feeds -/
theorem Two.feed {N : Nat} {w w1 w2 : World} {p q : Nat} {L : List UInt8} {d : Bool} {gp gq : Option Nat} (h : Two N w p q L d) (hq : StAt 44 w q gq L d) (hgp : gp ≠ some q) (hgq : gq ≠ some p)
    {g1 g2 : Option Nat} {r : List (List UInt8) × List UInt8 × Bool} (hs1 : StAt 84 w1 p g1 r.2.1 r.2.2) (hf1 : From gp w.heap.size g1) (hk1 : Keeps (only p) w w1)
    (hs2 : StAt 44 w2 q g2 r.2.1 r.2.2) (hf2 : From gq w1.heap.size g2) (hk2 : Keeps (only q) w1 w2) : Two N w2 p q r.2.1 r.2.2 := by
  have hq1 := hq.lt.1
  have hp1 := hs1.lt.1
  have hne := h.ne
  refine ⟨⟨g1, g2, hs1.keep hk2 (fun e => hne e) (fun b hb e => ?_), hs2, fun e => ?_, fun e => ?_⟩, hne, h.np, h.nq⟩
  · unfold only at e
    subst e
    rcases hf1 b hb with h1 | h1
    · exact hgp h1
    · omega
  · rcases hf1 q e with h1 | h1
    · exact hgp h1
    · omega
  · rcases hf2 p e with h1 | h1
    · exact hgq h1
    · omega

set_option maxHeartbeats 400000 in
set_option maxRecDepth 20000 in
theorem bytes_long (A0 A1 A2 : Option Addr) (n0 c0 n1 c1 n2 c2 : Nat) (w : World) (h : 2000 < n0 ∨ 40 < n1) : Calls Try.prog 6 #[.slice A0 n0 c0, .slice A1 n1 c1, .slice A2 n2 c2] w (Yes w) := by
  by_cases h1 : 2000 < n0
  · have h1' : (2000 : Int) < n0 := by omega
    go_enter Try.func6, Try.ntmps6
    go_wp2_with fail
    refine (known6 w).mono ?_
    rintro e w1 ⟨rfl, hk1⟩
    have Hk1 := Lib.hid hk1
    clear hk1
    go_wp2_with fail
    go_ret
    exact ⟨rfl, Hk1.out⟩
  · have h1' : ¬ (2000 : Int) < n0 := by omega
    have h2' : (40 : Int) < n1 := by omega
    go_enter Try.func6, Try.ntmps6
    go_wp2_with fail
    refine (known6 w).mono ?_
    rintro e w1 ⟨rfl, hk1⟩
    have Hk1 := Lib.hid hk1
    clear hk1
    go_wp2_with fail
    go_ret
    exact ⟨rfl, Hk1.out⟩

set_option maxHeartbeats 6400000 in
set_option maxRecDepth 20000 in
theorem fbytes_walk (v0 v1 v2 : Value) (g0 g1 g2 : Option Nat) (B Cs : List UInt8) (Ms : List Nat) (w : World) (hr0 : Rd w v0 g0 (B.map bv)) (hr1 : Rd w v1 g1 (Cs.map bv)) (hr2 : Rd w v2 g2 (Ms.map uv)) (hms : ∀ x ∈ Ms, x ≤ 65535) (hB : B.length ≤ 2000) (hC : Cs.length ≤ 40) :
    Calls Try.prog 6 #[v0, v1, v2] w (Yes w) := by
  obtain ⟨A0, c0, rfl, hlc0, hmc0⟩ := hr0.form
  obtain ⟨A1, c1, rfl, hlc1, hmc1⟩ := hr1.form
  obtain ⟨A2, c2, rfl, hlc2, hmc2⟩ := hr2.form
  unfold maxLen at hmc0 hmc1 hmc2
  simp only [List.length_map] at *
  have hpl1 : ∀ k (hk : k < Cs.length), ∃ b o, A1 = some ⟨b, o, none⟩ ∧ b < w.heap.size ∧ w.cell? ⟨b, o + k, none⟩ = some (.int .u8 ((Cs.getD k 0).toNat : Int)) := fun k hk => by
    obtain ⟨b, o, c, he, hg, hlt, -, -, hc⟩ := hr1.plain (by rw [List.length_map]; omega)
    injection he with e1 e2 e3
    refine ⟨b, o, e1, hlt, ?_⟩
    rw [getD_lt _ _ _ hk]
    exact hc k _ (get_bv Cs k hk)
  have hpl2 : ∀ k (hk : k < Ms.length), ∃ b o, A2 = some ⟨b, o, none⟩ ∧ b < w.heap.size ∧ w.cell? ⟨b, o + k, none⟩ = some (.int .u16 (Ms.getD k 0 : Nat)) := fun k hk => by
    obtain ⟨b, o, c, he, hg, hlt, -, -, hc⟩ := hr2.plain (by rw [List.length_map]; omega)
    injection he with e1 e2 e3
    refine ⟨b, o, e1, hlt, ?_⟩
    rw [getD_lt _ _ _ hk]
    exact hc k _ (by simp [uv, hk])
  have hmb : ∀ k, mostN Ms k ≤ 65535 := fun k => by
    unfold mostN
    split
    · rename_i hk
      rw [getD_lt _ _ _ hk]
      exact hms _ (List.getElem_mem hk)
    · omega
  obtain ⟨n, hn⟩ : ∃ n, n = B.length := ⟨_, rfl⟩
  obtain ⟨nc, hnc⟩ : ∃ nc, nc = Cs.length := ⟨_, rfl⟩
  obtain ⟨nm, hnm⟩ : ∃ nm, nm = Ms.length := ⟨_, rfl⟩
  rw [← hn] at hB hr0 hlc0
  rw [← hnc] at hC hpl1 hlc1 hr1
  rw [← hnm] at hpl2 hlc2 hr2
  rw [← hn, ← hnc, ← hnm]
  have h1' : ¬ (2000 : Int) < n := by omega
  have h2' : ¬ (40 : Int) < nc := by omega
  have Hr0 := Lib.hid hr0
  have Hr1 := Lib.hid hr1
  have Hr2 := Lib.hid hr2
  have Hms := Lib.hid hms
  have Hpl1 := Lib.hid hpl1
  have Hpl2 := Lib.hid hpl2
  have Hmb := Lib.hid hmb
  have Hn := Lib.hid hn
  have Hnc := Lib.hid hnc
  have Hnm := Lib.hid hnm
  clear hr0 hr1 hr2 hms hpl1 hpl2 hmb hn hnc hnm
  go_enter Try.func6, Try.ntmps6
  go_wp2_with fail
  refine (known6 w).mono ?_
  rintro e w1 ⟨rfl, hk1⟩
  have Hk1 := Lib.hid hk1
  clear hk1
  go_wp2_with fail
  refine (f_new _).mono ?_
  rintro e w2 ⟨rfl, hs2, hk2⟩
  have hq3 := StAt.new 44 w2
  have hk3 := (Keeps.refl nowhere w2).alloc (.cells #[.slice none 0 0, .bool false] 44)
  have hs3 := hs2.keep0 hk3
  have hkw3 := (Hk1.out.more hk2).more hk3
  have hsl := hs2.lt.1
  have hsz1 := Hk1.out.size
  have hsz2 := hk2.size
  have two3 : Two w.heap.size (w2.alloc (.cells #[.slice none 0 0, .bool false] 44)) w1.heap.size w2.heap.size [] false :=
    ⟨⟨none, none, hs3, hq3, by simp, by simp⟩, by omega, by omega, by omega⟩
  have Hs2 := Lib.hid hs2
  have Hk2 := Lib.hid hk2
  have Hq3 := Lib.hid hq3
  have Hk3 := Lib.hid hk3
  have Hs3 := Lib.hid hs3
  have Hkw3 := Lib.hid hkw3
  have Two3 := Lib.hid two3
  clear hs2 hk2 hq3 hk3 hs3 hkw3 two3
  go_wp2_with fail
  go_loopw [7, 9, 10] (fun s a i wr => ∃ (p at_ j : Nat) (L : List UInt8) (d : Bool), s = .pointer (some ⟨p, 0, none⟩) ∧ a = .int .i64 at_ ∧ i = .int .i64 j ∧ at_ ≤ n ∧ L.length ≤ at_ ∧ (nc < j → at_ = n) ∧ j ≤ nc + 1 ∧
      Two w.heap.size wr p w2.heap.size L d ∧ Keeps nowhere w wr) (fun _ _ i _ => nc + 1 - (intOf i).toNat)
  case atStart => exact ⟨_, 0, 0, [], false, rfl, rfl, rfl, Nat.zero_le _, Nat.zero_le _, fun h => by omega, Nat.zero_le _, Two3.out, Hkw3.out⟩
  case round =>
    obtain ⟨p, at_, j, L, d, rfl, rfl, rfl, hat, hL, hend, hj, htwo, hkr⟩ := hrel
    have Hend := Lib.hid hend
    have Htwo := Lib.hid htwo
    have Hkr := Lib.hid hkr
    clear hend htwo hkr
    by_cases hgo : at_ < n ∨ j < nc
    · go_upto_region 9 with fail
      go_cut [38] from 29 to 38 (fun cv wx => cv = .bool true ∧ wx = wr)
      case first =>
        by_cases hg1 : at_ < n
        · have hg1' : (at_ : Int) < n := by omega
          go_wp2_with fail
          go_meet
          case rel => exact ⟨rfl, rfl⟩
        · have hg1' : ¬ (at_ : Int) < n := by omega
          have hg2' : (j : Int) < nc := by omega
          go_wp2_with fail
          go_meet
          case rel => exact ⟨rfl, rfl⟩
      case rest =>
        obtain ⟨rfl, hwc⟩ := hcut
        subst wc
        have hwr : IntKind.i64.wrap ((n : Int) - at_) = ((n - at_ : Nat) : Int) := by rw [IntWalk.i64_in _ (by omega)]; omega
        obtain ⟨rest, hrest⟩ : ∃ rest, rest = n - at_ := ⟨_, rfl⟩
        rw [← hrest] at hwr
        have Hrest := Lib.hid hrest
        clear hrest
        go_upto_region 12 with fail
        go_cut [57] from 45 to 57 (fun cv wx => ∃ c : Bool, cv = .bool c ∧ (c = true ↔ (j < nc ∧ (Cs.getD j 0).toNat < rest)) ∧ wx = wr)
        case first =>
          by_cases hjc : j < nc
          · obtain ⟨b1, o1, rfl, hlt1, hcell1⟩ := Hpl1.out j hjc
            have hcr := (Hkr.out.cell (p := ⟨b1, o1 + j, none⟩) hlt1 (fun h => h)).trans hcell1
            obtain ⟨x, hx⟩ : ∃ x, x = (Cs.getD j 0).toNat := ⟨_, rfl⟩
            rw [← hx] at hcr
            have hx256 : x < 256 := by rw [hx]; exact (Cs.getD j 0).toNat_lt
            have hjc' : (j : Int) < nc := by omega
            have hj0 : (0 : Int) ≤ j ∧ (j : Int) < nc := by omega
            by_cases hxr : x < rest
            · have hxr' : (x : Int) < rest := by omega
              have hiff : (true = true ↔ (j < nc ∧ (Cs.getD j 0).toNat < rest)) := ⟨fun _ => ⟨hjc, by rw [← hx]; exact hxr⟩, fun _ => rfl⟩
              clear hcell1
              have Hx := Lib.hid hx
              have Hiff := Lib.hid hiff
              clear hx hiff
              go_wp2_with fail
              go_meet
              case rel => exact ⟨true, rfl, by simpa using Hiff.out, rfl⟩
            · have hxr' : ¬ (x : Int) < rest := by omega
              have hiff : (false = true ↔ (j < nc ∧ (Cs.getD j 0).toNat < rest)) := ⟨fun h => (by cases h), fun h => absurd h.2 (by rw [← hx]; exact hxr)⟩
              clear hcell1
              have Hx := Lib.hid hx
              have Hiff := Lib.hid hiff
              clear hx hiff
              go_wp2_with fail
              go_meet
              case rel => exact ⟨false, rfl, Hiff.out, rfl⟩
          · have hjc' : ¬ (j : Int) < nc := by omega
            have hiff : (false = true ↔ (j < nc ∧ (Cs.getD j 0).toNat < rest)) := ⟨fun h => (by cases h), fun h => absurd h.1 hjc⟩
            have Hiff := Lib.hid hiff
            clear hiff
            go_wp2_with fail
            go_meet
            case rel => exact ⟨false, rfl, Hiff.out, rfl⟩
        case rest =>
        obtain ⟨c, rfl, hc, hwc⟩ := hcut
        subst wc
        go_upto_if 57 with fail
        go_cut [11] from 58 to 62 (fun nv wx => nv = .int .i64 (pieceN Cs j rest : Nat) ∧ wx = wr)
        case first =>
          cases c
          · have hpc : pieceN Cs j rest = rest := by rw [pieceN, if_neg (by rw [← Hnc.out]; exact fun h => absurd (hc.2 h) (by simp))]
            have Hpc := Lib.hid hpc
            have Hc := Lib.hid hc
            clear hpc hc
            go_wp2_with fail
            go_meet
            case rel => exact ⟨by rw [Hpc.out], rfl⟩
          · have hjc := hc.1 rfl
            obtain ⟨b1, o1, rfl, hlt1, hcell1⟩ := Hpl1.out j hjc.1
            have hcr := (Hkr.out.cell (p := ⟨b1, o1 + j, none⟩) hlt1 (fun h => h)).trans hcell1
            have hpc : pieceN Cs j rest = (Cs.getD j 0).toNat := by rw [pieceN, if_pos ⟨by rw [← Hnc.out]; exact hjc.1, hjc.2⟩]
            obtain ⟨x, hx⟩ : ∃ x, x = (Cs.getD j 0).toNat := ⟨_, rfl⟩
            rw [← hx] at hcr hpc
            have hx256 : x < 256 := by rw [hx]; exact (Cs.getD j 0).toNat_lt
            have hj0 : (0 : Int) ≤ j ∧ (j : Int) < nc := by omega
            clear hcell1
            have Hx := Lib.hid hx
            have Hc := Lib.hid hc
            have Hpc := Lib.hid hpc
            have Hjc := Lib.hid hjc
            clear hx hc hpc hjc
            go_wp2_with fail
            go_meet
            case rel => exact ⟨by rw [Hpc.out], rfl⟩
        case rest =>
          obtain ⟨rfl, hwc⟩ := hcut
          subst wc
          clear hc
          have hple := piece_le Cs j rest
          have hpout : nc ≤ j → pieceN Cs j rest = rest := fun h => piece_out _ _ _ (by rw [← Hnc.out]; exact h)
          obtain ⟨pn, hpn⟩ : ∃ pn, pn = pieceN Cs j rest := ⟨_, rfl⟩
          rw [← hpn] at hple hpout ⊢
          have Hpn := Lib.hid hpn
          have Hpout := Lib.hid hpout
          clear hpn hpout
          go_upto_if 66 with fail
          go_cut [12] from 66 to 71 (fun kv wx => kv = .int .i64 (mostN Ms j : Nat) ∧ wx = wr)
          case first =>
            by_cases hjc : j < nm
            · obtain ⟨b1, o1, rfl, hlt1, hcell1⟩ := Hpl2.out j hjc
              have hcr := (Hkr.out.cell (p := ⟨b1, o1 + j, none⟩) hlt1 (fun h => h)).trans hcell1
              have hpc : mostN Ms j = Ms.getD j 0 := by rw [mostN, if_pos (by rw [← Hnm.out]; exact hjc)]
              have hx65 := Hmb.out j
              rw [hpc] at hx65
              obtain ⟨x, hx⟩ : ∃ x, x = Ms.getD j 0 := ⟨_, rfl⟩
              rw [← hx] at hcr hpc hx65
              have hjc' : (j : Int) < nm := by omega
              have hj0 : (0 : Int) ≤ j ∧ (j : Int) < nm := by omega
              clear hcell1
              have Hx := Lib.hid hx
              have Hpc := Lib.hid hpc
              clear hx hpc
              go_wp2_with fail
              go_meet
              case rel => exact ⟨by rw [Hpc.out], rfl⟩
            · have hjc' : ¬ (j : Int) < nm := by omega
              have hpc : mostN Ms j = 8192 := by rw [mostN, if_neg (by rw [← Hnm.out]; exact hjc)]
              have Hpc := Lib.hid hpc
              clear hpc
              go_wp2_with fail
              go_meet
              case rel => exact ⟨by rw [Hpc.out]; rfl, rfl⟩
          case rest =>
            obtain ⟨rfl, hwc⟩ := hcut
            subst wc
            have hm65 := Hmb.out j
            obtain ⟨m, hm⟩ : ∃ m, m = mostN Ms j := ⟨_, rfl⟩
            rw [← hm] at hm65 ⊢
            have Hm := Lib.hid hm
            clear hm
            go_upto_if 74 with fail
            go_cut [7, 13] from 74 to 82 (fun sv _ wx => ∃ p', sv = .pointer (some ⟨p', 0, none⟩) ∧ Two w.heap.size wx p' w2.heap.size L d ∧ Keeps nowhere w wx)
            case first =>
              by_cases hj5 : j % 5 = 4
              · have hq : (((j : Int) % 5) == 4) = true := by simp; omega
                obtain ⟨⟨gp, gq, hsp, hsq, hgp, hgq⟩, hne, hnp, hnq⟩ := Htwo.out
                have hpl := hsp.lt.1
                have hql := hsq.lt.1
                have Hsp := Lib.hid hsp
                have Hsq := Lib.hid hsq
                have Hgp := Lib.hid hgp
                have Hgq := Lib.hid hgq
                clear hsp hsq hgp hgq
                go_wp2_with fail
                refine (f_twin p gp L d _ Hsp.out (by omega)).mono ?_
                rintro e w3 ⟨p', gp', rfl, hsp', hp', hgp', hk3⟩
                have hsp3 := Hsp.out.keep0 hk3
                have hsq3 := Hsq.out.keep0 hk3
                have hr9 : Rd (w3.alloc (.cells #[.int .u8 9, .int .u8 9] 5)) (.slice (some ⟨w3.heap.size, 0, none⟩) 2 2) (some w3.heap.size) (([9, 9] : List UInt8).map bv) :=
                  Rd.full (heap_alloc_new w3 (.cells #[.int .u8 9, .int .u8 9] 5)) (by simp [maxLen])
                have hk4 := (Keeps.refl nowhere w3).alloc (.cells #[.int .u8 9, .int .u8 9] 5)
                have hsp4 := hsp3.keep0 hk4
                have hsq4 := hsq3.keep0 hk4
                have hsp4' := hsp'.keep0 hk4
                have hkr4 := (Hkr.out.more hk3).more hk4
                have Hsp' := Lib.hid hsp'
                have Hgp' := Lib.hid hgp'
                have Hk3 := Lib.hid hk3
                have Hsp3 := Lib.hid hsp3
                have Hsq3 := Lib.hid hsq3
                have Hr9 := Lib.hid hr9
                have Hk4 := Lib.hid hk4
                have Hsp4 := Lib.hid hsp4
                have Hsq4 := Lib.hid hsq4
                have Hsp4' := Lib.hid hsp4'
                have Hkr4 := Lib.hid hkr4
                clear hsp' hgp' hk3 hsp3 hsq3 hr9 hk4 hsp4 hsq4 hsp4' hkr4
                go_wp2_with fail
                refine (feed_any p gp _ L [9, 9] d 1 _ _ Hsp4.out Hr9.out (by omega) (by simp; omega)).mono ?_
                rintro e w5 ⟨v5, g5, rfl, -, -, -, hk5⟩
                have htwo5 : Two w.heap.size w5 p' w2.heap.size L d := by
                  refine ⟨⟨gp', gq, Hsp4'.out.keep hk5 (fun e => by unfold only at e; omega) (fun b hb e => by have := Hgp'.out b hb; unfold only at e; omega), Hsq4.out.keep hk5 (fun e => hne e.symm) (fun b hb e => Hgq.out (by rw [hb]; exact congrArg some e)), fun e => by have := Hgp'.out _ e; omega, fun e => ?_⟩, by omega, by omega, hnq⟩
                  have := Hsq.out.lt.2 p' e
                  omega
                have hkr5 := Hkr4.out.fresh hk5 hnp
                clear hk5
                have Htwo5 := Lib.hid htwo5
                have Hkr5 := Lib.hid hkr5
                clear htwo5 hkr5
                go_wp2_with fail
                go_meet
                case rel => exact ⟨p', rfl, Htwo5.out, Hkr5.out⟩
              · have hq : (((j : Int) % 5) == 4) = false := by simp; omega
                go_wp2_with fail
                go_meet
                case rel => exact ⟨p, rfl, Htwo.out, Hkr.out⟩
            case rest =>
              obtain ⟨p', rfl, htwo2, hkr2⟩ := hcut
              clear Htwo Hkr
              obtain ⟨wb, hwb⟩ : ∃ wb, wb = wc := ⟨_, rfl⟩
              subst hwb
              have Htwo2 := Lib.hid htwo2
              have Hkr2 := Lib.hid hkr2
              clear htwo2 hkr2
              obtain ⟨r, hrd⟩ : ∃ r, r = feedS m L d ((B.drop at_).take pn) := ⟨_, rfl⟩
              obtain ⟨X, L', d'⟩ := r
              have hle := feedS_le m L d ((B.drop at_).take pn)
              rw [← hrd] at hle
              simp only [List.length_take, List.length_drop, ← Hn.out] at hle
              have hrl := Hrest.out
              have hL2 : L'.length ≤ at_ + pn := by omega
              have hwa : IntKind.i64.wrap ((at_ : Int) + pn) = (at_ : Int) + pn := IntWalk.i64_in _ (by omega)
              clear hrl
              have Hrd := Lib.hid hrd
              have Hle := Lib.hid hle
              clear hrd hle
              go_upto_region 23 with fail
              obtain ⟨⟨gp, gq, hsp, hsq, hgp, hgq⟩, hne, hnp, hnq⟩ := Htwo2.out
              have hg0 := Hr0.out.lt
              have hr0b := Hr0.out.keep Hkr2.out (fun _ _ h => h)
              have hsl := hr0b.mid at_ pn (by rw [List.length_map, ← Hn.out]; have := Hrest.out; omega)
              rw [← List.map_drop, ← List.map_take] at hsl
              have hs1 : (0 : Int) ≤ at_ ∧ (at_ : Int) ≤ (at_ : Int) + pn ∧ (at_ : Int) + pn ≤ c0 := by have := Hrest.out; omega
              have hs2 : ((at_ : Int) + pn).toNat - at_ = pn := by omega
              have hq1 := hsq.lt.1
              have hlen : L.length + ((B.drop at_).take pn).length ≤ 1099511627776 := by have := Hrest.out; rw [List.length_take, List.length_drop]; omega
              have Hlen := Lib.hid hlen
              have Hsp := Lib.hid hsp
              have Hsq := Lib.hid hsq
              have Hgp := Lib.hid hgp
              have Hgq := Lib.hid hgq
              have Hg0 := Lib.hid hg0
              have Hr0b := Lib.hid hr0b
              have Hsl := Lib.hid hsl
              clear hlen hsp hsq hgp hgq hg0 hr0b hsl
              go_cut [14] from 83 to 91 (fun xv wx => Heap wx wb.heap.size xv X ∧ (∃ g4, StAt 84 wx p' g4 L' d' ∧ From gp wb.heap.size g4) ∧ Keeps (only p') wb wx)
              case first =>
                by_cases hca : c0 = at_
                · have hslp := Hsl.out
                  rw [if_pos hca, show c0 - at_ = 0 from by omega] at hslp
                  have hp0 : pn = 0 := by have := Hrest.out; omega
                  subst hca
                  have Hslp := Lib.hid hslp
                  have Hp0 := Lib.hid hp0
                  clear hslp hp0
                  go_wp2_with fail
                  refine (feed_any p' gp _ L _ d m _ _ Hsp.out Hslp.out hm65 Hlen.out).mono ?_
                  rw [← Hrd.out]
                  rintro e w4 ⟨vx, g4, rfl, hhx, hsp4, hf4, hk4⟩
                  have Hhx := Lib.hid hhx
                  have Hsp4 := Lib.hid hsp4
                  have Hf4 := Lib.hid hf4
                  have Hk4 := Lib.hid hk4
                  clear hhx hsp4 hf4 hk4
                  go_wp2_with fail
                  go_meet
                  case rel => exact ⟨Hhx.out, ⟨g4, Hsp4.out, Hf4.out⟩, Hk4.out⟩
                · have hsl := Hsl.out
                  rw [if_neg hca] at hsl
                  simp only [Nat.mul_one] at hsl
                  have Hsl := Lib.hid hsl
                  clear hsl
                  go_wp2_with fail
                  refine (feed_any p' gp _ L _ d m _ _ Hsp.out Hsl.out hm65 Hlen.out).mono ?_
                  rw [← Hrd.out]
                  rintro e w4 ⟨vx, g4, rfl, hhx, hsp4, hf4, hk4⟩
                  have Hhx := Lib.hid hhx
                  have Hsp4 := Lib.hid hsp4
                  have Hf4 := Lib.hid hf4
                  have Hk4 := Lib.hid hk4
                  clear hhx hsp4 hf4 hk4
                  go_wp2_with fail
                  go_meet
                  case rel => exact ⟨Hhx.out, ⟨g4, Hsp4.out, Hf4.out⟩, Hk4.out⟩
              case rest =>
              obtain ⟨hhx, ⟨g4, hsp4, hf4⟩, hk4⟩ := hcut
              obtain ⟨w4, hw4⟩ : ∃ w4, w4 = wc := ⟨_, rfl⟩
              subst hw4
              have hsl4 := Hsl.out.keep hk4 (fun b hb e => by have := Hg0.out b hb; unfold only at e; omega)
              have hsq4 := Hsq.out.keep hk4 (fun e => hne e.symm) (fun b hb e => Hgq.out (by rw [hb]; exact congrArg some e))
              have hq4 := hsq4.lt.1
              have Hhx := Lib.hid hhx
              have Hsp4 := Lib.hid hsp4
              have Hf4 := Lib.hid hf4
              have Hk4 := Lib.hid hk4
              have Hsl4 := Lib.hid hsl4
              have Hsq4 := Lib.hid hsq4
              clear hhx hsp4 hf4 hk4 hsl4 hsq4
              go_upto_region 24 with fail
              go_cut [15] from 92 to 100 (fun yv wx => (Heap wx 0 u14 X ∧ Heap wx 0 yv X) ∧ Two w.heap.size wx p' w2.heap.size L' d' ∧ Keeps nowhere w wx)
              case first =>
                by_cases hca : c0 = at_
                · have hslp := Hsl4.out
                  rw [if_pos hca, show c0 - at_ = 0 from by omega] at hslp
                  have hp0 : pn = 0 := by have := Hrest.out; omega
                  subst hca
                  have Hslp := Lib.hid hslp
                  have Hp0 := Lib.hid hp0
                  clear hslp hp0
                  go_wp2_with fail
                  refine (rfeed_any w2.heap.size gq _ L _ d m _ _ Hsq4.out Hslp.out hm65 Hlen.out).mono ?_
                  rw [← Hrd.out]
                  rintro e w5 ⟨vy, g5, rfl, hhy, hsq5, hf5, hk5⟩
                  have htwo5 := Htwo2.out.feed Hsq.out Hgp.out Hgq.out Hsp4.out Hf4.out Hk4.out hsq5 hf5 hk5
                  have hkr5 : Keeps nowhere w w5 := (Hkr2.out.fresh Hk4.out hnp).fresh hk5 hnq
                  have hhx5 := (Hhx.out.keep hk5 (fun b hb e => by unfold only at e; omega)).mono (Nat.zero_le _)
                  have hhy5 := hhy.mono (Nat.zero_le _)
                  clear hhy hsq5 hf5 hk5
                  have Htwo5 := Lib.hid htwo5
                  have Hkr5 := Lib.hid hkr5
                  have Hhx5 := Lib.hid hhx5
                  have Hhy5 := Lib.hid hhy5
                  clear htwo5 hkr5 hhx5 hhy5
                  go_wp2_with fail
                  go_meet
                  case rel => exact ⟨⟨Hhx5.out, Hhy5.out⟩, Htwo5.out, Hkr5.out⟩
                · have hsl := Hsl4.out
                  rw [if_neg hca] at hsl
                  simp only [Nat.mul_one] at hsl
                  have Hsl := Lib.hid hsl
                  clear hsl
                  go_wp2_with fail
                  refine (rfeed_any w2.heap.size gq _ L _ d m _ _ Hsq4.out Hsl.out hm65 Hlen.out).mono ?_
                  rw [← Hrd.out]
                  rintro e w5 ⟨vy, g5, rfl, hhy, hsq5, hf5, hk5⟩
                  have htwo5 := Htwo2.out.feed Hsq.out Hgp.out Hgq.out Hsp4.out Hf4.out Hk4.out hsq5 hf5 hk5
                  have hkr5 : Keeps nowhere w w5 := (Hkr2.out.fresh Hk4.out hnp).fresh hk5 hnq
                  have hhx5 := (Hhx.out.keep hk5 (fun b hb e => by unfold only at e; omega)).mono (Nat.zero_le _)
                  have hhy5 := hhy.mono (Nat.zero_le _)
                  clear hhy hsq5 hf5 hk5
                  have Htwo5 := Lib.hid htwo5
                  have Hkr5 := Lib.hid hkr5
                  have Hhx5 := Lib.hid hhx5
                  have Hhy5 := Lib.hid hhy5
                  clear htwo5 hkr5 hhx5 hhy5
                  go_wp2_with fail
                  go_meet
                  case rel => exact ⟨⟨Hhx5.out, Hhy5.out⟩, Htwo5.out, Hkr5.out⟩
              case rest =>
              obtain ⟨⟨hx, hy⟩, htwo3, hkr3⟩ := hcut
              clear Hsl Hsl4 Hsp Hsq Hgp Hgq Hr0b Hhx Hsp4 Hf4 Hk4 Hsq4 Htwo2 Hkr2 hs1 hs2
              obtain ⟨wx, hwx⟩ : ∃ wx, wx = wc := ⟨_, rfl⟩
              subst hwx
              have hwd := (Keeps.refl nowhere wx).drew
              obtain ⟨⟨gp5, gq5, hsp5, hsq5, hgp5, hgq5⟩, hne5, hnp5, hnq5⟩ := htwo3
              have hspd := hsp5.keep0 hwd
              have hsqd := hsq5.keep0 hwd
              obtain ⟨us, hus1, hus2⟩ := (hx.keep hwd (fun _ _ h => h)).rd
              obtain ⟨vs, hvs1, hvs2⟩ := (hy.keep hwd (fun _ _ h => h)).rd
              have htx := texts_any _ _ _ _ us vs X X _ _ wx.drew hus1 hus2 hvs1 hvs2
              rw [show decide (X = X) = true from by simp] at htx
              have hsqf := hsqd
              obtain ⟨vq, hbq, hrq, -⟩ := hsqf
              obtain ⟨Aq, cq, rfl, -⟩ := hrq.form
              rw [List.length_map] at hbq
              have q1 : ∀ w', Keeps nowhere wx.drew w' → w'.cell? ⟨w2.heap.size, 1, none⟩ = some (.bool d') := fun w' hs => by simpa using (hbq.keep hs (fun h => h)).cell 1
              have q0 : ∀ w', Keeps nowhere wx.drew w' → w'.cell? ⟨w2.heap.size, 0, none⟩ = some (.slice Aq L'.length cq) := fun w' hs => by simpa using (hbq.keep hs (fun h => h)).cell 0
              have hdd : (d' != d') = false := by simp
              have hll : ((L'.length : Int) != (L'.length : Int)) = false := by simp
              have Hx := Lib.hid hx
              have Hy := Lib.hid hy
              have Hkr3 := Lib.hid hkr3
              have Hwd := Lib.hid hwd
              have Hsp5 := Lib.hid hsp5
              have Hsq5 := Lib.hid hsq5
              have Hgp5 := Lib.hid hgp5
              have Hgq5 := Lib.hid hgq5
              have Hspd := Lib.hid hspd
              have Hsqd := Lib.hid hsqd
              have Hus1 := Lib.hid hus1
              have Hus2 := Lib.hid hus2
              have Hvs1 := Lib.hid hvs1
              have Hvs2 := Lib.hid hvs2
              have Htx := Lib.hid htx
              have Hbq := Lib.hid hbq
              have Hrq := Lib.hid hrq
              have Q0 := Lib.hid q0
              have Q1 := Lib.hid q1
              clear hx hy hkr3 hwd hsp5 hsq5 hgp5 hgq5 hspd hsqd hus1 hus2 hvs1 hvs2 htx hbq hrq q0 q1
              go_wp2_with fail
              refine wp_region_script [0, 5, 7, 8, 9, 10, 11, 12, 13, 14, 16, 17, 18, 19, 20, 21, 22] [10, 19] [.ps [0], .es [1, 2, 3, 4] false, .ps [5, 7, 8, 9], .fs [10], .es [6] true, .ps [11, 12, 13, 14, 16, 17, 18], .fs [19], .ps [20], .es [15] true, .ps [21, 22]] (Keeps nowhere wx.drew) rfl (by kernel_rfl) ?_
              refine wpS_ps rfl fun K hK => ?_
              simp only [List.map_cons, List.map_nil, Option.getD_some, List.getElem?_toArray, List.getElem?_cons_zero, List.getElem?_cons_succ]
              iterate 1 (first | (apply quietO_cons _ rfl; (intro w' _; go_simp; rfl)) | apply quietO_skip rfl)
              refine hK _ ?_
              clear hK K
              simp only [Act.put, List.setIfInBounds_toArray, List.set_cons_zero, List.set_cons_succ]
              refine wpS_es rfl fun K hK => ?_
              have HK := Lib.hid hK
              clear hK
              simp only [List.map_cons, List.map_nil, Option.getD_some, List.getElem?_toArray, List.getElem?_cons_zero, List.getElem?_cons_succ]
              go_wp2_with fail
              refine Htx.out.mono ?_
              rintro e w7 ⟨rfl, hk7⟩
              have hd7 := f_dead _ _ _ _ _ (Hspd.out.keep0 hk7)
              have hl7 := f_held _ _ _ _ _ (Hspd.out.keep0 hk7)
              have q1 := Q1.out
              have q0 := Q0.out
              have hkr7 := (Hkr3.out.more Hwd.out).more hk7
              have Hk7 := Lib.hid hk7
              have Hd7 := Lib.hid hd7
              have Hl7 := Lib.hid hl7
              have Hkr7 := Lib.hid hkr7
              clear hk7 hd7 hl7 hkr7
              go_wp2_with fail
              refine HK.out _ _ (fun h => by cases h) ?_
              clear HK K
              refine wpS_ps rfl fun K hK => ?_
              simp only [List.map_cons, List.map_nil, Option.getD_some, List.getElem?_toArray, List.getElem?_cons_zero, List.getElem?_cons_succ]
              iterate 4 (first | (apply quietO_cons _ rfl; (intro w' _; go_simp; rfl)) | apply quietO_skip rfl)
              refine hK _ ?_
              clear hK K
              simp only [Act.put, List.setIfInBounds_toArray, List.set_cons_zero, List.set_cons_succ]
              refine wpS_fs rfl (Hk7.out) fun K hK => ?_
              simp only [List.map_cons, List.map_nil, Option.getD_some, List.getElem?_toArray, List.getElem?_cons_zero, List.getElem?_cons_succ]
              iterate 1 (first | (apply quietO_cons _ rfl; (intro w' hs; have c_0 := q1 w' hs; go_simp; rfl)) | apply quietO_skip rfl)
              refine hK _ ?_
              clear hK K
              simp only [Act.put, List.setIfInBounds_toArray, List.set_cons_zero, List.set_cons_succ]
              refine wpS_es rfl fun K hK => ?_
              have HK := Lib.hid hK
              clear hK
              simp only [List.map_cons, List.map_nil, Option.getD_some, List.getElem?_toArray, List.getElem?_cons_zero, List.getElem?_cons_succ]
              go_wp2_with fail
              refine Hd7.out.mono ?_
              rintro e w8 ⟨rfl, rfl⟩
              go_wp2_with fail
              refine HK.out _ _ (fun _ => Hk7.out) ?_
              clear HK K
              refine wpS_ps rfl fun K hK => ?_
              simp only [List.map_cons, List.map_nil, Option.getD_some, List.getElem?_toArray, List.getElem?_cons_zero, List.getElem?_cons_succ]
              iterate 7 (first | (apply quietO_cons _ rfl; (intro w' _; go_simp; rfl)) | apply quietO_skip rfl)
              refine hK _ ?_
              clear hK K
              simp only [Act.put, List.setIfInBounds_toArray, List.set_cons_zero, List.set_cons_succ]
              refine wpS_fs rfl (Hk7.out) fun K hK => ?_
              simp only [List.map_cons, List.map_nil, Option.getD_some, List.getElem?_toArray, List.getElem?_cons_zero, List.getElem?_cons_succ]
              iterate 1 (first | (apply quietO_cons _ rfl; (intro w' hs; have c_0 := q0 w' hs; go_simp; rfl)) | apply quietO_skip rfl)
              refine hK _ ?_
              clear hK K
              simp only [Act.put, List.setIfInBounds_toArray, List.set_cons_zero, List.set_cons_succ]
              refine wpS_ps rfl fun K hK => ?_
              simp only [List.map_cons, List.map_nil, Option.getD_some, List.getElem?_toArray, List.getElem?_cons_zero, List.getElem?_cons_succ]
              iterate 1 (first | (apply quietO_cons _ rfl; (intro w' _; go_simp; rfl)) | apply quietO_skip rfl)
              refine hK _ ?_
              clear hK K
              simp only [Act.put, List.setIfInBounds_toArray, List.set_cons_zero, List.set_cons_succ]
              refine wpS_es rfl fun K hK => ?_
              have HK := Lib.hid hK
              clear hK
              simp only [List.map_cons, List.map_nil, Option.getD_some, List.getElem?_toArray, List.getElem?_cons_zero, List.getElem?_cons_succ]
              go_wp2_with fail
              refine Hl7.out.mono ?_
              rintro e w8 ⟨rfl, rfl⟩
              go_wp2_with fail
              refine HK.out _ _ (fun _ => Hk7.out) ?_
              clear HK K
              refine wpS_ps rfl fun K hK => ?_
              simp only [List.map_cons, List.map_nil, Option.getD_some, List.getElem?_toArray, List.getElem?_cons_zero, List.getElem?_cons_succ]
              iterate 2 (first | (apply quietO_cons _ rfl; (intro w' _; go_simp; rfl)) | apply quietO_skip rfl)
              refine hK _ ?_
              clear hK K
              simp only [Act.put, List.setIfInBounds_toArray, List.set_cons_zero, List.set_cons_succ]
              clear q0 q1
              refine wpS_nil ?_
              go_wp2_with fail
              go_roundw
              case rel =>
                have hrl := Hrest.out
                refine ⟨p', at_ + pn, j + 1, L', d', rfl, by go_num, by go_num, by omega, hL2, fun h => ?_, ?_, ⟨⟨gp5, gq5, Hsp5.out.keep0 (Hwd.out.more Hk7.out), Hsq5.out.keep0 (Hwd.out.more Hk7.out), Hgp5.out, Hgq5.out⟩, hne5, hnp5, hnq5⟩, Hkr7.out⟩
                · have := Hpout.out (by omega)
                  omega
                · by_cases h : nc < j
                  · have := Hend.out h
                    omega
                  · omega
              case measure =>
                have hjn : j ≤ nc := by
                  by_cases h : nc < j
                  · have := Hend.out h
                    omega
                  · omega
                simp [intOf]; omega
    · have hg1 : ¬ (at_ : Int) < n := by omega
      have hg2 : ¬ (j : Int) < nc := by omega
      go_wp2_with fail
      go_ret
      exact ⟨rfl, Hkr.out⟩
end Go.Proofs.Ytblmbchjafffbaa
