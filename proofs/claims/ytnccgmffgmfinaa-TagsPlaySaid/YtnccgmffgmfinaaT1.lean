/-
  tag: slices.DeleteFunc at tags and waits; Clone, Clip at tags. (wip/gen_t1.py wrote it.)
-/
import Derived.Test.YtnccgmffgmfinaaT0
import Derived.Deep.RegionLaw
namespace Go.Proofs.Ytnccgmffgmfinaa
open Go.RowKit Go.Shelf

def RetDelR {α : Type} (R : RecT α) (b cap : Nat) (l : List α) (w : World) : Ending → World → Prop := fun e w' => e = .returned (.slice (some ⟨b, 0, none⟩) l.length cap) ∧ R.Row w' (.slice (some ⟨b, 0, none⟩) l.length cap) l ∧ Keeps (only b) w w'
theorem cap_le {α : Type} {R : RecT α} {w : World} {A : Option Addr} {n cap : Nat} {l : List α} (hr : R.Row w (.slice A n cap) l) : n = l.length ∧ l.length ≤ cap ∧ cap ≤ maxLen := by
  obtain ⟨A', c, hv, h1, h2, _⟩ := hr.rd
  injection hv with _ hn hc
  subst hc
  exact ⟨hn, h1, h2⟩

set_option maxRecDepth 8000 in
set_option maxHeartbeats 2000000 in
theorem u_delfunc (g : Nat) (lb : Array Value) (p : Nat → Bool) (eg : ∀ args w, (callFunc g args).run Try.prog w = .ok (.enter g args) w) (w : World) (b cap : Nat) (l : List (Nat))
    (hr : recU.Row w (.slice (some ⟨b, 0, none⟩) l.length cap) l) (hl : l.length ≤ 1000000) (hp : PredR uU g lb p b w) :
    Calls Try.prog 51 #[.slice (some ⟨b, 0, none⟩) l.length cap, .func (.func g) #[] lb] w (RetDelR recU b cap (l.filter fun x => !p x) w) := by
  have hI := u_index g lb p eg _ _ l w b hr.rd (by omega) hp
  have hcap := (cap_le hr).2.1
  rcases idxR_cases p l with ⟨hix, hno⟩ | ⟨i, hi, hix, hpi, hpn⟩
  · rw [hix] at hI
    have hfa := filterR_all hno
    have HI := Lib.hid hI
    have Hr := Lib.hid hr
    have Hfa := Lib.hid hfa
    have Hno := Lib.hid hno
    clear hI hr hfa hno
    go_enter Try.func51, Try.ntmps51
    go_wp2_with fail
    refine HI.out.mono ?_
    rintro e w1 ⟨rfl, hk⟩
    have hr1 := Hr.out.keep hk (fun _ _ h => h)
    have Hr1 := Lib.hid hr1
    have Hk := Lib.hid hk
    clear hr1 hk
    go_wp2_with fail
    go_ret
    exact ⟨by rw [Hfa.out]; rfl, by rw [Hfa.out]; exact Hr1.out, Hk.out.mono (fun _ _ h => h.elim)⟩
  · rw [hix] at hI
    have hs0 := SiftR.start hi hpi hpn
    have hi1 : IntKind.i64.wrap ((i : Int) + 1) = (i + 1 : Nat) := by rw [show (i : Int) + 1 = ((i + 1 : Nat) : Int) by omega]; exact IntWalk.i64_in _ (by omega)
    have hine : ((i : Int) == -1) = false := by simp
    have hine2 : ¬ (i : Int) = -1 := by omega
    obtain ⟨L, hL⟩ : ∃ L, L = l.length := ⟨_, rfl⟩
    have HI := Lib.hid hI
    have Hp := Lib.hid hp
    have Hs0 := Lib.hid hs0
    have Hpi := Lib.hid hpi
    have Hpn := Lib.hid hpn
    clear hI hp hs0 hpi hpn
    rw [← hL] at hcap hl ⊢
    rw [← hL] at hr
    have HI' := HI.out
    rw [← hL] at HI'
    clear HI
    have hrL := hr
    have HL := Lib.hid hL
    have HrL := Lib.hid hrL
    clear hL hrL
    clear hr
    go_enter Try.func51, Try.ntmps51
    go_wp2_with fail
    refine HI'.mono ?_
    rintro e w1 ⟨rfl, hk⟩
    have hr1 := HrL.out.keep hk (fun _ _ h => h)
    have Hr1 := Lib.hid hr1
    have Hk := Lib.hid hk
    clear hr1 hk
    clear HI'
    go_wp2_with fail
    go_loopw [5, 6] (fun iv jv wr => ∃ (i j : Nat) (l' : List (Nat)), iv = .int .i64 i ∧ jv = .int .i64 j ∧ SiftR p l l' i j ∧ recU.Row wr (.slice (some ⟨b, 0, none⟩) L cap) l' ∧ Keeps (only b) w wr) (fun _ jv _ => L - (intOf jv).toNat)
    case atStart => exact ⟨i, i + 1, l, rfl, by simp, Hs0.out, Hr1.out, Hk.out.mono (fun _ _ h => h.elim)⟩
    case round =>
      obtain ⟨i, j, l', rfl, rfl, hs, hrow, hkr⟩ := hrel
      have hsl := hs.len
      have hsj := hs.jl
      have hsi := hs.ij
      rw [← HL.out] at hsl hsj
      by_cases hlt : j < L
      · have hjl : j < l.length := by rw [← HL.out]; exact hlt
        have hltI : (j : Int) < L := by omega
        have hj0 : (0 : Int) ≤ (j : Int) := by omega
        have hi0 : (0 : Int) ≤ (i : Int) := by omega
        have hiI : (i : Int) < L := by omega
        have hj1 : IntKind.i64.wrap ((j : Int) + 1) = j + 1 := IntWalk.i64_in _ (by omega)
        have hi11 : IntKind.i64.wrap ((i : Int) + 1) = i + 1 := IntWalk.i64_in _ (by omega)
        obtain ⟨t, ht⟩ : ∃ t, t = l[j] := ⟨_, rfl⟩
        have hget := hs.get hjl
        rw [← ht] at hget
        have d0 := atU (hrow.at_ hget)
        rw [show j * recU.n = j from Nat.mul_one j] at d0
        have hk1 := hkr
        have hrow1 := hrow
        have hcall := Hp.out _ t hk1
        unfold uU at hcall
        cases hpt : p t with
        | true =>
          rw [hpt] at hcall
          have hs2 := hs.skip hjl (by rw [← ht]; exact hpt)
          have Hs := Lib.hid hs
          have Hk1 := Lib.hid hk1
          have Hrow1 := Lib.hid hrow1
          have Hcall := Lib.hid hcall
          have Hs2 := Lib.hid hs2
          have Ht := Lib.hid ht
          have Hget := Lib.hid hget
          have Hrow := Lib.hid hrow
          have Hkr := Lib.hid hkr
          clear hs hk1 hrow1 hcall hs2 ht hget hrow hkr
          go_wp2_with fail
          refine Hcall.out.mono ?_
          rintro e w2 ⟨rfl, hk2⟩
          have hk3 := Hk1.out.trans hk2 (fun _ _ h => h.elim)
          have hrow2 := Hrow1.out.keep hk2 (fun _ _ h => h)
          clear hk2
          have Hk3 := Lib.hid hk3
          have Hrow2 := Lib.hid hrow2
          clear hk3 hrow2
          go_wp2_with fail
          go_roundw
          case rel => exact ⟨i, j + 1, l', rfl, by simp, Hs2.out, Hrow2.out, Hk3.out⟩
          case measure => simp [intOf]; omega
        | false =>
          rw [hpt] at hcall
          have hs2 := hs.keep hjl (by rw [← ht]; exact hpt)
          rw [← ht] at hs2
          have Hs := Lib.hid hs
          have Hk1 := Lib.hid hk1
          have Hrow1 := Lib.hid hrow1
          have Hcall := Lib.hid hcall
          have Hs2 := Lib.hid hs2
          have Ht := Lib.hid ht
          have Hget := Lib.hid hget
          have Hrow := Lib.hid hrow
          have Hkr := Lib.hid hkr
          clear hs hk1 hrow1 hcall hs2 ht hget hrow hkr
          go_wp2_with fail
          refine Hcall.out.mono ?_
          rintro e w2 ⟨rfl, hk2⟩
          have hk3 := Hk1.out.trans hk2 (fun _ _ h => h.elim)
          have hrow2 := Hrow1.out.keep hk2 (fun _ _ h => h)
          rw [← hsl] at hrow2
          obtain ⟨hcs, hrow3, hk4⟩ := hrow2.store (i := i) (by omega) t
          obtain ⟨w3, hw3⟩ : ∃ w3, w3 = w2.setCells b (i * recU.n) (recU.cs t) := ⟨_, rfl⟩
          rw [← hw3] at hrow3 hk4
          replace hw3 : w3 = w2.setCell ⟨b, i, none⟩ (.int .u16 t) := by rw [hw3]; show w2.setCell ⟨b, i * 1, none⟩ _ = _; rw [Nat.mul_one]
          obtain ⟨⟨u0, z0⟩, y0⟩ := hcs 0 (by decide)
          rw [Nat.add_zero, show i * recU.n = i from Nat.mul_one i] at z0 y0
          have hk5 := hk3.trans hk4 (fun _ _ h => h)
          rw [hsl] at hrow3
          clear hk2 hk3 hrow2 hcs hk4
          have Hrow3 := Lib.hid hrow3
          have Hk5 := Lib.hid hk5
          have Hw3 := Lib.hid hw3
          clear hrow3 hk5 hw3
          go_wp2_with fail
          rw [← Hw3.out]
          go_roundw
          case rel => exact ⟨i + 1, j + 1, _, by simp, by simp, Hs2.out, Hrow3.out, Hk5.out⟩
          case measure => simp [intOf]; omega
      · have hjL : j = L := by omega
        obtain ⟨hfin, hil⟩ := hs.last (by rw [← HL.out]; exact hjL)
        rw [← HL.out] at hil
        have hrt : recU.Row wr (.slice (some ⟨b, 0, none⟩) (l'.take i).length cap) (l'.take i) := RecT.Row.take (by rw [hsl]; exact hrow) (by omega)
        have hti : (l'.take i).length = i := by simp; omega
        obtain ⟨w2, hclear, hr2, hk2⟩ := RecT.Row.clear (P := Try.prog) (ts := 66) (z := .int .u16 0) Try.underlying66 (fun _ => by kernel_rfl) rfl (by intro u hu; simp [Value.cells] at hu; subst hu; rfl) b cap (L - i) (cap - i) hrt (by omega) (by omega)
        rw [hti] at hclear hr2
        rw [show i * recU.n = i from Nat.mul_one i] at hclear
        have hk3 := hkr.trans hk2 (fun _ _ h => h)
        rw [hfin] at hr2 hti
        have hj2 : ¬ (j : Int) < L := by omega
        have hi0 : (0 : Int) ≤ (i : Int) := by omega
        have hiI : (i : Int) ≤ L := by omega
        have hiC : (i : Int) ≤ cap := by omega
        have hic : ¬ cap = i := by omega
        have Hs := Lib.hid hs
        have Hrow := Lib.hid hrow
        have Hkr := Lib.hid hkr
        have Hfin := Lib.hid hfin
        have Hrt := Lib.hid hrt
        have Hti := Lib.hid hti
        have Hr2 := Lib.hid hr2
        have Hk3 := Lib.hid hk3
        clear hs hrow hkr hfin hrt hti hr2 hk3
        clear hk2
        go_wp2_with fail
        go_ret
        exact ⟨by rw [Hti.out]; rfl, by rw [Hti.out]; exact Hr2.out, Hk3.out⟩

set_option maxRecDepth 8000 in
set_option maxHeartbeats 2000000 in
theorem wt_delfunc (g : Nat) (lb : Array Value) (p : Nat × Nat → Bool) (eg : ∀ args w, (callFunc g args).run Try.prog w = .ok (.enter g args) w) (w : World) (b cap : Nat) (l : List (Nat × Nat))
    (hr : recW.Row w (.slice (some ⟨b, 0, none⟩) l.length cap) l) (hl : l.length ≤ 1000000) (hp : PredR uW g lb p b w) :
    Calls Try.prog 53 #[.slice (some ⟨b, 0, none⟩) l.length cap, .func (.func g) #[] lb] w (RetDelR recW b cap (l.filter fun x => !p x) w) := by
  have hI := wt_index g lb p eg _ _ l w b hr.rd (by omega) hp
  have hcap := (cap_le hr).2.1
  rcases idxR_cases p l with ⟨hix, hno⟩ | ⟨i, hi, hix, hpi, hpn⟩
  · rw [hix] at hI
    have hfa := filterR_all hno
    have HI := Lib.hid hI
    have Hr := Lib.hid hr
    have Hfa := Lib.hid hfa
    have Hno := Lib.hid hno
    clear hI hr hfa hno
    go_enter Try.func53, Try.ntmps53
    go_wp2_with fail
    refine HI.out.mono ?_
    rintro e w1 ⟨rfl, hk⟩
    have hr1 := Hr.out.keep hk (fun _ _ h => h)
    have Hr1 := Lib.hid hr1
    have Hk := Lib.hid hk
    clear hr1 hk
    go_wp2_with fail
    go_ret
    exact ⟨by rw [Hfa.out]; rfl, by rw [Hfa.out]; exact Hr1.out, Hk.out.mono (fun _ _ h => h.elim)⟩
  · rw [hix] at hI
    have hs0 := SiftR.start hi hpi hpn
    have hi1 : IntKind.i64.wrap ((i : Int) + 1) = (i + 1 : Nat) := by rw [show (i : Int) + 1 = ((i + 1 : Nat) : Int) by omega]; exact IntWalk.i64_in _ (by omega)
    have hine : ((i : Int) == -1) = false := by simp
    have hine2 : ¬ (i : Int) = -1 := by omega
    obtain ⟨L, hL⟩ : ∃ L, L = l.length := ⟨_, rfl⟩
    have HI := Lib.hid hI
    have Hp := Lib.hid hp
    have Hs0 := Lib.hid hs0
    have Hpi := Lib.hid hpi
    have Hpn := Lib.hid hpn
    clear hI hp hs0 hpi hpn
    rw [← hL] at hcap hl ⊢
    rw [← hL] at hr
    have HI' := HI.out
    rw [← hL] at HI'
    clear HI
    have hrL := hr
    have HL := Lib.hid hL
    have HrL := Lib.hid hrL
    clear hL hrL
    clear hr
    go_enter Try.func53, Try.ntmps53
    go_wp2_with fail
    refine HI'.mono ?_
    rintro e w1 ⟨rfl, hk⟩
    have hr1 := HrL.out.keep hk (fun _ _ h => h)
    have Hr1 := Lib.hid hr1
    have Hk := Lib.hid hk
    clear hr1 hk
    clear HI'
    go_wp2_with fail
    go_loopw [5, 6] (fun iv jv wr => ∃ (i j : Nat) (l' : List (Nat × Nat)), iv = .int .i64 i ∧ jv = .int .i64 j ∧ SiftR p l l' i j ∧ recW.Row wr (.slice (some ⟨b, 0, none⟩) L cap) l' ∧ Keeps (only b) w wr) (fun _ jv _ => L - (intOf jv).toNat)
    case atStart => exact ⟨i, i + 1, l, rfl, by simp, Hs0.out, Hr1.out, Hk.out.mono (fun _ _ h => h.elim)⟩
    case round =>
      obtain ⟨i, j, l', rfl, rfl, hs, hrow, hkr⟩ := hrel
      have hsl := hs.len
      have hsj := hs.jl
      have hsi := hs.ij
      rw [← HL.out] at hsl hsj
      by_cases hlt : j < L
      · have hjl : j < l.length := by rw [← HL.out]; exact hlt
        have hltI : (j : Int) < L := by omega
        have hj0 : (0 : Int) ≤ (j : Int) := by omega
        have hi0 : (0 : Int) ≤ (i : Int) := by omega
        have hiI : (i : Int) < L := by omega
        have hj1 : IntKind.i64.wrap ((j : Int) + 1) = j + 1 := IntWalk.i64_in _ (by omega)
        have hi11 : IntKind.i64.wrap ((i : Int) + 1) = i + 1 := IntWalk.i64_in _ (by omega)
        obtain ⟨t, ht⟩ : ∃ t, t = l[j] := ⟨_, rfl⟩
        have hget := hs.get hjl
        rw [← ht] at hget
        obtain ⟨d0, d1⟩ := atW (hrow.at_ hget)
        rw [show j * recW.n = j * 2 from rfl] at d0 d1
        have hk1 := hkr.alloc (.cells #[.int .u16 t.1, .int .u16 t.2] 96)
        have hbx := Blk.new wr 96 #[.int .u16 t.1, .int .u16 t.2]
        have hrow1 := hrow.keep ((Keeps.refl nowhere wr).alloc (.cells #[.int .u16 t.1, .int .u16 t.2] 96)) (fun _ _ h => h)
        have hcall := Hp.out _ t hk1
        unfold uW at hcall
        cases hpt : p t with
        | true =>
          rw [hpt] at hcall
          have hs2 := hs.skip hjl (by rw [← ht]; exact hpt)
          have Hs := Lib.hid hs
          have Hk1 := Lib.hid hk1
          have Hbx := Lib.hid hbx
          have Hrow1 := Lib.hid hrow1
          have Hcall := Lib.hid hcall
          have Hs2 := Lib.hid hs2
          have Ht := Lib.hid ht
          have Hget := Lib.hid hget
          have Hrow := Lib.hid hrow
          have Hkr := Lib.hid hkr
          clear hs hk1 hbx hrow1 hcall hs2 ht hget hrow hkr
          go_wp2_with fail
          refine Hcall.out.mono ?_
          rintro e w2 ⟨rfl, hk2⟩
          have hk3 := Hk1.out.trans hk2 (fun _ _ h => h.elim)
          have hrow2 := Hrow1.out.keep hk2 (fun _ _ h => h)
          clear hk2
          have Hk3 := Lib.hid hk3
          have Hrow2 := Lib.hid hrow2
          clear hk3 hrow2
          go_wp2_with fail
          go_roundw
          case rel => exact ⟨i, j + 1, l', rfl, by simp, Hs2.out, Hrow2.out, Hk3.out⟩
          case measure => simp [intOf]; omega
        | false =>
          rw [hpt] at hcall
          have hs2 := hs.keep hjl (by rw [← ht]; exact hpt)
          rw [← ht] at hs2
          have Hs := Lib.hid hs
          have Hk1 := Lib.hid hk1
          have Hbx := Lib.hid hbx
          have Hrow1 := Lib.hid hrow1
          have Hcall := Lib.hid hcall
          have Hs2 := Lib.hid hs2
          have Ht := Lib.hid ht
          have Hget := Lib.hid hget
          have Hrow := Lib.hid hrow
          have Hkr := Lib.hid hkr
          clear hs hk1 hbx hrow1 hcall hs2 ht hget hrow hkr
          go_wp2_with fail
          refine Hcall.out.mono ?_
          rintro e w2 ⟨rfl, hk2⟩
          have hk3 := Hk1.out.trans hk2 (fun _ _ h => h.elim)
          have hrow2 := Hrow1.out.keep hk2 (fun _ _ h => h)
          have hbx2 := Hbx.out.keep hk2 (fun h => h)
          have e0 : w2.cell? ⟨wr.heap.size, 0, none⟩ = some (.int .u16 t.1) := by simpa using hbx2.cell 0
          have e1 : w2.cell? ⟨wr.heap.size, 1, none⟩ = some (.int .u16 t.2) := by simpa using hbx2.cell 1
          clear hbx2
          rw [← hsl] at hrow2
          obtain ⟨hcs, hrow3, hk4⟩ := hrow2.store (i := i) (by omega) t
          obtain ⟨w3, hw3⟩ : ∃ w3, w3 = w2.setCells b (i * recW.n) (recW.cs t) := ⟨_, rfl⟩
          rw [← hw3] at hrow3 hk4
          replace hw3 : w3 = (w2.setCell ⟨b, i * 2, none⟩ (.int .u16 t.1)).setCell ⟨b, i * 2 + 1, none⟩ (.int .u16 t.2) := hw3
          obtain ⟨⟨u0, z0⟩, y0⟩ := hcs 0 (by decide)
          obtain ⟨⟨u1, z1⟩, y1⟩ := hcs 1 (by decide)
          rw [Nat.add_zero] at z0 y0
          rw [show i * recW.n = i * 2 from rfl] at z0 y0 z1 y1
          have hk5 := hk3.trans hk4 (fun _ _ h => h)
          rw [hsl] at hrow3
          clear hk2 hk3 hrow2 hcs hk4
          have Hrow3 := Lib.hid hrow3
          have Hk5 := Lib.hid hk5
          have Hw3 := Lib.hid hw3
          clear hrow3 hk5 hw3
          go_wp2_with fail
          rw [← Hw3.out]
          go_roundw
          case rel => exact ⟨i + 1, j + 1, _, by simp, by simp, Hs2.out, Hrow3.out, Hk5.out⟩
          case measure => simp [intOf]; omega
      · have hjL : j = L := by omega
        obtain ⟨hfin, hil⟩ := hs.last (by rw [← HL.out]; exact hjL)
        rw [← HL.out] at hil
        have hrt : recW.Row wr (.slice (some ⟨b, 0, none⟩) (l'.take i).length cap) (l'.take i) := RecT.Row.take (by rw [hsl]; exact hrow) (by omega)
        have hti : (l'.take i).length = i := by simp; omega
        obtain ⟨w2, hclear, hr2, hk2⟩ := RecT.Row.clear (P := Try.prog) (ts := 90) (z := .agg #[.int .u16 0, .int .u16 0]) Try.underlying90 (fun _ => by kernel_rfl) rfl (by intro u hu; simp [Value.cells] at hu; rcases hu with rfl | rfl <;> rfl) b cap (L - i) (cap - i) hrt (by omega) (by omega)
        rw [hti] at hclear hr2
        rw [show i * recW.n = i * 2 from rfl] at hclear
        have hk3 := hkr.trans hk2 (fun _ _ h => h)
        rw [hfin] at hr2 hti
        have hj2 : ¬ (j : Int) < L := by omega
        have hi0 : (0 : Int) ≤ (i : Int) := by omega
        have hiI : (i : Int) ≤ L := by omega
        have hiC : (i : Int) ≤ cap := by omega
        have hic : ¬ cap = i := by omega
        have Hs := Lib.hid hs
        have Hrow := Lib.hid hrow
        have Hkr := Lib.hid hkr
        have Hfin := Lib.hid hfin
        have Hrt := Lib.hid hrt
        have Hti := Lib.hid hti
        have Hr2 := Lib.hid hr2
        have Hk3 := Lib.hid hk3
        clear hs hrow hkr hfin hrt hti hr2 hk3
        clear hk2
        go_wp2_with fail
        go_ret
        exact ⟨by rw [Hti.out]; rfl, by rw [Hti.out]; exact Hr2.out, Hk3.out⟩

set_option maxRecDepth 8000 in
theorem u_del (g q : Nat) (lb : Array Value) (p : Nat → Bool) (eg : ∀ args w, (callFunc g args).run Try.prog w = .ok (.enter g args) w) (w : World) (v : Value) (l : List (Nat))
    (hr : recU.Row w v l) (hl : l.length ≤ 1000000) (hp : ∀ b, b ≠ q → PredR uU g lb p b w) (hq : v.ownBlock ≠ some q) :
    Calls Try.prog 51 #[v, .func (.func g) #[] lb] w fun e w' => ∃ v', e = .returned v' ∧ recU.Row w' v' (l.filter fun x => !p x) ∧ v'.ownBlock = v.ownBlock ∧ Keeps (fun b => v.ownBlock = some b) w w' := by
  rcases hr.blk with ⟨rfl, rfl⟩ | ⟨b, cap, rest, rfl, -⟩
  · have hI := u_index g lb p eg _ _ [] w (q + 1) hr.rd (by simp) (hp _ (by omega))
    rw [show idxR p ([] : List (Nat)) = -1 from rfl] at hI
    clear hr hp hq
    have HI := Lib.hid hI
    clear hI
    go_enter Try.func51, Try.ntmps51
    go_wp2_with fail
    refine HI.out.mono ?_
    rintro e w1 ⟨rfl, hk⟩
    have Hk := Lib.hid hk
    clear hk
    go_wp2_with fail
    go_ret
    exact ⟨_, rfl, RecT.Row.nil _ _, rfl, Hk.out.mono (fun _ _ h => h.elim)⟩
  · refine (u_delfunc g lb p eg w b cap l hr hl (hp b (fun e => hq (by rw [e]; rfl)))).mono ?_
    rintro e w' ⟨rfl, hr', hk⟩
    exact ⟨_, rfl, hr', rfl, hk.mono (fun b' _ h => by rw [show b' = b from h]; rfl)⟩

set_option maxRecDepth 8000 in
theorem wt_del (g q : Nat) (lb : Array Value) (p : Nat × Nat → Bool) (eg : ∀ args w, (callFunc g args).run Try.prog w = .ok (.enter g args) w) (w : World) (v : Value) (l : List (Nat × Nat))
    (hr : recW.Row w v l) (hl : l.length ≤ 1000000) (hp : ∀ b, b ≠ q → PredR uW g lb p b w) (hq : v.ownBlock ≠ some q) :
    Calls Try.prog 53 #[v, .func (.func g) #[] lb] w fun e w' => ∃ v', e = .returned v' ∧ recW.Row w' v' (l.filter fun x => !p x) ∧ v'.ownBlock = v.ownBlock ∧ Keeps (fun b => v.ownBlock = some b) w w' := by
  rcases hr.blk with ⟨rfl, rfl⟩ | ⟨b, cap, rest, rfl, -⟩
  · have hI := wt_index g lb p eg _ _ [] w (q + 1) hr.rd (by simp) (hp _ (by omega))
    rw [show idxR p ([] : List (Nat × Nat)) = -1 from rfl] at hI
    clear hr hp hq
    have HI := Lib.hid hI
    clear hI
    go_enter Try.func53, Try.ntmps53
    go_wp2_with fail
    refine HI.out.mono ?_
    rintro e w1 ⟨rfl, hk⟩
    have Hk := Lib.hid hk
    clear hk
    go_wp2_with fail
    go_ret
    exact ⟨_, rfl, RecT.Row.nil _ _, rfl, Hk.out.mono (fun _ _ h => h.elim)⟩
  · refine (wt_delfunc g lb p eg w b cap l hr hl (hp b (fun e => hq (by rw [e]; rfl)))).mono ?_
    rintro e w' ⟨rfl, hr', hk⟩
    exact ⟨_, rfl, hr', rfl, hk.mono (fun b' _ h => by rw [show b' = b from h]; rfl)⟩

theorem emptyU (w : World) : recU.Row (w.alloc (.cells #[] 43)) (.slice (some ⟨w.heap.size, 0, none⟩) 0 0) [] := RecT.Row.empty recU w
set_option maxRecDepth 8000 in
theorem uclone_any (v : Value) (gb : Option Nat) (l : List Nat) (w : World) (hr : recU.Rd w v gb l) (hl : l.length ≤ 100000) :
    Calls Try.prog 57 #[v] w fun e w' => ∃ v', e = .returned v' ∧ recU.Row w' v' l ∧ Above w.heap.size v'.ownBlock ∧ Keeps nowhere w w' := by
  have q22 := fun (w : World) (a : Option Addr) (n c n' c' : Nat) => Lib.run_eql_slice_nil (P := Try.prog) w 66 43 a n c n' c' Try.underlying66
  have hr0 := hr
  obtain ⟨A, cap, rfl, h1, h2, hu, h3, h4⟩ := hr
  cases A with
  | none =>
    obtain rfl : cap = 0 := h4 rfl
    obtain rfl : l = [] := List.eq_nil_of_length_eq_zero (by omega)
    clear h1 h2 h3 h4
    have Hr0 := Lib.hid hr0
    have Hu := Lib.hid hu
    clear hr0 hu
    go_enter Try.func57, Try.ntmps57
    go_wp2_with fail
    go_ret
    exact ⟨_, rfl, RecT.Row.nil _ _, Above.none _, Keeps.refl _ _⟩
  | some a =>
    have hka := (Keeps.refl nowhere w).alloc (.cells #[] 43)
    have hra := hr0.same hka
    have hrow0 := emptyU w
    clear h3 h4
    obtain ⟨L, hL⟩ : ∃ L, L = l.length := ⟨_, rfl⟩
    have hlb : ([] : List Nat).length + l.length ≤ 100000000 := by simp; omega
    rw [← hL] at hra h1 hl ⊢
    have Hr0 := Lib.hid hr0
    have Hu := Lib.hid hu
    have Hka := Lib.hid hka
    have Hra := Lib.hid hra
    have Hrow0 := Lib.hid hrow0
    have HL := Lib.hid hL
    have Hlb := Lib.hid hlb
    clear hr0 hu hka hra hrow0 hL hlb
    go_enter Try.func57, Try.ntmps57
    go_wp2_with (at_builtin; go_must (refine RecT.wpList_append Try.underlying66 infoU16 rfl (by decide) rfl (.tmp 5) (.tmp 6) rfl _ [] rfl Hrow0.out _ _ l rfl Hra.out Hlb.out ?_))
    intro v7 w7 hrow7 hk7 hf7
    try rw [List.nil_append] at hrow7
    have hk8 : Keeps nowhere w w7 := Hka.out.trans hk7 (fun b hb e => by simp [Value.ownBlock] at e; omega)
    have hab7 : Above w.heap.size v7.ownBlock := fun b hb => by
      rcases hf7 b hb with h | h
      · simp [Value.ownBlock] at h; omega
      · have := Hka.out.size; (try simp at this); (try simp at h); omega
    clear hk7 hf7
    have Hrow7 := Lib.hid hrow7
    have Hk8 := Lib.hid hk8
    have Hab7 := Lib.hid hab7
    clear hrow7 hk8 hab7
    go_wp2_with fail
    go_ret
    exact ⟨_, rfl, Hrow7.out, Hab7.out, Hk8.out⟩

def clipV : Value → Value
  | .slice A n _ => .slice A n n
  | v => v
set_option maxRecDepth 8000 in
theorem uclip_any (v : Value) (l : List Nat) (w : World) (hr : recU.Row w v l) : Calls Try.prog 56 #[v] w fun e w' => ∃ v' gb, e = .returned v' ∧ recU.Rd w' v' gb l ∧ (∀ b, gb = some b → v.ownBlock = some b) ∧ w' = w := by
  have hrd := hr.rd
  obtain ⟨A, c, rfl, h1, h2, h4⟩ := hr.form
  have hRd : recU.Rd w (.slice A l.length l.length) (Value.ownBlock (.slice A l.length c)) l := by
    obtain ⟨A', c', hv, k1, k2, k3, k4, k5⟩ := hrd
    injection hv with e1 e2 e3
    subst e1 e3
    exact ⟨A, _, rfl, Nat.le_refl _, Nat.le_trans k1 k2, k3, k4, fun h => by have := k5 h; omega⟩
  have h1' : (l.length : Int) ≤ c := by omega
  clear h4
  obtain ⟨L, hL⟩ : ∃ L, L = l.length := ⟨_, rfl⟩
  rw [← hL] at hRd h1' h1 ⊢
  have Hr := Lib.hid hr
  have Hrd := Lib.hid hrd
  have HRd := Lib.hid hRd
  have HL := Lib.hid hL
  clear hr hrd hRd hL
  go_enter Try.func56, Try.ntmps56
  go_wp2_with fail
  go_ret
  exact ⟨_, _, rfl, HRd.out, fun b hb => hb, rfl⟩
end Go.Proofs.Ytnccgmffgmfinaa
