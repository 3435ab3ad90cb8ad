/-
  sched: Cut; slices.DeleteFunc at jobs; Drop.
-/
import Derived.Test.YtnccgmffgmfinaaQ4
namespace Go.Proofs.Ytnccgmffgmfinaa
open Go.RowKit Go.Shelf

def cutL (l : List J) (c : Int) (t : Nat) : List J := match l.findIdx? (isJ c t) with | some i => l.eraseIdx i | none => l
theorem cut_none {l : List J} {c : Int} {t : Nat} (h : ∀ x ∈ l, isJ c t x = false) : cutL l c t = l ∧ l.any (isJ c t) = false := by
  have h1 : l.findIdx? (isJ c t) = none := List.findIdx?_eq_none_iff.2 h
  exact ⟨by unfold cutL; rw [h1], List.any_eq_false.2 (fun x hx => by rw [h x hx]; simp)⟩
theorem cut_some {l : List J} {c : Int} {t : Nat} {i : Nat} (hi : i < l.length) (hp : isJ c t l[i] = true) (hn : ∀ j (hj : j < i), isJ c t (l[j]'(by omega)) = false) : cutL l c t = l.eraseIdx i ∧ l.any (isJ c t) = true := by
  have h1 : l.findIdx? (isJ c t) = some i := by
    rw [List.findIdx?_eq_some_iff_getElem]
    exact ⟨hi, hp, fun j hj => by rw [hn j hj]; simp⟩
  exact ⟨by unfold cutL; rw [h1], List.any_eq_true.2 ⟨_, List.getElem_mem hi, hp⟩⟩
def RetQ (p : Nat) (g : Option Nat) (e0 : Ending) (l' : List J) (w : World) : Ending → World → Prop := fun e w' => e = e0 ∧ QAt w' p g l' ∧ Keeps (only2 p g) w w'

/-- the queue's slice was turned in its own block, then stored -/
theorem qat_cut {w0 w1 w2 : World} {p b cap : Nat} {v : Value} {l1 : List J} (hb : Blk w1 p 83 #[v]) (hr : JRow w2 (.slice (some ⟨b, 0, none⟩) l1.length cap) l1) (hk : Keeps (only b) w1 w2) (hne : b ≠ p) (hk0 : Keeps nowhere w0 w1) :
    w2.cell? ⟨p, 0, none⟩ = some v ∧ w2.frozen? ⟨p, 0, none⟩ = false ∧ QAt (w2.setCell ⟨p, 0, none⟩ (.slice (some ⟨b, 0, none⟩) l1.length cap)) p (some b) l1 ∧ Keeps (only2 p (some b)) w0 (w2.setCell ⟨p, 0, none⟩ (.slice (some ⟨b, 0, none⟩) l1.length cap)) := by
  have h1 : Blk w2 p 83 #[v] := hb.keep hk (fun e => hne e.symm)
  refine ⟨by simpa using h1.cell 0, h1.frozen 0, ⟨_, by simpa using h1.set_ 0 (.slice (some ⟨b, 0, none⟩) l1.length cap), ?_, rfl⟩, ?_⟩
  · exact hr.keep ((Keeps.refl (only p) w2).setCell (p := ⟨p, 0, none⟩) (fun _ => rfl) _) (fun b' hb' e => by cases hb'; exact hne e)
  · have h0 : Keeps (only2 p (some b)) w0 w1 := hk0.mono (fun _ _ h => h.elim)
    exact (h0.trans hk (fun _ _ h => .inr (by rw [h]))).setCell (p := ⟨p, 0, none⟩) (fun _ => .inl rfl) _

set_option maxHeartbeats 1000000 in
theorem qcut_any (w : World) (p : Nat) (g : Option Nat) (l : List J) (c : Int) (t : Nat) (h : QAt w p g l) (hl : l.length ≤ 512) :
    Calls Try.prog 27 #[qp p, .int .i64 c, .int .u16 t] w (RetQ p g (.returned (.bool (l.any (isJ c t)))) (cutL l c t) w) := by
  have hF := qfind_any w p g l c t h (by omega)
  unfold qp at hF ⊢
  rcases idxP_cases (isJ c t) l with ⟨hix, hno⟩ | ⟨i, hi, hix, hpi, hpn⟩
  · obtain ⟨hc1, hc2⟩ := cut_none hno
    rw [hix] at hF
    have HF := Lib.hid hF
    have H := Lib.hid h
    have Hc1 := Lib.hid hc1
    have Hc2 := Lib.hid hc2
    clear hF h hc1 hc2
    go_enter Try.func27, Try.ntmps27
    go_wp2_with fail
    refine HF.out.mono ?_
    rintro e w1 ⟨rfl, hk⟩
    have hq := H.out.same hk
    have Hk := Lib.hid hk
    have Hq := Lib.hid hq
    clear hk hq
    go_wp2_with fail
    go_ret
    exact ⟨by rw [Hc2.out]; rfl, by rw [Hc1.out]; exact Hq.out, Hk.out.mono (fun _ _ h => h.elim)⟩
  · obtain ⟨hc1, hc2⟩ := cut_some hi hpi hpn
    rw [hix] at hF
    have hne := h.lt.2.2
    obtain ⟨v, h1, h2, hgv⟩ := h
    rcases h2.blk with ⟨_, hnil⟩ | ⟨b, cap, rest, hv, _, _, hlc, hcm⟩
    · subst hnil; simp at hi
    have hbp : b ≠ p := by
      rw [hgv, hv] at hne
      exact fun e => hne (by rw [e]; rfl)
    have hi0 : ¬ (i : Int) < 0 := by omega
    have hi1 : IntKind.i64.wrap ((i : Int) + 1) = ((i + 1 : Nat) : Int) := by rw [show (i : Int) + 1 = ((i + 1 : Nat) : Int) by omega]; exact IntWalk.i64_in _ (by omega)
    have hi2 : (i : Int) + 1 = ((i + 1 : Nat) : Int) := by omega
    have HF := Lib.hid hF
    have Hc1 := Lib.hid hc1
    have Hc2 := Lib.hid hc2
    have H1 := Lib.hid h1
    have H2 := Lib.hid h2
    have Hgv := Lib.hid hgv
    have Hv := Lib.hid hv
    have Hi2 := Lib.hid hi2
    clear hF hc1 hc2 h1 h2 hgv hv hi2
    go_enter Try.func27, Try.ntmps27
    go_wp2_with fail
    refine HF.out.mono ?_
    rintro e w1 ⟨rfl, hk⟩
    have hb1 := H1.out.keep hk (fun h => h)
    have hr1 := H2.out.keep hk (fun _ _ h => h)
    rw [Hv.out] at hb1 hr1
    have c0 := hb1.cell 0
    simp at c0
    have hD := jdelete_any w1 b cap i l hr1 hi (by omega)
    have Hk := Lib.hid hk
    have Hb1 := Lib.hid hb1
    have Hr1 := Lib.hid hr1
    have HD := Lib.hid hD
    clear hk hb1 hr1 hD
    go_wp2_with fail
    refine HD.out.mono ?_
    rintro e w2 ⟨rfl, hr2, hk2⟩
    obtain ⟨z0, z1, hq3, hk3⟩ := qat_cut Hb1.out hr2 hk2 hbp Hk.out
    clear hr2 hk2
    generalize (l.eraseIdx i).length = m at *
    have Hq3 := Lib.hid hq3
    have Hk3 := Lib.hid hk3
    clear hq3 hk3
    go_wp2_with fail
    go_ret
    refine ⟨by rw [Hc2.out]; rfl, ?_, ?_⟩
    · rw [Hc1.out, Hgv.out, Hv.out]; exact Hq3.out
    · rw [Hgv.out, Hv.out]; exact Hk3.out
end Go.Proofs.Ytnccgmffgmfinaa
