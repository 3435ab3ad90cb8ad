/-
  disk: slices.Clone at bytes, bools, slices of bytes: a copy in a block of the call's own. (wip/gen_dk4.py)
-/
import Derived.Test.YtnddaildicmneaaDk3
namespace Go.Proofs.Ytnddaildicmneaa
open Go.Proofs Go.RowKit Go.Sort Go.Maps
theorem infoB : (Try.prog.info? 5).map (fun i => (i.zero, i.size, i.bytes)) = some (some (.int .u8 0), 1, 1) := by kernel_rfl
theorem infoBo : (Try.prog.info? 4).map (fun i => (i.zero, i.size, i.bytes)) = some (some (.bool false), 1, 1) := by kernel_rfl
theorem infoS : (Try.prog.info? 41).map (fun i => (i.zero, i.size, i.bytes)) = some (some (.slice none 0 0), 1, 24) := by kernel_rfl
def RetRow {α : Type} (R : RecT α) (w : World) (l : List α) : Ending → World → Prop := fun e w' => ∃ v', e = .returned v' ∧ R.Row w' v' l ∧ Above w.heap.size v'.ownBlock ∧ Keeps nowhere w w'

theorem clB_any (v : Value) (g : Option Nat) (l : List UInt8) (w : World) (hr : recB.Rd w v g l) (hb : l.length ≤ 100000000) : Calls Try.prog 55 #[v] w (RetRow recB w l) := by
  have q22 := fun (w : World) (a : Option Addr) (n c n' c' : Nat) => Lib.run_eql_slice_nil (P := Try.prog) w 41 5 a n c n' c' Try.underlying41
  have hr0 := hr
  obtain ⟨A, cap, rfl, h1, h2, hu, h3, h4⟩ := hr
  cases A with
  | none =>
    have h0 := h4 rfl
    have hl : l = [] := List.eq_nil_of_length_eq_zero (by omega)
    subst hl
    subst h0
    clear hr0 h3 h4 hu
    go_enter Try.func55, Try.ntmps55
    go_wp2
    go_ret
    exact ⟨_, rfl, RecT.Row.nil _ _, Above.none _, Keeps.refl _ _⟩
  | some a =>
    have hka : Keeps nowhere w (w.alloc (.cells #[] 5)) := (Keeps.refl nowhere w).alloc _
    have hrow0 : recB.Row (w.alloc (.cells #[] 5)) (.slice (some ⟨w.heap.size, 0, none⟩) 0 0) [] := RecT.Row.empty recB w
    have hrd := hr0.same hka
    have hlb : ([] : List UInt8).length + l.length ≤ 100000000 := by simpa using hb
    obtain ⟨n, hn⟩ : ∃ n, n = l.length := ⟨_, rfl⟩
    rw [← hn] at hrd h1 ⊢
    clear h3 h4 hu hr0
    have Hka := Lib.hid hka
    have Hrow0 := Lib.hid hrow0
    have Hrd := Lib.hid hrd
    have Hlb := Lib.hid hlb
    have Hn := Lib.hid hn
    clear hka hrow0 hrd hlb hn
    go_enter Try.func55, Try.ntmps55
    go_wp2_with (at_builtin; go_must (refine RecT.wpList_append (R := recB) Try.underlying41 infoB rfl (by decide) rfl (.tmp 5) (.tmp 6) rfl _ [] rfl Hrow0.out _ _ l rfl Hrd.out Hlb.out ?_))
    intro v' w' hrow hk hf
    try rw [List.nil_append] at hrow
    have hab : Above w.heap.size v'.ownBlock := fun b hb => by
      rcases hf b hb with h | h
      · simp [Value.ownBlock] at h; omega
      · have := Hka.out.size; (try simp at this); (try simp at h); omega
    have hk2 : Keeps nowhere w w' := Hka.out.trans hk (fun b hb e => by simp [Value.ownBlock] at e; omega)
    clear hk hf
    have Hrow := Lib.hid hrow
    have Hab := Lib.hid hab
    have Hk2 := Lib.hid hk2
    clear hrow hab hk2
    go_wp2_with fail
    go_ret
    exact ⟨v', rfl, Hrow.out, Hab.out, Hk2.out⟩

theorem clBo_any (v : Value) (g : Option Nat) (l : List Bool) (w : World) (hr : recBo.Rd w v g l) (hb : l.length ≤ 100000000) : Calls Try.prog 51 #[v] w (RetRow recBo w l) := by
  have q22 := fun (w : World) (a : Option Addr) (n c n' c' : Nat) => Lib.run_eql_slice_nil (P := Try.prog) w 50 4 a n c n' c' Try.underlying50
  have hr0 := hr
  obtain ⟨A, cap, rfl, h1, h2, hu, h3, h4⟩ := hr
  cases A with
  | none =>
    have h0 := h4 rfl
    have hl : l = [] := List.eq_nil_of_length_eq_zero (by omega)
    subst hl
    subst h0
    clear hr0 h3 h4 hu
    go_enter Try.func51, Try.ntmps51
    go_wp2
    go_ret
    exact ⟨_, rfl, RecT.Row.nil _ _, Above.none _, Keeps.refl _ _⟩
  | some a =>
    have hka : Keeps nowhere w (w.alloc (.cells #[] 4)) := (Keeps.refl nowhere w).alloc _
    have hrow0 : recBo.Row (w.alloc (.cells #[] 4)) (.slice (some ⟨w.heap.size, 0, none⟩) 0 0) [] := RecT.Row.empty recBo w
    have hrd := hr0.same hka
    have hlb : ([] : List Bool).length + l.length ≤ 100000000 := by simpa using hb
    obtain ⟨n, hn⟩ : ∃ n, n = l.length := ⟨_, rfl⟩
    rw [← hn] at hrd h1 ⊢
    clear h3 h4 hu hr0
    have Hka := Lib.hid hka
    have Hrow0 := Lib.hid hrow0
    have Hrd := Lib.hid hrd
    have Hlb := Lib.hid hlb
    have Hn := Lib.hid hn
    clear hka hrow0 hrd hlb hn
    go_enter Try.func51, Try.ntmps51
    go_wp2_with (at_builtin; go_must (refine RecT.wpList_append (R := recBo) Try.underlying50 infoBo rfl (by decide) rfl (.tmp 5) (.tmp 6) rfl _ [] rfl Hrow0.out _ _ l rfl Hrd.out Hlb.out ?_))
    intro v' w' hrow hk hf
    try rw [List.nil_append] at hrow
    have hab : Above w.heap.size v'.ownBlock := fun b hb => by
      rcases hf b hb with h | h
      · simp [Value.ownBlock] at h; omega
      · have := Hka.out.size; (try simp at this); (try simp at h); omega
    have hk2 : Keeps nowhere w w' := Hka.out.trans hk (fun b hb e => by simp [Value.ownBlock] at e; omega)
    clear hk hf
    have Hrow := Lib.hid hrow
    have Hab := Lib.hid hab
    have Hk2 := Lib.hid hk2
    clear hrow hab hk2
    go_wp2_with fail
    go_ret
    exact ⟨v', rfl, Hrow.out, Hab.out, Hk2.out⟩

theorem clS_any (v : Value) (g : Option Nat) (l : List SlV) (w : World) (hr : recS.Rd w v g l) (hb : l.length ≤ 100000000) : Calls Try.prog 61 #[v] w (RetRow recS w l) := by
  have q22 := fun (w : World) (a : Option Addr) (n c n' c' : Nat) => Lib.run_eql_slice_nil (P := Try.prog) w 95 41 a n c n' c' Try.underlying95
  have hr0 := hr
  obtain ⟨A, cap, rfl, h1, h2, hu, h3, h4⟩ := hr
  cases A with
  | none =>
    have h0 := h4 rfl
    have hl : l = [] := List.eq_nil_of_length_eq_zero (by omega)
    subst hl
    subst h0
    clear hr0 h3 h4 hu
    go_enter Try.func61, Try.ntmps61
    go_wp2
    go_ret
    exact ⟨_, rfl, RecT.Row.nil _ _, Above.none _, Keeps.refl _ _⟩
  | some a =>
    have hka : Keeps nowhere w (w.alloc (.cells #[] 41)) := (Keeps.refl nowhere w).alloc _
    have hrow0 : recS.Row (w.alloc (.cells #[] 41)) (.slice (some ⟨w.heap.size, 0, none⟩) 0 0) [] := RecT.Row.empty recS w
    have hrd := hr0.same hka
    have hlb : ([] : List SlV).length + l.length ≤ 100000000 := by simpa using hb
    obtain ⟨n, hn⟩ : ∃ n, n = l.length := ⟨_, rfl⟩
    rw [← hn] at hrd h1 ⊢
    clear h3 h4 hu hr0
    have Hka := Lib.hid hka
    have Hrow0 := Lib.hid hrow0
    have Hrd := Lib.hid hrd
    have Hlb := Lib.hid hlb
    have Hn := Lib.hid hn
    clear hka hrow0 hrd hlb hn
    go_enter Try.func61, Try.ntmps61
    go_wp2_with (at_builtin; go_must (refine RecT.wpList_append (R := recS) Try.underlying95 infoS rfl (by decide) rfl (.tmp 5) (.tmp 6) rfl _ [] rfl Hrow0.out _ _ l rfl Hrd.out Hlb.out ?_))
    intro v' w' hrow hk hf
    try rw [List.nil_append] at hrow
    have hab : Above w.heap.size v'.ownBlock := fun b hb => by
      rcases hf b hb with h | h
      · simp [Value.ownBlock] at h; omega
      · have := Hka.out.size; (try simp at this); (try simp at h); omega
    have hk2 : Keeps nowhere w w' := Hka.out.trans hk (fun b hb e => by simp [Value.ownBlock] at e; omega)
    clear hk hf
    have Hrow := Lib.hid hrow
    have Hab := Lib.hid hab
    have Hk2 := Lib.hid hk2
    clear hrow hab hk2
    go_wp2_with fail
    go_ret
    exact ⟨v', rfl, Hrow.out, Hab.out, Hk2.out⟩
end Go.Proofs.Ytnddaildicmneaa
