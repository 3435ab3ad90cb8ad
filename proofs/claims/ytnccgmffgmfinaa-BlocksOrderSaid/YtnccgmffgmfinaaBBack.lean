/-
  blocks.Back: the byte that a road leads to.
-/
import Derived.Test.YtnccgmffgmfinaaBFind
namespace Go.Proofs.Ytnccgmffgmfinaa
open Go.RowKit

def inB (v n : Int) : Bool := decide (0 ≤ v ∧ v < n)
theorem in_any (v n : Int) (w : World) : Calls Try.prog 61 #[.int .i64 v, .int .i64 n] w fun e w' => e = .returned (.bool (inB v n)) ∧ w = w' := by
  by_cases h : 0 ≤ v
  · have h' : v ≥ 0 := h
    by_cases h2 : v < n
    · have hd : inB v n = true := decide_eq_true ⟨h, h2⟩
      have Hd := Lib.hid hd
      clear hd
      go_enter Try.func61, Try.ntmps61
      go_wp2_with fail
      go_ret
      exact ⟨by rw [Hd.out]; rfl, rfl⟩
    · have hd : inB v n = false := decide_eq_false (by omega)
      have Hd := Lib.hid hd
      clear hd
      go_enter Try.func61, Try.ntmps61
      go_wp2_with fail
      go_ret
      exact ⟨by rw [Hd.out]; rfl, rfl⟩
  · have hd : inB v n = false := decide_eq_false (by omega)
    have Hd := Lib.hid hd
    clear hd
    go_enter Try.func61, Try.ntmps61
    go_wp2_with fail
    go_ret
    exact ⟨by rw [Hd.out]; rfl, rfl⟩

def blkOf (r : Road) (t : Int) : Option Int :=
  if r.k = 1 ∧ inB r.a 8 = true ∧ r.b = 0 then some r.a
  else if r.k = 2 ∧ inB r.a t = true ∧ r.b = 0 then some (8 + r.a)
  else if r.k = 3 ∧ inB r.a t = true ∧ inB r.b t = true then some (8 + t + r.a * t + r.b) else none
theorem inB_le {v n : Int} (h : inB v n = true) : 0 ≤ v ∧ v < n := of_decide_eq_true h
theorem inB_of {v n : Int} (h : 0 ≤ v ∧ v < n) : inB v n = true := decide_eq_true h

def panicNone : Ending := .panicked [{ v := .iface 81 (.agg #[]), recovered := false }]
def RetBlk (r : Road) (t : Int) (w : World) : Ending → World → Prop := fun e w' =>
  e = (match blkOf r t with | some n => .returned (.int .i64 n) | none => panicNone) ∧ Keeps nowhere w w'

set_option maxHeartbeats 1000000 in
theorem blk_any (r : Road) (t : Int) (ht : 0 ≤ t) (ht' : t ≤ 256) (w : World) : Calls Try.prog 44 #[r.v, .int .i64 t] w (RetBlk r t w) := by
  obtain ⟨k, a, b, m⟩ := r
  have hk := (Keeps.refl nowhere w).alloc (.cells #[.int .i64 k, .int .i64 a, .int .i64 b, .int .i64 m] 25)
  have hmi : ∀ w, (Instr.makeInterface 81 (.agg #[])).run Try.prog w = .ok (.iface 81 (.agg #[])) w := fun _ => by kernel_rfl
  have Hk := Lib.hid hk
  clear hk
  unfold Road.v
  by_cases k1 : k = 1
  · subst k1
    cases hA : inB a 8 with
    | true =>
      by_cases hb : b = 0
      · subst hb
        have hr : Hid (blkOf ⟨1, a, 0, m⟩ t = some a) := Lib.hid (if_pos ⟨rfl, hA, rfl⟩)
        have HA := Lib.hid hA
        clear hA
        go_enter Try.func44, Try.ntmps44
        go_wp2_with fail
        refine (in_any _ _ _).mono ?_
        rintro e w1 ⟨rfl, rfl⟩
        rw [HA.out]
        go_wp2_with fail
        go_ret
        exact ⟨by rw [hr.out]; rfl, Hk.out⟩
      · have hr : Hid (blkOf ⟨1, a, b, m⟩ t = none) := Lib.hid (by rw [blkOf, if_neg (fun h => hb h.2.2), if_neg (fun h => by have := h.1; simp at this), if_neg (fun h => by have := h.1; simp at this)])
        have hb' : (b == 0) = false := by simpa using hb
        have HA := Lib.hid hA
        clear hA
        go_enter Try.func44, Try.ntmps44
        go_wp2_with fail
        refine (in_any _ _ _).mono ?_
        rintro e w1 ⟨rfl, rfl⟩
        rw [HA.out]
        go_wp2_with fail
        exact ⟨rfl, by rw [hr.out]; rfl, Hk.out⟩
    | false =>
      have hr : Hid (blkOf ⟨1, a, b, m⟩ t = none) := Lib.hid (by rw [blkOf, if_neg (fun h => by rw [hA] at h; cases h.2.1), if_neg (fun h => by have := h.1; simp at this), if_neg (fun h => by have := h.1; simp at this)])
      have HA := Lib.hid hA
      clear hA
      go_enter Try.func44, Try.ntmps44
      go_wp2_with fail
      refine (in_any _ _ _).mono ?_
      rintro e w1 ⟨rfl, rfl⟩
      rw [HA.out]
      go_wp2_with fail
      exact ⟨rfl, by rw [hr.out]; rfl, Hk.out⟩
  have k1' : (k == 1) = false := by simpa using k1
  by_cases k2 : k = 2
  · subst k2
    cases hA : inB a t with
    | true =>
      have hab := inB_le hA
      by_cases hb : b = 0
      · subst hb
        have hr : Hid (blkOf ⟨2, a, 0, m⟩ t = some (8 + a)) := Lib.hid (by rw [blkOf, if_neg (fun h => by have := h.1; simp at this)]; exact if_pos ⟨rfl, hA, rfl⟩)
        have HA := Lib.hid hA
        clear hA
        go_enter Try.func44, Try.ntmps44
        go_wp2_with fail
        refine (in_any _ _ _).mono ?_
        rintro e w1 ⟨rfl, rfl⟩
        rw [HA.out]
        go_wp2_with fail
        go_ret
        exact ⟨by rw [hr.out]; rfl, Hk.out⟩
      · have hr : Hid (blkOf ⟨2, a, b, m⟩ t = none) := Lib.hid (by rw [blkOf, if_neg (fun h => by have := h.1; simp at this), if_neg (fun h => hb h.2.2), if_neg (fun h => by have := h.1; simp at this)])
        have hb' : (b == 0) = false := by simpa using hb
        have HA := Lib.hid hA
        clear hA
        go_enter Try.func44, Try.ntmps44
        go_wp2_with fail
        refine (in_any _ _ _).mono ?_
        rintro e w1 ⟨rfl, rfl⟩
        rw [HA.out]
        go_wp2_with fail
        exact ⟨rfl, by rw [hr.out]; rfl, Hk.out⟩
    | false =>
      have hr : Hid (blkOf ⟨2, a, b, m⟩ t = none) := Lib.hid (by rw [blkOf, if_neg (fun h => by have := h.1; simp at this), if_neg (fun h => by rw [hA] at h; cases h.2.1), if_neg (fun h => by have := h.1; simp at this)])
      have HA := Lib.hid hA
      clear hA
      go_enter Try.func44, Try.ntmps44
      go_wp2_with fail
      refine (in_any _ _ _).mono ?_
      rintro e w1 ⟨rfl, rfl⟩
      rw [HA.out]
      go_wp2_with fail
      exact ⟨rfl, by rw [hr.out]; rfl, Hk.out⟩
  have k2' : (k == 2) = false := by simpa using k2
  by_cases k3 : k = 3
  · subst k3
    cases hA : inB a t with
    | true =>
      have hab := inB_le hA
      cases hB : inB b t with
      | true =>
        have hbb := inB_le hB
        have hr : Hid (blkOf ⟨3, a, b, m⟩ t = some (8 + t + a * t + b)) := Lib.hid (by rw [blkOf, if_neg (fun h => by have := h.1; simp at this), if_neg (fun h => by have := h.1; simp at this)]; exact if_pos ⟨rfl, hA, hB⟩)
        have hp0 : 0 ≤ a * t := Int.mul_nonneg hab.1 ht
        have hp1 : a * t ≤ 65536 := by have := Int.mul_le_mul (show a ≤ 256 by omega) ht' ht (by omega); omega
        obtain ⟨q, hq⟩ : ∃ q, q = a * t := ⟨_, rfl⟩
        rw [← hq] at hp0 hp1
        have e1 : IntKind.i64.wrap (a * t) = a * t := by rw [← hq]; exact IntWalk.i64_in _ (by omega)
        have e2 : IntKind.i64.wrap (8 + t + a * t) = 8 + t + a * t := by rw [← hq]; exact IntWalk.i64_in _ (by omega)
        have e3 : IntKind.i64.wrap (8 + t + a * t + b) = 8 + t + a * t + b := by rw [← hq]; exact IntWalk.i64_in _ (by omega)
        have HA := Lib.hid hA
        have HB := Lib.hid hB
        have Hq := Lib.hid hq
        clear hA hB hq
        go_enter Try.func44, Try.ntmps44
        go_wp2_with fail
        refine (in_any _ _ _).mono ?_
        rintro e w1 ⟨rfl, rfl⟩
        rw [HA.out]
        go_wp2_with fail
        refine (in_any _ _ _).mono ?_
        rintro e w1 ⟨rfl, rfl⟩
        rw [HB.out]
        go_wp2_with fail
        go_ret
        exact ⟨by rw [hr.out]; rfl, Hk.out⟩
      | false =>
        have hr : Hid (blkOf ⟨3, a, b, m⟩ t = none) := Lib.hid (by rw [blkOf, if_neg (fun h => by have := h.1; simp at this), if_neg (fun h => by have := h.1; simp at this), if_neg (fun h => by rw [hB] at h; cases h.2.2)])
        have HA := Lib.hid hA
        have HB := Lib.hid hB
        clear hA hB
        go_enter Try.func44, Try.ntmps44
        go_wp2_with fail
        refine (in_any _ _ _).mono ?_
        rintro e w1 ⟨rfl, rfl⟩
        rw [HA.out]
        go_wp2_with fail
        refine (in_any _ _ _).mono ?_
        rintro e w1 ⟨rfl, rfl⟩
        rw [HB.out]
        go_wp2_with fail
        exact ⟨rfl, by rw [hr.out]; rfl, Hk.out⟩
    | false =>
      have hr : Hid (blkOf ⟨3, a, b, m⟩ t = none) := Lib.hid (by rw [blkOf, if_neg (fun h => by have := h.1; simp at this), if_neg (fun h => by have := h.1; simp at this), if_neg (fun h => by rw [hA] at h; cases h.2.1)])
      have HA := Lib.hid hA
      clear hA
      go_enter Try.func44, Try.ntmps44
      go_wp2_with fail
      refine (in_any _ _ _).mono ?_
      rintro e w1 ⟨rfl, rfl⟩
      rw [HA.out]
      go_wp2_with fail
      exact ⟨rfl, by rw [hr.out]; rfl, Hk.out⟩
  have k3' : (k == 3) = false := by simpa using k3
  have hr : Hid (blkOf ⟨k, a, b, m⟩ t = none) := Lib.hid (by rw [blkOf, if_neg (fun h => k1 h.1), if_neg (fun h => k2 h.1), if_neg (fun h => k3 h.1)])
  go_enter Try.func44, Try.ntmps44
  go_wp2_with fail
  exact ⟨rfl, by rw [hr.out]; rfl, Hk.out⟩
end Go.Proofs.Ytnccgmffgmfinaa
