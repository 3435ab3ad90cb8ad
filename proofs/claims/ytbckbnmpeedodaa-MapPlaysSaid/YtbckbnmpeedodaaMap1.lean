/-
  bitmap.Map: a map in memory; in, Has.
-/
import Derived.Test.YtbckbnmpeedodaaRows
import Derived.Test.YtbckbnmpeedodaaMap0
import Derived.Test.YtbckbnmpeedodaaRegion
import Derived.Lib.Walk
import Derived.WalkSpells
namespace Go.Proofs.Ytbckbnmpeedodaa
open Go.RowKit

/-- The map at `p` has `n` places, of which `f` says which are taken; its bytes lie in the block `g`. -/
structure MapAt (w : World) (p g n : Nat) (f : Nat → Bool) : Prop where
  n1 : 1 ≤ n
  n2 : n ≤ 65536
  off : ∀ i, n ≤ i → f i = false
  own : ∃ cap rest, Blk w p 85 #[.int .i64 n, .slice (some ⟨g, 0, none⟩) ((n + 7) / 8) cap, .int .i64 (cntF f n)] ∧
    Blk w g 5 ((bytesOf n f).map bv ++ rest).toArray ∧ (n + 7) / 8 ≤ cap ∧ cap ≤ maxLen

def mp (p : Nat) : Value := .pointer (some ⟨p, 0, none⟩)
def inM (n : Nat) (i : Int) : Bool := decide (0 ≤ i ∧ i < n)
def hasM (f : Nat → Bool) (i : Int) : Bool := decide (0 ≤ i) && f i.toNat
def Same (e0 : Ending) (w : World) : Ending → World → Prop := fun e w' => e = e0 ∧ w = w'

section
variable {w w' : World} {p g n : Nat} {f : Nat → Bool}
theorem MapAt.keep {S : Nat → Prop} (h : MapAt w p g n f) (hk : Keeps S w w') (hp : ¬ S p) (hg : ¬ S g) : MapAt w' p g n f := by
  obtain ⟨cap, rest, h1, h2, h3⟩ := h.own
  exact ⟨h.n1, h.n2, h.off, cap, rest, h1.keep hk hp, h2.keep hk hg, h3⟩
theorem MapAt.lt (h : MapAt w p g n f) : p < w.heap.size ∧ g < w.heap.size := by
  obtain ⟨cap, rest, h1, h2, h3⟩ := h.own
  exact ⟨h1.lt, h2.lt⟩
theorem MapAt.drew (h : MapAt w p g n f) : MapAt w.drew p g n f := by
  obtain ⟨cap, rest, h1, h2, h3⟩ := h.own
  exact ⟨h.n1, h.n2, h.off, cap, rest, h1, h2, h3⟩
theorem MapAt.drewN (h : MapAt w p g n f) (k : Nat) : MapAt (w.drewN k) p g n f := by
  obtain ⟨cap, rest, h1, h2, h3⟩ := h.own
  exact ⟨h.n1, h.n2, h.off, cap, rest, h1, h2, h3⟩
end

theorem byte_cell {w : World} {g n : Nat} {f : Nat → Bool} {rest : List Value} (h : Blk w g 5 ((bytesOf n f).map bv ++ rest).toArray) {j : Nat} (hj : j < (n + 7) / 8) : w.cell? ⟨g, j, none⟩ = some (.int .u8 (byteN f j)) := by
  rw [h.cell j, List.getElem?_toArray, List.getElem?_append_left (by simp [bytesOf_len]; omega), bytesOf_get n f j hj]

theorem in_any (w : World) (p g n : Nat) (f : Nat → Bool) (i : Int) (h : MapAt w p g n f) : Calls Try.prog 50 #[mp p, .int .i64 i] w (Same (.returned (.bool (inM n i))) w) := by
  obtain ⟨n1, n2, hoff, cap, rest, h1, h2, h3⟩ := h
  have c0 := h1.cell 0
  simp at c0
  clear h1 h2 hoff
  unfold mp
  by_cases hi : 0 ≤ i
  · have hi' : i ≥ 0 := hi
    have hR : inM n i = decide (i < n) := by unfold inM; simp [hi]
    have HR := Lib.hid hR
    clear hR
    go_enter Try.func50, Try.ntmps50
    go_wp2_with fail
    go_ret
    exact ⟨by rw [HR.out]; rfl, rfl⟩
  · have hi' : ¬ i ≥ 0 := hi
    have hR : inM n i = false := by unfold inM; simp [hi]
    have HR := Lib.hid hR
    clear hR
    go_enter Try.func50, Try.ntmps50
    go_wp2_with fail
    go_ret
    exact ⟨by rw [HR.out]; rfl, rfl⟩

theorem hasM_nat (f : Nat → Bool) (k : Nat) : hasM f (k : Int) = f k := by unfold hasM; simp
theorem pow_lt8 (m : Nat) (hm : m < 8) : (1 : Int) ≤ 2 ^ m ∧ (2 : Int) ^ m ≤ 128 ∧ 2 ^ m ≤ 128 := by
  rcases (by omega : m = 0 ∨ m = 1 ∨ m = 2 ∨ m = 3 ∨ m = 4 ∨ m = 5 ∨ m = 6 ∨ m = 7) with rfl | rfl | rfl | rfl | rfl | rfl | rfl | rfl <;> decide
theorem bit_is (x m : Nat) (hx : x < 256) (b : Bool) (hb : x / 2 ^ m % 2 = b.toNat) : (bits .and .u8 ((x : Int) / 2 ^ m) 1 == 1) = b := by
  have h1 : x / 2 ^ m < 256 := Nat.lt_of_le_of_lt (Nat.div_le_self _ _) hx
  have h2 : bits .and .u8 ((x / 2 ^ m : Nat) : Int) 1 = ((x / 2 ^ m &&& 1 : Nat) : Int) := u8_and_nat _ 1 h1 (by omega)
  rw [show ((x : Int) / 2 ^ m) = ((x / 2 ^ m : Nat) : Int) by simp, h2, nat_mask1, hb]
  cases b <;> rfl

theorem has_any (w : World) (p g n : Nat) (f : Nat → Bool) (i : Int) (h : MapAt w p g n f) : Calls Try.prog 35 #[mp p, .int .i64 i] w (Same (.returned (.bool (hasM f i))) w) := by
  have hI := in_any w p g n f i h
  obtain ⟨n1, n2, hoff, cap, rest, h1, h2, h3⟩ := h
  have c1 := h1.cell 1
  simp at c1
  unfold mp at hI ⊢
  by_cases hi : 0 ≤ i ∧ i < n
  · have hR : inM n i = true := decide_eq_true hi
    rw [hR] at hI
    obtain ⟨k, rfl⟩ := Int.eq_ofNat_of_zero_le hi.1
    have hk : k < n := by omega
    have c2 := byte_cell h2 (show k / 8 < (n + 7) / 8 by omega)
    have hb7 := and7 k (by omega)
    have hk8 : k % 8 < 8 := Nat.mod_lt _ (by omega)
    obtain ⟨m, hm⟩ : ∃ m, m = k % 8 := ⟨_, rfl⟩
    rw [← hm] at hb7 hk8
    obtain ⟨x, hx⟩ : ∃ x, x = byteN f (k / 8) := ⟨_, rfl⟩
    have hx8 := byteN_lt f (k / 8)
    rw [← hx] at c2 hx8
    have Hoff := Lib.hid hoff
    have H1 := Lib.hid h1
    have H2 := Lib.hid h2
    have HR := Lib.hid hR
    have Hm := Lib.hid hm
    have Hx := Lib.hid hx
    clear hoff h1 h2 hR hm hx
    go_enter Try.func35, Try.ntmps35
    go_wp2_with fail
    refine (hI).mono ?_
    rintro e w1 ⟨rfl, rfl⟩
    go_wp2_with fail
    go_ret
    refine ⟨?_, rfl⟩
    have hb := byteN_bit f (k / 8) (k % 8) (by omega)
    rw [← Hx.out, ← Hm.out] at hb
    rw [hasM_nat, show f k = f (8 * (k / 8) + m) by rw [Hm.out]; congr 1; omega]
    exact congrArg (fun b => Ending.returned (.bool b)) (bit_is x m hx8 _ hb)
  · have hR : inM n i = false := decide_eq_false hi
    rw [hR] at hI
    have hF : hasM f i = false := by
      unfold hasM
      by_cases h0 : 0 ≤ i
      · rw [hoff i.toNat (by omega)]; simp
      · simp [h0]
    have Hoff := Lib.hid hoff
    have H1 := Lib.hid h1
    have H2 := Lib.hid h2
    have HR := Lib.hid hR
    have HF := Lib.hid hF
    clear hoff h1 h2 hR hF
    go_enter Try.func35, Try.ntmps35
    go_wp2_with fail
    refine (hI).mono ?_
    rintro e w1 ⟨rfl, rfl⟩
    go_wp2_with fail
    go_ret
    exact ⟨by rw [HF.out]; rfl, rfl⟩

/-- the memory of a map after one mark is written -/
theorem map_write {w : World} {p g n : Nat} {f : Nat → Bool} (h : MapAt w p g n f) (k : Nat) (hk : k < n) (b : Bool) :
    ∃ w', w' = (w.setCell ⟨g, k / 8, none⟩ (.int .u8 (byteN (upd f k b) (k / 8)))).setCell ⟨p, 2, none⟩ (.int .i64 (cntF (upd f k b) n)) ∧ MapAt w' p g n (upd f k b) ∧ Keeps (only2 p (some g)) w w' := by
  obtain ⟨n1, n2, hoff, cap, rest, h1, h2, h3⟩ := h
  have hne : p ≠ g := h1.ne_ h2 (by decide)
  refine ⟨_, rfl, ⟨n1, n2, fun i hi => ?_, cap, rest, ?_, ?_, h3⟩, ?_⟩
  · rw [upd_ne f b (by omega)]; exact hoff i hi
  · have := (h1.far (p := ⟨g, k / 8, none⟩) hne (.int .u8 (byteN (upd f k b) (k / 8)))).set_ 2 (.int .i64 (cntF (upd f k b) n))
    simpa using this
  · have := (h2.set_ (k / 8) (.int .u8 (byteN (upd f k b) (k / 8)))).far (p := ⟨p, 2, none⟩) (fun e => hne e.symm) (.int .i64 (cntF (upd f k b) n))
    rwa [List.setIfInBounds_toArray, List.set_append_left _ _ (by simp [bytesOf_len]; omega), ← bytesOf_upd] at this
  · exact ((Keeps.refl _ w).setCell (p := ⟨g, k / 8, none⟩) (fun _ => .inr rfl) _).setCell (p := ⟨p, 2, none⟩) (fun _ => .inl rfl) _

def setM (n : Nat) (f : Nat → Bool) (i : Int) (b : Bool) : Nat → Bool := if inM n i then upd f i.toNat b else f
def RetSet (p g n : Nat) (r : Bool) (f' : Nat → Bool) (w : World) : Ending → World → Prop := fun e w' => e = .returned (.bool r) ∧ MapAt w' p g n f' ∧ Keeps (only2 p (some g)) w w'

set_option maxHeartbeats 1000000 in
theorem set_any (w : World) (p g n : Nat) (f : Nat → Bool) (i : Int) (h : MapAt w p g n f) : Calls Try.prog 44 #[mp p, .int .i64 i] w (RetSet p g n (inM n i && !hasM f i) (setM n f i true) w) := by
  have hI := in_any w p g n f i h
  have hH := has_any w p g n f i h
  have hM := h
  obtain ⟨n1, n2, hoff, cap, rest, h1, h2, h3⟩ := h
  unfold mp at hI hH ⊢
  by_cases hi : 0 ≤ i ∧ i < n
  · have hR : inM n i = true := decide_eq_true hi
    have hS : setM n f i true = upd f i.toNat true := by rw [setM, if_pos hR]
    rw [hR] at hI
    obtain ⟨k, rfl⟩ := Int.eq_ofNat_of_zero_le hi.1
    rw [hasM_nat] at hH ⊢
    rw [Int.toNat_natCast] at hS
    have hk : k < n := by omega
    cases hf : f k with
    | true =>
      have hS' : setM n f k true = f := by rw [hS, upd_eq f hf]
      rw [hf] at hH
      have Hoff := Lib.hid hoff
      have H1 := Lib.hid h1
      have H2 := Lib.hid h2
      have HR := Lib.hid hR
      have HS' := Lib.hid hS'
      have HM := Lib.hid hM
      clear hoff h1 h2 hR hS' hM
      go_enter Try.func44, Try.ntmps44
      go_wp2_with fail
      refine (hI).mono ?_
      rintro e w1 ⟨rfl, rfl⟩
      go_wp2_with fail
      refine (hH).mono ?_
      rintro e w1 ⟨rfl, rfl⟩
      go_wp2_with fail
      go_ret
      refine ⟨by simp, by rw [HS'.out]; exact HM.out, Keeps.refl _ _⟩
    | false =>
      rw [hf] at hH
      obtain ⟨wz, hz, hmz, hkz⟩ := map_write hM k hk true
      have hcnt := cntF_set hf hk
      have hc1 := h1.cell 1
      have hc2 := h1.cell 2
      have hx2 := byte_cell h2 (show k / 8 < (n + 7) / 8 by omega)
      simp at hc1 hc2
      have hb7 := and7 k (by omega)
      have hk8 : k % 8 < 8 := Nat.mod_lt _ (by omega)
      have hbit := byteN_bit f (k / 8) (k % 8) hk8
      rw [show 8 * (k / 8) + k % 8 = k by omega, hf] at hbit
      have hup := (byteN_upd f k).1
      rw [hf] at hup
      simp only [Bool.false_eq_true, if_false] at hup
      have hx8 := byteN_lt f (k / 8)
      rw [← or_bit _ hx8 _ hk8 hbit] at hup
      have cl1 : ∀ w', w' = w.drew → w'.cell? ⟨p, 1, none⟩ = some (.slice (some ⟨g, 0, none⟩) ((n + 7) / 8) cap) := fun w' e => by rw [e]; exact hc1
      have cl2 : ∀ w', w' = w.drew → w'.cell? ⟨g, k / 8, none⟩ = some (.int .u8 (byteN f (k / 8))) := fun w' e => by rw [e]; exact hx2
      have fr := h2.frozen (k / 8)
      have hix0 : 0 ≤ (k : Int) / 8 := by omega
      have hix1 : (k : Int) / 8 < ((n : Int) + 7) / 8 := by omega
      have hix2 : ((k : Int) / 8).toNat = k / 8 := by omega
      obtain ⟨m, hm⟩ : ∃ m, m = k % 8 := ⟨_, rfl⟩
      rw [← hm] at hb7 hk8 hup
      obtain ⟨x, hx⟩ : ∃ x, x = byteN f (k / 8) := ⟨_, rfl⟩
      rw [← hx] at cl2 hx2 hx8 hup
      rw [hup] at hz
      have hne : p ≠ g := h1.ne_ h2 (by decide)
      obtain ⟨y, hy⟩ : ∃ y, y = x ||| 2 ^ m := ⟨_, rfl⟩
      obtain ⟨c, hc⟩ : ∃ c, c = cntF (upd f k true) n := ⟨_, rfl⟩
      rw [← hcnt, ← hc] at hc2
      rw [← hy, ← hc] at hz
      have hcl := cntF_le (upd f k true) n
      rw [← hc] at hcl
      have hm8 := pow_lt8 m hk8
      have hw1 : IntKind.u8.wrap ((2 : Int) ^ m) = 2 ^ m := by rw [IntKind.wrap_u8']; omega
      have hw2 : (2 : Int) ^ m % 256 = 2 ^ m := by omega
      have hw3 : bits .or .u8 (x : Int) (2 ^ m) = y := by
        have := u8_or_nat x (2 ^ m) hx8 (by have := hm8.2.2; omega)
        rw [hy, ← this]; simp
      have hw4 : IntKind.i64.wrap (((c + 1 : Nat) : Int) - 1) = c := by
        rw [show ((c + 1 : Nat) : Int) - 1 = c by omega]; exact IntWalk.i64_in _ (by omega)
      have hw5 : IntKind.i64.wrap ((c : Int) + 1 - 1) = c := by
        rw [show ((c : Nat) : Int) + 1 - 1 = c by omega]; exact IntWalk.i64_in _ (by omega)
      have hw6 : (c : Int) + 1 - 1 = c := by omega
      have hw7 : IntKind.i64.wrap (c : Int) = c := IntWalk.i64_in _ (by omega)
      have fr2 := h1.frozen 2
      clear hm8
      have Hy := Lib.hid hy
      have Hc := Lib.hid hc
      have Hoff := Lib.hid hoff
      have H1 := Lib.hid h1
      have H2 := Lib.hid h2
      have HR := Lib.hid hR
      have HM := Lib.hid hM
      have Hm := Lib.hid hm
      have Hx := Lib.hid hx
      have Hcnt := Lib.hid hcnt
      have Hbit := Lib.hid hbit
      have Hup := Lib.hid hup
      have Hz := Lib.hid hz
      have Hmz := Lib.hid hmz
      have Hkz := Lib.hid hkz
      have HS := Lib.hid hS
      clear hy hc hoff h1 h2 hR hM hm hx hcnt hbit hup hz hmz hkz hS
      go_enter Try.func44, Try.ntmps44
      go_wp2_with fail
      refine (hI).mono ?_
      rintro e w1 ⟨rfl, rfl⟩
      go_wp2_with fail
      refine (hH).mono ?_
      rintro e w1 ⟨rfl, rfl⟩
      go_wp2_with fail
      refine wp_region_script [0, 1, 2, 3, 4, 5, 6, 7, 8, 9, 10, 11, 12] [3, 7] [.ps [0, 1, 2], .fs [3], .ps [4, 5, 6], .fs [7], .ps [8, 9, 10, 11, 12], .es [13] false] (fun w' => w' = w.drew) rfl (by kernel_rfl) ?_
      refine wpS_ps rfl fun K hK => ?_
      simp only [List.map_cons, List.map_nil, Option.getD_some, List.getElem?_toArray, List.getElem?_cons_zero, List.getElem?_cons_succ]
      iterate 3 (first | (apply quietO_cons _ rfl; (intro w' _; go_simp; rfl)) | apply quietO_skip rfl)
      refine hK _ ?_
      clear hK K
      simp only [Act.put, List.setIfInBounds_toArray, List.set_cons_zero, List.set_cons_succ]
      refine wpS_fs rfl (rfl) fun K hK => ?_
      simp only [List.map_cons, List.map_nil, Option.getD_some, List.getElem?_toArray, List.getElem?_cons_zero, List.getElem?_cons_succ]
      iterate 1 (first | (apply quietO_cons _ rfl; (intro w' hs; have c_0 := cl1 w' hs; go_simp; rfl)) | apply quietO_skip rfl)
      refine hK _ ?_
      clear hK K
      simp only [Act.put, List.setIfInBounds_toArray, List.set_cons_zero, List.set_cons_succ]
      refine wpS_ps rfl fun K hK => ?_
      simp only [List.map_cons, List.map_nil, Option.getD_some, List.getElem?_toArray, List.getElem?_cons_zero, List.getElem?_cons_succ]
      iterate 3 (first | (apply quietO_cons _ rfl; (intro w' _; go_simp; rfl)) | apply quietO_skip rfl)
      refine hK _ ?_
      clear hK K
      simp only [Act.put, List.setIfInBounds_toArray, List.set_cons_zero, List.set_cons_succ]
      refine wpS_fs rfl (rfl) fun K hK => ?_
      simp only [List.map_cons, List.map_nil, Option.getD_some, List.getElem?_toArray, List.getElem?_cons_zero, List.getElem?_cons_succ]
      iterate 1 (first | (apply quietO_cons _ rfl; (intro w' hs; have c_0 := cl2 w' hs; go_simp; rfl)) | apply quietO_skip rfl)
      refine hK _ ?_
      clear hK K
      simp only [Act.put, List.setIfInBounds_toArray, List.set_cons_zero, List.set_cons_succ]
      refine wpS_ps rfl fun K hK => ?_
      simp only [List.map_cons, List.map_nil, Option.getD_some, List.getElem?_toArray, List.getElem?_cons_zero, List.getElem?_cons_succ]
      iterate 5 (first | (apply quietO_cons _ rfl; (intro w' _; go_simp; rfl)) | apply quietO_skip rfl)
      refine hK _ ?_
      clear hK K
      simp only [Act.put, List.setIfInBounds_toArray, List.set_cons_zero, List.set_cons_succ]
      refine wpS_es rfl fun K hK => ?_
      have HK := Lib.hid hK
      clear hK
      simp only [List.map_cons, List.map_nil, Option.getD_some, List.getElem?_toArray, List.getElem?_cons_zero, List.getElem?_cons_succ]
      go_wp2_with fail
      refine HK.out _ _ (fun h => by cases h) ?_
      clear HK K
      refine wpS_nil ?_
      go_wp2_with fail
      go_ret
      obtain rfl := Hz.out.symm
      exact ⟨by rw [HR.out]; rfl, by rw [HS.out]; exact Hmz.out.drew, Hkz.out.drew⟩
  · have hR : inM n i = false := decide_eq_false hi
    have hS : setM n f i true = f := by rw [setM, if_neg (by rw [hR]; simp)]
    rw [hR] at hI
    have Hoff := Lib.hid hoff
    have H1 := Lib.hid h1
    have H2 := Lib.hid h2
    have HR := Lib.hid hR
    have HS := Lib.hid hS
    have HM := Lib.hid hM
    clear hoff h1 h2 hR hS hM
    go_enter Try.func44, Try.ntmps44
    go_wp2_with fail
    refine (hI).mono ?_
    rintro e w1 ⟨rfl, rfl⟩
    go_wp2_with fail
    go_ret
    exact ⟨by rw [HR.out]; rfl, by rw [HS.out]; exact HM.out, Keeps.refl _ _⟩
set_option maxHeartbeats 1000000 in
theorem clear_any (w : World) (p g n : Nat) (f : Nat → Bool) (i : Int) (h : MapAt w p g n f) : Calls Try.prog 40 #[mp p, .int .i64 i] w (RetSet p g n (hasM f i) (if hasM f i then setM n f i false else f) w) := by
  have hH := has_any w p g n f i h
  have hM := h
  obtain ⟨n1, n2, hoff, cap, rest, h1, h2, h3⟩ := h
  unfold mp at hH ⊢
  cases hf : hasM f i with
  | true =>
    rw [hf] at hH
    rw [if_pos rfl]
    have hi : 0 ≤ i ∧ i < n := by
      unfold hasM at hf
      simp only [Bool.and_eq_true, decide_eq_true_eq] at hf
      refine ⟨hf.1, ?_⟩
      rcases Nat.lt_or_ge i.toNat n with h | h
      · omega
      · rw [hoff _ h] at hf; simp at hf
    have hR : inM n i = true := decide_eq_true hi
    have hS : setM n f i false = upd f i.toNat false := by rw [setM, if_pos hR]
    obtain ⟨k, rfl⟩ := Int.eq_ofNat_of_zero_le hi.1
    rw [hasM_nat] at hf
    rw [Int.toNat_natCast] at hS
    have hk : k < n := by omega
    obtain ⟨wz, hz, hmz, hkz⟩ := map_write hM k hk false
    have hcnt := cntF_clear hf hk
    have hc1 := h1.cell 1
    have hc2 := h1.cell 2
    have hx2 := byte_cell h2 (show k / 8 < (n + 7) / 8 by omega)
    simp at hc1 hc2
    have hb7 := and7 k (by omega)
    have hk8 : k % 8 < 8 := Nat.mod_lt _ (by omega)
    have hbit := byteN_bit f (k / 8) (k % 8) hk8
    rw [show 8 * (k / 8) + k % 8 = k by omega, hf] at hbit
    have hup := (byteN_upd f k).2
    rw [hf] at hup
    rw [if_pos rfl] at hup
    have hx8 := byteN_lt f (k / 8)
    have hup : byteN (upd f k false) (k / 8) = byteN f (k / 8) &&& (255 - 2 ^ (k % 8)) := by have := andNot_bit _ hx8 _ hk8 hbit; omega
    have cl1 : ∀ w', w' = w.drew → w'.cell? ⟨p, 1, none⟩ = some (.slice (some ⟨g, 0, none⟩) ((n + 7) / 8) cap) := fun w' e => by rw [e]; exact hc1
    have cl2 : ∀ w', w' = w.drew → w'.cell? ⟨g, k / 8, none⟩ = some (.int .u8 (byteN f (k / 8))) := fun w' e => by rw [e]; exact hx2
    have fr := h2.frozen (k / 8)
    have hix0 : 0 ≤ (k : Int) / 8 := by omega
    have hix1 : (k : Int) / 8 < ((n : Int) + 7) / 8 := by omega
    have hix2 : ((k : Int) / 8).toNat = k / 8 := by omega
    obtain ⟨m, hm⟩ : ∃ m, m = k % 8 := ⟨_, rfl⟩
    rw [← hm] at hb7 hk8 hup
    obtain ⟨x, hx⟩ : ∃ x, x = byteN f (k / 8) := ⟨_, rfl⟩
    rw [← hx] at cl2 hx2 hx8 hup
    rw [hup] at hz
    have hne : p ≠ g := h1.ne_ h2 (by decide)
    obtain ⟨y, hy⟩ : ∃ y, y = x &&& (255 - 2 ^ m) := ⟨_, rfl⟩
    obtain ⟨c, hc⟩ : ∃ c, c = cntF (upd f k false) n := ⟨_, rfl⟩
    obtain ⟨d, hd⟩ : ∃ d, d = cntF f n := ⟨_, rfl⟩
    rw [← hd] at hc2 hcnt
    rw [← hc] at hcnt
    rw [← hy, ← hc] at hz
    have hcl := cntF_le (upd f k false) n
    rw [← hc] at hcl
    have hm8 := pow_lt8 m hk8
    have hw1 : IntKind.u8.wrap ((2 : Int) ^ m) = 2 ^ m := by rw [IntKind.wrap_u8']; omega
    have hw2 : (2 : Int) ^ m % 256 = 2 ^ m := by omega
    have hw3 : bits .andNot .u8 (x : Int) (2 ^ m) = y := by
      have := u8_andNot_nat x (2 ^ m) hx8 (by have := hm8.2.2; omega)
      rw [hy, ← this]; simp
    have hw6 : (d : Int) + 1 = c := by omega
    have hw7 : IntKind.i64.wrap (c : Int) = c := IntWalk.i64_in _ (by omega)
    have fr2 := h1.frozen 2
    clear hm8
    have Hd := Lib.hid hd
    clear hd
    have Hy := Lib.hid hy
    have Hc := Lib.hid hc
    have Hoff := Lib.hid hoff
    have H1 := Lib.hid h1
    have H2 := Lib.hid h2
    have HR := Lib.hid hR
    have HM := Lib.hid hM
    have Hm := Lib.hid hm
    have Hx := Lib.hid hx
    have Hcnt := Lib.hid hcnt
    have Hbit := Lib.hid hbit
    have Hup := Lib.hid hup
    have Hz := Lib.hid hz
    have Hmz := Lib.hid hmz
    have Hkz := Lib.hid hkz
    have HS := Lib.hid hS
    clear hy hc hoff h1 h2 hR hM hm hx hcnt hbit hup hz hmz hkz hS
    go_enter Try.func40, Try.ntmps40
    go_wp2_with fail
    refine (hH).mono ?_
    rintro e w1 ⟨rfl, rfl⟩
    go_wp2_with fail
    refine wp_region_script [0, 1, 2, 3, 4, 5, 6, 7, 8, 9, 10, 11, 12] [3, 7] [.ps [0, 1, 2], .fs [3], .ps [4, 5, 6], .fs [7], .ps [8, 9, 10, 11, 12], .es [13] false] (fun w' => w' = w.drew) rfl (by kernel_rfl) ?_
    refine wpS_ps rfl fun K hK => ?_
    simp only [List.map_cons, List.map_nil, Option.getD_some, List.getElem?_toArray, List.getElem?_cons_zero, List.getElem?_cons_succ]
    iterate 3 (first | (apply quietO_cons _ rfl; (intro w' _; go_simp; rfl)) | apply quietO_skip rfl)
    refine hK _ ?_
    clear hK K
    simp only [Act.put, List.setIfInBounds_toArray, List.set_cons_zero, List.set_cons_succ]
    refine wpS_fs rfl (rfl) fun K hK => ?_
    simp only [List.map_cons, List.map_nil, Option.getD_some, List.getElem?_toArray, List.getElem?_cons_zero, List.getElem?_cons_succ]
    iterate 1 (first | (apply quietO_cons _ rfl; (intro w' hs; have c_0 := cl1 w' hs; go_simp; rfl)) | apply quietO_skip rfl)
    refine hK _ ?_
    clear hK K
    simp only [Act.put, List.setIfInBounds_toArray, List.set_cons_zero, List.set_cons_succ]
    refine wpS_ps rfl fun K hK => ?_
    simp only [List.map_cons, List.map_nil, Option.getD_some, List.getElem?_toArray, List.getElem?_cons_zero, List.getElem?_cons_succ]
    iterate 3 (first | (apply quietO_cons _ rfl; (intro w' _; go_simp; rfl)) | apply quietO_skip rfl)
    refine hK _ ?_
    clear hK K
    simp only [Act.put, List.setIfInBounds_toArray, List.set_cons_zero, List.set_cons_succ]
    refine wpS_fs rfl (rfl) fun K hK => ?_
    simp only [List.map_cons, List.map_nil, Option.getD_some, List.getElem?_toArray, List.getElem?_cons_zero, List.getElem?_cons_succ]
    iterate 1 (first | (apply quietO_cons _ rfl; (intro w' hs; have c_0 := cl2 w' hs; go_simp; rfl)) | apply quietO_skip rfl)
    refine hK _ ?_
    clear hK K
    simp only [Act.put, List.setIfInBounds_toArray, List.set_cons_zero, List.set_cons_succ]
    refine wpS_ps rfl fun K hK => ?_
    simp only [List.map_cons, List.map_nil, Option.getD_some, List.getElem?_toArray, List.getElem?_cons_zero, List.getElem?_cons_succ]
    iterate 5 (first | (apply quietO_cons _ rfl; (intro w' _; go_simp; rfl)) | apply quietO_skip rfl)
    refine hK _ ?_
    clear hK K
    simp only [Act.put, List.setIfInBounds_toArray, List.set_cons_zero, List.set_cons_succ]
    refine wpS_es rfl fun K hK => ?_
    have HK := Lib.hid hK
    clear hK
    simp only [List.map_cons, List.map_nil, Option.getD_some, List.getElem?_toArray, List.getElem?_cons_zero, List.getElem?_cons_succ]
    go_wp2_with fail
    refine HK.out _ _ (fun h => by cases h) ?_
    clear HK K
    refine wpS_nil ?_
    go_wp2_with fail
    go_ret
    obtain rfl := Hz.out.symm
    exact ⟨rfl, by rw [HS.out]; exact Hmz.out.drew, Hkz.out.drew⟩
  | false =>
    rw [hf] at hH
    rw [if_neg (by simp)]
    have Hoff := Lib.hid hoff
    have H1 := Lib.hid h1
    have H2 := Lib.hid h2
    have HM := Lib.hid hM
    clear hoff h1 h2 hM
    go_enter Try.func40, Try.ntmps40
    go_wp2_with fail
    refine (hH).mono ?_
    rintro e w1 ⟨rfl, rfl⟩
    go_wp2_with fail
    go_ret
    exact ⟨rfl, HM.out, Keeps.refl _ _⟩

end Go.Proofs.Ytbckbnmpeedodaa
