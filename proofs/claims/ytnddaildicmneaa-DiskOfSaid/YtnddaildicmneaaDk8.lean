/-
  disk: Cut, Sync.
-/
import Derived.Test.YtnddaildicmneaaDk7
namespace Go.Proofs.Ytnddaildicmneaa
open Go.Proofs Go.RowKit Go.Sort Go.Maps

def kfOf (keep : List Bool) (i : Nat) : Bool := (keep[i]?).getD false
theorem cut1_any (q : Nat) (v : Value) (g : Option Nat) (keep : List Bool) (i : Nat) (hi : i < 1000000) (W : World) (hq : W.cell? ⟨q, 0, none⟩ = some v) (hr : recBo.Rd W v g keep) :
    Calls Try.prog 58 #[.int .i64 i, .pointer (some ⟨q, 0, none⟩)] W (RetV (.bool (kfOf keep i)) W) := by
  have hi0 : (0 : Int) ≤ (i : Int) := by omega
  obtain ⟨A, c, rfl, hlc, hcm, hu, h3, h4⟩ := hr
  unfold maxLen at hcm
  obtain ⟨n, hn⟩ : ∃ n, n = keep.length := ⟨_, rfl⟩
  by_cases h : i < keep.length
  · obtain ⟨b, o, rfl, hg, hc⟩ := h3 (by omega)
    have hki : keep[i]? = some keep[i] := List.getElem?_eq_getElem h
    have c0 := hc i _ hki 0 (by decide)
    rw [Nat.add_zero, show i * recBo.n = i from Nat.mul_one i] at c0
    simp only [recBo, List.getElem?_cons_zero] at c0
    have hk : kfOf keep i = keep[i] := by rw [kfOf, hki]; rfl
    obtain ⟨x, hx⟩ : ∃ x, x = keep[i] := ⟨_, rfl⟩
    rw [hk, ← hx]
    rw [← hx] at c0
    rw [← hn] at hq hlc h
    have hI : (i : Int) < n := by omega
    clear hc h3 h4 hu hki hk hx hn
    go_enter Try.func58, Try.ntmps58
    go_wp2
    go_ret
    exact ⟨rfl, rfl⟩
  · have hk : kfOf keep i = false := by rw [kfOf, List.getElem?_eq_none (by omega)]; rfl
    rw [hk]
    rw [← hn] at hq h
    have hI : ¬ (i : Int) < n := by omega
    clear h3 h4 hu hk hn
    go_enter Try.func58, Try.ntmps58
    go_wp2
    go_ret
    exact ⟨rfl, rfl⟩
theorem sync1_any (i : Nat) (W : World) : Calls Try.prog 57 #[.int .i64 i] W (RetV (.bool true) W) := by
  go_enter Try.func57, Try.ntmps57
  go_wp2
  go_ret
  exact ⟨rfl, rfl⟩
def DiskV.cut (D : DiskV) (keep : List Bool) : DiskV := ⟨D.size, settleN (kfOf keep) D.pend D.kept D.pend.length, [], true, false, D.left, [], D.writes⟩
def DiskV.sync (D : DiskV) : DiskV := D.settle fun _ => true
section
variable {w : World} {d b : Nat} {kv kp : Value} {ks : List SlV} {vs : List Value} {D : DiskV}
set_option maxHeartbeats 2000000 in
theorem dcut_any (v : Value) (g : Option Nat) (keep : List Bool) (h : DAt w d b kv kp ks vs D) (hr : recBo.Rd w v g keep) (hg : ∀ k, g = some k → ¬ DS d b kv k) (hn : D.pend.length ≤ 90000) :
    Calls Try.prog 27 #[.pointer (some ⟨d, 0, none⟩), v] w fun e w' => e = .returned (.tuple #[]) ∧ ∃ b', w.heap.size ≤ b' ∧ (∃ ks' kp', DAt w' d b' kv kp' ks' [] (D.cut keep)) ∧ Keeps (DS d b kv) w w' := by
  obtain ⟨q, hq⟩ : ∃ q, q = w.heap.size := ⟨_, rfl⟩
  obtain ⟨w1, hw1⟩ : ∃ w1, w1 = w.alloc (.cells #[v] 50) := ⟨_, rfl⟩
  have hk1 : Keeps nowhere w w1 := by rw [hw1]; exact (Keeps.refl nowhere w).alloc _
  have h1 := h.same hk1
  have hbx : Blk w1 q 50 #[v] := by rw [hw1, hq]; exact Blk.new _ _ _
  have hqd : ¬ DS d b kv q := by
    rintro (e | e | e)
    · have := h.box.lt; omega
    · have := h.map.lt; omega
    · have := h.kept.lt q e; omega
  have hf : KeepFn 58 #[.pointer (some ⟨q, 0, none⟩)] (kfOf keep) (DS d b kv) w1 := fun W i hi hk => by
    refine (cut1_any q v g keep i hi W ?_ ((hr.same hk1).keep hk hg)).mono ?_
    · have := (hbx.keep hk hqd).cell 0
      simpa using this
    · rintro e w' ⟨he, rfl⟩
      exact ⟨he, Keeps.refl _ _⟩
  have hset := dsettle_any 58 #[.pointer (some ⟨q, 0, none⟩)] (enters_of Try.func58 (by kernel_rfl) rfl) (kfOf keep) h1 hf hn
  obtain ⟨A, c, rfl, -⟩ := id hr
  clear hf
  have H := Lib.hid h
  have H1 := Lib.hid h1
  have Hbx := Lib.hid hbx
  have Hset := Lib.hid hset
  have Hw1 := Lib.hid hw1
  have Hq := Lib.hid hq
  have Hk1 := Lib.hid hk1
  have Hr := Lib.hid hr
  clear h h1 hbx hset hw1 hq hk1 hr
  go_enter Try.func27, Try.ntmps27
  go_upto_region 1 with fail
  rw [← Hw1.out]
  simp only [← Hq.out]
  clear Hw1
  go_wp2_with fail
  refine Hset.out.mono ?_
  rintro e w2 ⟨rfl, b', hb', ⟨ks', hd⟩, hk2⟩
  have c3 := hd.cell 3
  have c4 := hd.cell 4
  have c6 := hd.cell 6
  have f3 := hd.box.frozen 3
  have f4 := hd.box.frozen 4
  have f6 := hd.box.frozen 6
  simp at c3 c4 c6
  obtain ⟨w5, hw5⟩ : ∃ w5, w5 = ((w2.setCell ⟨d, 3, none⟩ (.bool true)).setCell ⟨d, 4, none⟩ (.bool false)).setCell ⟨d, 6, none⟩ (.slice none 0 0) := ⟨_, rfl⟩
  have hk5 : Keeps (only d) w2 w5 := by rw [hw5]; exact (((Keeps.refl (only d) w2).setCell (p := ⟨d, 3, none⟩) (fun _ => rfl) _).setCell (p := ⟨d, 4, none⟩) (fun _ => rfl) _).setCell (p := ⟨d, 6, none⟩) (fun _ => rfl) _
  have hb5 := ((hd.box.set_ 3 (.bool true)).set_ 4 (.bool false)).set_ 6 (.slice none 0 0)
  rw [← hw5] at hb5
  have hd5 := hd.turn hk5 (off := true) (armed := false) (left := (D.settle (kfOf keep)).left) (kp' := .slice none 0 0) (keep := []) (writes := (D.settle (kfOf keep)).writes) (by simpa using hb5) (RecT.Row.nil _ _)
  have hk6 : Keeps (DS d b kv) w w5 := ((Hk1.out.mono (T := DS d b kv) (fun _ _ h => h.elim)).trans hk2 (fun _ _ h => h)).trans hk5 (fun _ _ e => .inl e)
  have hb6 : w.heap.size ≤ b' := Nat.le_trans Hk1.out.size hb'
  clear hd hb5 hk5 hk2
  have Hd5 := Lib.hid hd5
  have Hk6 := Lib.hid hk6
  have Hw5 := Lib.hid hw5
  have Hb6 := Lib.hid hb6
  clear hd5 hk6 hw5 hb6
  go_wp2_with fail
  rw [← Hw5.out]
  go_end0
  exact ⟨rfl, b', Hb6.out, ⟨ks', _, Hd5.out⟩, Hk6.out⟩
end
end Go.Proofs.Ytnddaildicmneaa
