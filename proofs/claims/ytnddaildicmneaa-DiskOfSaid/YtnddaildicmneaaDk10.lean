/-
  disk: Write. (wip/gen_dk10.py)
-/
import Derived.Test.YtnddaildicmneaaDk9
namespace Go.Proofs.Ytnddaildicmneaa
open Go.Proofs Go.RowKit Go.Sort Go.Maps

def DiskV.wrote (D : DiskV) (x : Nat) (L : List UInt8) : DiskV := ⟨D.size, D.kept, D.pend ++ [(x, L)], D.off, D.armed, D.left, D.keep, D.writes + 1⟩
def DiskV.less (D : DiskV) : DiskV := ⟨D.size, D.kept, D.pend, D.off, D.armed, D.left - 1, D.keep, D.writes⟩
theorem ents_app (pd : List (Nat × List UInt8)) (vs : List Value) (hl : vs.length = pd.length) (x : Nat) (L : List UInt8) (v : Value) : ents (pd ++ [(x, L)]) (vs ++ [v]) = ents pd vs ++ [(((pd.length : Int), (x : Int)), v)] := by
  unfold ents
  rw [List.length_append, List.length_singleton, List.range_succ, List.map_append]
  congr 1
  · refine List.map_congr_left fun i hi => ?_
    have hi := List.mem_range.1 hi
    simp only [plc, secF]
    rw [List.getElem?_append_left hi, List.getElem?_append_left (by omega)]
  · simp [plc, secF, ← hl]
theorem ents_new (pd : List (Nat × List UInt8)) (vs : List Value) (x : Int) : ∀ p ∈ ents pd vs, p.1 ≠ ((pd.length : Int), x) := by
  intro p hp e
  unfold ents at hp
  obtain ⟨i, hi, rfl⟩ := List.mem_map.1 hp
  have hi := List.mem_range.1 hi
  simp [plc] at e
  omega
section
variable {w w' : World} {d b : Nat} {kv kp : Value} {ks : List SlV} {vs : List Value} {D : DiskV}
/-- one more waits -/
theorem DAt.more (h : DAt w d b kv kp ks vs D) (hk : Keeps (fun k => k = b) w w') {x : Nat} {L : List UInt8} {v : Value} (hm : KMap keyP w' b (putA (ents D.pend vs) ((D.pend.length : Int), (x : Int)) v)) (hr : recB.Row w' v L) (hL : L.length = D.size) (hx : x < D.kept.length) :
    DAt w' d b kv kp ks (vs ++ [v]) ⟨D.size, D.kept, D.pend ++ [(x, L)], D.off, D.armed, D.left, D.keep, D.writes⟩ := by
  have hnr : NotRaw w b := h.notRaw b (.inr (.inl rfl))
  rw [putA_new (ents_new _ _ _), ← ents_app _ _ h.vlen x L v] at hm
  exact
  { box := h.box.keep hk (fun e => h.map.ne_blk h.box e)
    kept := h.kept.keep hk (fun b' e hs => by
      have e2 : b' = b := hs
      subst e2
      rcases h.kept.blk with ⟨rfl, -⟩ | ⟨b2, c2, rest, rfl, hb2, -⟩
      · simp [Value.ownBlock] at e
      · simp only [Value.ownBlock, Option.some.injEq] at e
        subst e
        exact h.map.ne_blk hb2 rfl)
    klen := h.klen
    sec := fun i s L h1 h2 => ⟨(h.sec i s L h1 h2).1.keep hk (fun b' e hs => by have e2 : b' = b := hs; subst e2; exact row_raw (h.sec i s L h1 h2).1 (.inl rfl) hnr e), (h.sec i s L h1 h2).2⟩
    map := hm
    vlen := by rw [List.length_append, List.length_append, h.vlen]; rfl
    pb := fun i p u h1 h2 => by
      by_cases hi : i < D.pend.length
      · rw [List.getElem?_append_left hi] at h1
        rw [List.getElem?_append_left (by rw [h.vlen]; exact hi)] at h2
        exact ⟨(h.pb i p u h1 h2).1.keep hk (fun b' e hs => by have e2 : b' = b := hs; subst e2; exact row_raw (h.pb i p u h1 h2).1 (.inl rfl) hnr e), (h.pb i p u h1 h2).2⟩
      · rw [List.getElem?_append_right (by omega)] at h1
        rw [List.getElem?_append_right (by rw [h.vlen]; omega), h.vlen] at h2
        have : i - D.pend.length = 0 := by have := (List.getElem?_eq_some_iff.1 h1).1; simp at this; omega
        rw [this] at h1 h2
        simp at h1 h2
        subst h1 h2
        exact ⟨hr, hL, hx⟩
    keep := h.keep.keep hk (fun b' e hs => by have e2 : b' = b := hs; subst e2; exact row_raw h.keep (.inr rfl) hnr e) }
set_option maxHeartbeats 2000000 in
theorem dwrite_off (s : Int) (v : Value) (h : DAt w d b kv kp ks vs D) (ho : D.off = true) : Calls Try.prog 23 #[.pointer (some ⟨d, 0, none⟩), .int .i64 s, v] w fun e w' => e = .returned (.int .i64 22) ∧ Keeps nowhere w w' := by
  obtain ⟨q, hq⟩ : ∃ q, q = w.heap.size := ⟨_, rfl⟩
  obtain ⟨w1, hw1⟩ : ∃ w1, w1 = w.alloc (.cells #[.int .i64 0] 34) := ⟨_, rfl⟩
  have hk1 : Keeps nowhere w w1 := by rw [hw1]; exact (Keeps.refl nowhere w).alloc _
  have hbx : Blk w1 q 34 #[.int .i64 0] := by rw [hw1, hq]; exact box_new w 0
  have h1 := h.same hk1
  have hon := don_off h1 ho
  have hk2 : Keeps nowhere w (w1.setCell ⟨q, 0, none⟩ (.int .i64 22)) := hk1.setCell (p := ⟨q, 0, none⟩) (fun hlt => by simp at hlt; omega) _
  have hb2 := (hbx.set_ 0 (.int .i64 22)).cell 0
  simp at hb2
  have H := Lib.hid h
  have H1 := Lib.hid h1
  have Hon := Lib.hid hon
  have Hw1 := Lib.hid hw1
  have Hq := Lib.hid hq
  have Hk1 := Lib.hid hk1
  have Hbx := Lib.hid hbx
  have Hk2 := Lib.hid hk2
  clear h h1 hon hw1 hq hk1 hbx hk2
  go_enter_defers Try.func23, Try.ntmps23
  go_upto_region 2 with fail
  rw [← Hw1.out]
  simp only [← Hq.out]
  go_wp2_with fail
  refine Hon.out.mono ?_
  rintro e w' ⟨rfl, rfl⟩
  refine leaves_cons (f := 52) (args := #[.pointer (some ⟨q, 0, none⟩)]) (by simp) (by simp [go_sem]) ?_
  refine (dcaught_panic q 22 _ [] w1 Hbx.out).mono ?_
  rintro e u' w'' ⟨rfl, rfl, rfl⟩
  simp [Leaves, settle, results, Try.results23, go_sem, hb2]
  exact Hk2.out
set_option maxHeartbeats 2000000 in
theorem dwrite_arg (s : Int) (v : Value) (g : Option Nat) (L : List UInt8) (h : DAt w d b kv kp ks vs D) (hr : recB.Rd w v g L) (ho : D.off = false) (hbad : ¬ (0 ≤ s ∧ s < D.kept.length ∧ L.length = D.size)) : Calls Try.prog 23 #[.pointer (some ⟨d, 0, none⟩), .int .i64 s, v] w fun e w' => e = .returned (.int .i64 1) ∧ Keeps nowhere w w' := by
  obtain ⟨q, hq⟩ : ∃ q, q = w.heap.size := ⟨_, rfl⟩
  obtain ⟨w1, hw1⟩ : ∃ w1, w1 = w.alloc (.cells #[.int .i64 0] 34) := ⟨_, rfl⟩
  have hk1 : Keeps nowhere w w1 := by rw [hw1]; exact (Keeps.refl nowhere w).alloc _
  have hbx : Blk w1 q 34 #[.int .i64 0] := by rw [hw1, hq]; exact box_new w 0
  have h1 := h.same hk1
  have hon := don_on h1 ho
  have hin := din_any s h1
  obtain ⟨A, c, rfl, -⟩ := hr
  have c0 := hbx.cell 0
  have f0 := hbx.frozen 0
  have z0 := h1.cell 0
  simp at c0 z0
  have hk2 : Keeps nowhere w (w1.setCell ⟨q, 0, none⟩ (.int .i64 1)) := hk1.setCell (p := ⟨q, 0, none⟩) (fun hlt => by simp at hlt; omega) _
  have hb2 := (hbx.set_ 0 (.int .i64 1)).cell 0
  simp at hb2
  obtain ⟨N, hN⟩ : ∃ N, N = D.kept.length := ⟨_, rfl⟩
  obtain ⟨Z, hZ⟩ : ∃ Z, Z = D.size := ⟨_, rfl⟩
  obtain ⟨n, hn⟩ : ∃ n, n = L.length := ⟨_, rfl⟩
  rw [← hN] at hin hbad
  rw [← hZ] at z0 hbad
  rw [← hn] at hbad ⊢
  have H := Lib.hid h
  have H1 := Lib.hid h1
  have Hon := Lib.hid hon
  have Hw1 := Lib.hid hw1
  have Hq := Lib.hid hq
  have Hk1 := Lib.hid hk1
  have Hbx := Lib.hid hbx
  have Hk2 := Lib.hid hk2
  have HN := Lib.hid hN
  have HZ := Lib.hid hZ
  have Hn := Lib.hid hn
  clear h h1 hon hw1 hq hk1 hbx hk2 hN hZ hn
  by_cases hi : 0 ≤ s ∧ s < N
  · have hin2 : (decide (0 ≤ s) && decide (s < (N : Int))) = true := by simp [hi.1, hi.2]
    rw [hin2] at hin
    have hnz : ((n : Int) != (Z : Int)) = true := by simp; intro e; exact hbad ⟨hi.1, hi.2, by omega⟩
    have Hin := Lib.hid hin
    clear hin
    go_enter_defers Try.func23, Try.ntmps23
    go_upto_region 2 with fail
    rw [← Hw1.out]
    simp only [← Hq.out]
    go_wp2_with fail
    refine Hon.out.mono ?_
    rintro e w' ⟨rfl, rfl⟩
    go_wp2_with fail
    refine Hin.out.mono ?_
    rintro e w' ⟨rfl, rfl⟩
    go_wp2_with fail
    refine leaves_cons (f := 52) (args := #[.pointer (some ⟨q, 0, none⟩)]) (by simp) (by simp [go_sem]) ?_
    refine (dcaught_idle q _).mono ?_
    rintro e u' w'' ⟨rfl, rfl, rfl⟩
    simp [Leaves, settle, results, Try.results23, go_sem, hb2]
    exact Hk2.out
  · have hin2 : (decide (0 ≤ s) && decide (s < (N : Int))) = false := by simp; omega
    rw [hin2] at hin
    have Hin := Lib.hid hin
    clear hin
    go_enter_defers Try.func23, Try.ntmps23
    go_upto_region 2 with fail
    rw [← Hw1.out]
    simp only [← Hq.out]
    go_wp2_with fail
    refine Hon.out.mono ?_
    rintro e w' ⟨rfl, rfl⟩
    go_wp2_with fail
    refine Hin.out.mono ?_
    rintro e w' ⟨rfl, rfl⟩
    go_wp2_with fail
    refine leaves_cons (f := 52) (args := #[.pointer (some ⟨q, 0, none⟩)]) (by simp) (by simp [go_sem]) ?_
    refine (dcaught_idle q _).mono ?_
    rintro e u' w'' ⟨rfl, rfl, rfl⟩
    simp [Leaves, settle, results, Try.results23, go_sem, hb2]
    exact Hk2.out
end
end Go.Proofs.Ytnddaildicmneaa
