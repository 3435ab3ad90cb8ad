/-
  blocks.Back: the byte that a road leads to.
-/
import Derived.Test.YtnccgmffgmfinaaBBack2
namespace Go.Proofs.Ytnccgmffgmfinaa
open Go.RowKit

def backO (r : Road) (b : Int) : Option Int := if goodB b = true ∧ 0 ≤ r.at_ ∧ r.at_ < b then blkOf r (b / 4) else none
def backN (r : Road) (b : Int) : Int := match backO r b with | some n => n * b + r.at_ | none => 0
def backE (r : Road) (b : Int) : Int := match backO r b with | some _ => 0 | none => 1
def RetBack (r : Road) (b : Int) (w : World) : Ending → World → Prop := fun e w' =>
  e = .returned (.tuple #[.int .u64 (backN r b), .int .i64 (backE r b)]) ∧ Keeps nowhere w w'

theorem two_set {w w1 : World} {p q : Nat} {v u : Value} (hb : Blk w1 p 22 #[v]) (hq : Blk w1 q 26 #[u]) (hk : Keeps nowhere w w1) (hp : w.heap.size ≤ p) (hq' : w.heap.size ≤ q) (a e : Int) :
    ∃ w', w' = (w1.setCell ⟨p, 0, none⟩ (.int .u64 a)).setCell ⟨q, 0, none⟩ (.int .i64 e) ∧
      Blk w' p 22 #[.int .u64 a] ∧ Blk w' q 26 #[.int .i64 e] ∧ Keeps nowhere w w' := by
  have hne := hb.ne_ hq (by decide)
  refine ⟨_, rfl, ?_, ?_, ?_⟩
  · simpa using (hb.set_ 0 (.int .u64 a)).far (p := ⟨q, 0, none⟩) hne (.int .i64 e)
  · simpa using (hq.far (p := ⟨p, 0, none⟩) (fun e => hne e.symm) (.int .u64 a)).set_ 0 (.int .i64 e)
  · exact (hk.setCell (p := ⟨p, 0, none⟩) (fun h => absurd h (by simpa using hp)) _).setCell (p := ⟨q, 0, none⟩) (fun h => absurd h (by simpa using hq')) _

/-- the world in which Back has laid its three variables -/
def backW (r : Road) (w : World) : World := ((w.alloc (.cells r.cs 25)).alloc (.cells #[.int .u64 0] 22)).alloc (.cells #[.int .i64 0] 26)
theorem backW_r (r : Road) (w : World) : Blk (backW r w) w.heap.size 25 r.cs := ((Blk.new w _ _).alloc _).alloc _
theorem backW_p (r : Road) (w : World) : Blk (backW r w) (w.heap.size + 1) 22 #[.int .u64 0] := by
  have := (Blk.new (w.alloc (.cells r.cs 25)) 22 #[.int .u64 0]).alloc (.cells #[.int .i64 0] 26)
  rwa [World.size_alloc] at this
theorem backW_q (r : Road) (w : World) : Blk (backW r w) (w.heap.size + 1 + 1) 26 #[.int .i64 0] := by
  have := Blk.new ((w.alloc (.cells r.cs 25)).alloc (.cells #[.int .u64 0] 22)) 26 #[.int .i64 0]
  rwa [World.size_alloc, World.size_alloc] at this
theorem backW_k (r : Road) (w : World) : Keeps nowhere w (backW r w) := (((Keeps.refl _ w).alloc _).alloc _).alloc _

theorem backO_no {r : Road} {b : Int} (h : ¬ (goodB b = true ∧ 0 ≤ r.at_ ∧ r.at_ < b)) : backO r b = none := if_neg h
theorem backNE_no {r : Road} {b : Int} (h : backO r b = none) : backN r b = 0 ∧ backE r b = 1 := by rw [backN, backE, h]; exact ⟨rfl, rfl⟩

set_option maxHeartbeats 1000000 in
theorem back_bad (r : Road) (b : Int) (w : World) (hno : ¬ (goodB b = true ∧ 0 ≤ r.at_ ∧ r.at_ < b)) : Calls Try.prog 18 #[r.v, .int .i64 b] w (RetBack r b w) := by
  have hne := backNE_no (backO_no hno)
  have hr := backW_r r w
  have hp := backW_p r w
  have hq := backW_q r w
  have hk := backW_k r w
  obtain ⟨k, a, c, m⟩ := r
  have hC : (goodB b = false) ∨ (goodB b = true ∧ m < 0) ∨ (goodB b = true ∧ ¬ m < 0 ∧ b ≤ m) := by
    cases hg : goodB b with
    | false => exact .inl rfl
    | true =>
      by_cases h : m < 0
      · exact .inr (.inl ⟨rfl, h⟩)
      · exact .inr (.inr ⟨rfl, h, by
          have : ¬ (0 ≤ m ∧ m < b) := fun h2 => hno ⟨hg, h2⟩
          omega⟩)
  unfold Road.v
  unfold Road.cs at hr
  have Hne := Lib.hid hne
  have Hr := Lib.hid hr
  have Hp := Lib.hid hp
  have Hq := Lib.hid hq
  have Hk := Lib.hid hk
  clear hne hr hp hq hk
  clear hno
  rcases hC with hg | ⟨hg, h1⟩ | ⟨hg, h1, h2⟩
  all_goals
    have Hg := Lib.hid hg
    clear hg
    try have h1' : decide (m < 0) = true := by simpa using h1
    go_enter Try.func18, Try.ntmps18
    go_wp2_with fail
    refine (right_any _ (backW ⟨k, a, c, m⟩ w)).mono ?_
    rintro e w1 ⟨rfl, hk1⟩
    rw [Hg.out]
    have hr1 := Hr.out.keep hk1 (fun h => h)
    have hp1 := Hp.out.keep hk1 (fun h => h)
    have hq1 := Hq.out.keep hk1 (fun h => h)
    have hk2 := Hk.out.more hk1
    have c3 := hr1.cell 3
    have cp := hp1.cell 0
    have cq := hq1.cell 0
    have fp := hp1.frozen 0
    have fq := hq1.frozen 0
    simp at c3 cp cq
    have cq2 := (hq1.far (p := ⟨w.heap.size + 1, 0, none⟩) (by simp) (.int .u64 0)).cell 0
    rw [show (#[.int .i64 0] : Array Value)[0]? = some (.int .i64 0) from rfl] at cq2
    have Hr1 := Lib.hid hr1
    have Hp1 := Lib.hid hp1
    have Hq1 := Lib.hid hq1
    have Hk2 := Lib.hid hk2
    clear hr1 hp1 hq1 hk2
    clear hk1
    go_wp2_with fail
    obtain ⟨wz, hz, hb9, hq9, hk9⟩ := two_set Hp1.out Hq1.out Hk2.out (by omega) (by omega) 0 1
    rw [← hz]
    have d0 := hb9.cell 0
    have d1 := hq9.cell 0
    simp at d0 d1
    clear hz
    exact bodyPost_ret (v := .tuple #[.int .u64 0, .int .i64 1]) (by simp [results, Try.results18, go_sem, d0, d1]) rfl ⟨by rw [Hne.out.1, Hne.out.2], hk9⟩

theorem blkOf_le {r : Road} {t n : Int} (h : blkOf r t = some n) (ht : 0 ≤ t) (ht' : t ≤ 256) : 0 ≤ n ∧ n ≤ 66100 := by
  unfold blkOf at h
  split at h
  · rename_i hc
    have := inB_le hc.2.1
    injection h with h; omega
  · split at h
    · rename_i hc
      have := inB_le hc.2.1
      injection h with h; omega
    · split at h
      · rename_i hc
        have h1 := inB_le hc.2.1
        have h2 := inB_le hc.2.2
        have hp0 : 0 ≤ r.a * t := Int.mul_nonneg h1.1 ht
        have hp1 : r.a * t ≤ 65536 := by have := Int.mul_le_mul (show r.a ≤ 256 by omega) ht' ht (by omega); omega
        injection h with h; omega
      · cases h

def PanicQ (Q : Exit → Act → World → Prop) (PP : List PanicEntry → Act → World → Prop) : Exit → Act → World → Prop
  | .panic c, a, w => PP c a w
  | e, a, w => Q e a w
theorem PanicQ.imp {Q : Exit → Act → World → Prop} {PP : List PanicEntry → Act → World → Prop} (h : ∀ c a w, PP c a w → Q (.panic c) a w) : ∀ e a w, PanicQ Q PP e a w → Q e a w := fun e a w hq => by
  cases e <;> first | exact hq | exact h _ _ _ hq
theorem put_getD (a : Act) (d : Option Nat) (v : Value) (i : Nat) (h : (d != some i) = true) : (a.put d v).tmps.getD i undef = a.tmps.getD i undef := by
  cases d with
  | none => rfl
  | some k =>
    have hk : k ≠ i := fun e => by subst e; simp at h
    simp [Act.put, Array.getD_eq_getD_getElem?, Array.getElem?_setIfInBounds, hk]
theorem put_defers (a : Act) (d : Option Nat) (v : Value) : (a.put d v).defers = a.defers := by
  cases d <;> rfl

section
variable {P : Program} {ops : Array Oper} {Q : Exit → Act → World → Prop}
theorem wp_region_script_k {id : Nat} {a : Act} {w : World} (F W : List Nat) (s : List Mv) (S : World → Prop) (hm : P.follows .mixedOrders = true) (i j : Nat) (PP : List PanicEntry → Value → Value → List Deferred → World → Prop)
    (hc : (Region.noSelect ops && chk ops F W s (Array.replicate ops.size false) && s.all Mv.full && (s.map Mv.len).sum == ops.size) = true)
    (hd : ops.all (fun o => o.dst != some i && o.dst != some j) = true)
    (h1 : ∀ c a w, PP c (a.tmps.getD i undef) (a.tmps.getD j undef) a.defers w → Q (.panic c) a w)
    (h : wpS P ops (Q .normal) (PanicQ Q fun c a w => PP c (a.tmps.getD i undef) (a.tmps.getD j undef) a.defers w) s S a w.drew) : (Code.region id ops true).wp P Q a w := by
  refine Code.wp_mono (PanicQ.imp h1) (wp_region_script_p F W s S hm ?_ hc h)
  intro n o ho c a v w hp
  rw [Array.all_eq_true] at hd
  obtain ⟨hn, rfl⟩ := Array.getElem?_eq_some_iff.1 ho
  have := hd n hn
  simp only [Bool.and_eq_true] at this
  have hp' : PP c ((a.put ops[n].dst v).tmps.getD i undef) ((a.put ops[n].dst v).tmps.getD j undef) (a.put ops[n].dst v).defers w := hp
  rw [put_getD _ _ _ _ this.1, put_getD _ _ _ _ this.2, put_defers] at hp'
  exact hp'
end

set_option maxHeartbeats 1000000 in
theorem back_ok (r : Road) (b : Int) (w : World) (hg : goodB b = true) (h1 : 0 ≤ r.at_) (h2 : r.at_ < b) : Calls Try.prog 18 #[r.v, .int .i64 b] w (RetBack r b w) := by
  have hr := backW_r r w
  have hp := backW_p r w
  have hq := backW_q r w
  have hk := backW_k r w
  have hO : backO r b = blkOf r (b / 4) := if_pos ⟨hg, h1, h2⟩
  obtain ⟨k, a, c, m⟩ := r
  have h1' : ¬ m < 0 := by simpa using h1
  have h2' : m < b := h2
  clear h1 h2
  have h3' : decide (m ≥ b) = false := by simpa using h2'
  have hs := good_cases hg
  have e1 : IntKind.i64.wrap (b / 4) = b / 4 := IntWalk.i64_in _ (by omega)
  have e2 : b.tdiv 4 = b / 4 := Int.tdiv_eq_ediv_of_nonneg (by omega)
  have ht0 : 0 ≤ b / 4 := by omega
  have ht1 : b / 4 ≤ 256 := by omega
  unfold Road.v
  unfold Road.cs at hr
  have HO := Lib.hid hO
  have Hr := Lib.hid hr
  have Hp := Lib.hid hp
  have Hq := Lib.hid hq
  have Hk := Lib.hid hk
  have Hg := Lib.hid hg
  have Hs := Lib.hid hs
  clear hO hr hp hq hk hg hs
  go_enter_defers Try.func18, Try.ntmps18
  go_wp2_with fail
  refine (right_any _ (backW ⟨k, a, c, m⟩ w)).mono ?_
  rintro e w1 ⟨rfl, hk1⟩
  rw [Hg.out]
  have hr1 := Hr.out.keep hk1 (fun h => h)
  have hp1 := Hp.out.keep hk1 (fun h => h)
  have hq1 := Hq.out.keep hk1 (fun h => h)
  have hk2 := Hk.out.more hk1
  have c3 := hr1.cell 3
  simp at c3
  clear hk1
  have Hr1 := Lib.hid hr1
  have Hp1 := Lib.hid hp1
  have Hq1 := Lib.hid hq1
  have Hk2 := Lib.hid hk2
  clear hr1 hp1 hq1 hk2
  go_wp2_with fail
  have r0 : ∀ w', Keeps nowhere w1.drew w' → w'.cell? ⟨w.heap.size, 0, none⟩ = some (.int .i64 k) := fun w' hk => by simpa using (Hr1.out.keep (w := w1.drew) hk (fun h => h)).cell 0
  have r1 : ∀ w', Keeps nowhere w1.drew w' → w'.cell? ⟨w.heap.size, 1, none⟩ = some (.int .i64 a) := fun w' hk => by simpa using (Hr1.out.keep (w := w1.drew) hk (fun h => h)).cell 1
  have r2 : ∀ w', Keeps nowhere w1.drew w' → w'.cell? ⟨w.heap.size, 2, none⟩ = some (.int .i64 c) := fun w' hk => by simpa using (Hr1.out.keep (w := w1.drew) hk (fun h => h)).cell 2
  have r3 : ∀ w', Keeps nowhere w1.drew w' → w'.cell? ⟨w.heap.size, 3, none⟩ = some (.int .i64 m) := fun w' hk => by simpa using (Hr1.out.keep (w := w1.drew) hk (fun h => h)).cell 3
  cases hblk : blkOf ⟨k, a, c, m⟩ (b / 4) with
  | some n =>
    have hn := blkOf_le hblk ht0 ht1
    have hN : backN ⟨k, a, c, m⟩ b = n * b + m := by rw [backN, HO.out, hblk]
    have hE : backE ⟨k, a, c, m⟩ b = 0 := by rw [backE, HO.out, hblk]
    have hb0 : 0 ≤ b ∧ b ≤ 1024 := by have := Hs.out; omega
    have hp0 : 0 ≤ n * b := Int.mul_nonneg hn.1 hb0.1
    have hp1 : n * b ≤ 67686400 := by have := Int.mul_le_mul hn.2 hb0.2 hb0.1 (by omega); omega
    obtain ⟨N, hNe⟩ : ∃ N, N = n * b := ⟨_, rfl⟩
    rw [← hNe] at hp0 hp1 hN
    have w1' : IntKind.i64.wrap (n * b) = N := by rw [← hNe]; exact IntWalk.i64_in _ (by omega)
    have w2' : IntKind.i64.wrap (N + m) = N + m := IntWalk.i64_in _ (by omega)
    have w3' : IntKind.u64.wrap (N + m) = N + m := by rw [IntKind.wrap_u64]; omega
    have Hblk := Lib.hid hblk
    have HN := Lib.hid hN
    have HE := Lib.hid hE
    have HNe := Lib.hid hNe
    clear hblk hN hE hNe
    refine wp_region_script [0, 1, 2, 4, 5, 6, 7, 8, 9] [0, 7] [.fs [0], .ps [1, 2, 4, 6], .fs [7], .es [3] true, .ps [5, 8, 9], .es [10, 11] false] (Keeps nowhere w1.drew) rfl (by kernel_rfl) ?_
    refine wpS_fs rfl (Keeps.refl _ _) fun K hK => ?_
    simp only [List.map_cons, List.map_nil, Option.getD_some, List.getElem?_toArray, List.getElem?_cons_zero, List.getElem?_cons_succ]
    iterate 1 (first | (apply quietO_cons _ rfl; (intro w' hs; have c_0 := r0 w' hs; have c_1 := r1 w' hs; have c_2 := r2 w' hs; have c_3 := r3 w' hs; go_simp; rfl)) | apply quietO_skip rfl)
    refine hK _ ?_
    clear hK K
    simp only [Act.put, List.setIfInBounds_toArray, List.set_cons_zero, List.set_cons_succ]
    refine wpS_ps rfl fun K hK => ?_
    simp only [List.map_cons, List.map_nil, Option.getD_some, List.getElem?_toArray, List.getElem?_cons_zero, List.getElem?_cons_succ]
    iterate 4 (first | (apply quietO_cons _ rfl; (intro w' _; go_simp; rfl)) | apply quietO_skip rfl)
    refine hK _ ?_
    clear hK K
    simp only [Act.put, List.setIfInBounds_toArray, List.set_cons_zero, List.set_cons_succ]
    refine wpS_fs rfl (Keeps.refl _ _) fun K hK => ?_
    simp only [List.map_cons, List.map_nil, Option.getD_some, List.getElem?_toArray, List.getElem?_cons_zero, List.getElem?_cons_succ]
    iterate 1 (first | (apply quietO_cons _ rfl; (intro w' hs; have c_0 := r3 w' hs; go_simp; rfl)) | apply quietO_skip rfl)
    refine hK _ ?_
    clear hK K
    simp only [Act.put, List.setIfInBounds_toArray, List.set_cons_zero, List.set_cons_succ]
    clear r0 r1 r2 r3
    refine wpS_es rfl fun K hK => ?_
    have HK := Lib.hid hK
    clear hK
    simp only [List.map_cons, List.map_nil, Option.getD_some, List.getElem?_toArray, List.getElem?_cons_zero, List.getElem?_cons_succ]
    go_wp2_with fail
    refine (blk_any ⟨k, a, c, m⟩ _ ht0 ht1 w1.drew).mono ?_
    rintro e w2 ⟨he, hk3⟩
    rw [Hblk.out] at he
    subst he
    have hp2 := Hp1.out.keep (w := w1.drew) hk3 (fun h => h)
    have hq2 := Hq1.out.keep (w := w1.drew) hk3 (fun h => h)
    have hk4 := Hk2.out.drew.more hk3
    have cp := hp2.cell 0
    have cq := hq2.cell 0
    have fp := hp2.frozen 0
    have fq := hq2.frozen 0
    simp at cp cq
    have cq2 := (hq2.far (p := ⟨w.heap.size + 1, 0, none⟩) (by simp) (.int .u64 (N + m))).cell 0
    rw [show (#[.int .i64 0] : Array Value)[0]? = some (.int .i64 0) from rfl] at cq2
    have Hp2 := Lib.hid hp2
    have Hq2 := Lib.hid hq2
    have Hk4 := Lib.hid hk4
    have Hk3 := Lib.hid hk3
    clear hp2 hq2 hk4 hk3
    go_wp2_with fail
    refine HK.out _ _ (fun _ => Hk3.out) ?_
    clear HK K
    refine wpS_ps rfl fun K hK => ?_
    simp only [List.map_cons, List.map_nil, Option.getD_some, List.getElem?_toArray, List.getElem?_cons_zero, List.getElem?_cons_succ]
    iterate 3 (first | (apply quietO_cons _ rfl; (intro w' _; go_simp; rfl)) | apply quietO_skip rfl)
    refine hK _ ?_
    clear hK K
    simp only [Act.put, List.setIfInBounds_toArray, List.set_cons_zero, List.set_cons_succ]
    refine wpS_es rfl fun K hK => ?_
    have HK := Lib.hid hK
    clear hK
    simp only [List.map_cons, List.map_nil, Option.getD_some, List.getElem?_toArray, List.getElem?_cons_zero, List.getElem?_cons_succ]
    go_wp2_with fail
    refine HK.out _ _ (fun h => by cases h) ?_
    clear HK K
    refine wpS_nil ?_
    go_wp2_with fail
    obtain ⟨wz, hz, hb9, hq9, hk9⟩ := two_set Hp2.out Hq2.out Hk4.out (by omega) (by omega) (N + m) 0
    rw [← hz]
    have d0 := hb9.cell 0
    have d1 := hq9.cell 0
    simp at d0 d1
    clear hz
    refine leaves_cons (f := 43) (args := #[.pointer (some ⟨w.heap.size + 1, 0, none⟩), .pointer (some ⟨w.heap.size + 1 + 1, 0, none⟩)]) (by simp) (by simp [go_sem]) ?_
    refine (back_idle _ _ _).mono ?_
    rintro e u' w'' ⟨rfl, rfl, rfl⟩
    simp [Leaves, settle, results, Try.results18, go_sem, d0, d1]
    exact ⟨by rw [HN.out, HE.out], hk9⟩
  | none =>
    have hNE := backNE_no (HO.out.trans hblk)
    have Hblk := Lib.hid hblk
    have HNE := Lib.hid hNE
    clear hblk hNE
    refine wp_region_script_k [0, 1, 2, 4, 5, 6, 7, 8, 9] [0, 7] [.fs [0], .ps [1, 2, 4, 6], .fs [7], .es [3] true, .ps [5, 8, 9], .es [10, 11] false] (Keeps nowhere w1.drew) rfl 4 5
      (fun ch x y ds w' => ch = [{ v := .iface 81 (.agg #[]), recovered := false }] ∧ Keeps nowhere w1.drew w' ∧ x = .pointer (some ⟨w.heap.size + 1, 0, none⟩) ∧ y = .pointer (some ⟨w.heap.size + 1 + 1, 0, none⟩) ∧
      ds = [{ target := .fn (.func 43) #[.pointer (some ⟨w.heap.size + 1, 0, none⟩), .pointer (some ⟨w.heap.size + 1 + 1, 0, none⟩)], args := #[] }]) (by kernel_rfl) (by kernel_rfl) ?_ ?_
    · rintro ch ⟨tm, df⟩ w' ⟨rfl, hk3, h4, h5, hd⟩
      simp only at h4 h5 hd
      subst hd
      have hp2 := Hp1.out.keep (w := w1.drew) hk3 (fun h => h)
      have hq2 := Hq1.out.keep (w := w1.drew) hk3 (fun h => h)
      have hk4 := Hk2.out.drew.more hk3
      obtain ⟨wz, hz, hb9, hq9, hk9⟩ := two_set hp2 hq2 hk4 (by omega) (by omega) 0 1
      have d0 := hb9.cell 0
      have d1 := hq9.cell 0
      simp at d0 d1
      refine leaves_cons (f := 43) (args := #[.pointer (some ⟨w.heap.size + 1, 0, none⟩), .pointer (some ⟨w.heap.size + 1 + 1, 0, none⟩)]) (by simp) (by simp [go_sem]) ?_
      refine (back_caught _ _ _ _ _ _ hp2 hq2).mono ?_
      rintro e u' w'' ⟨rfl, rfl, rfl⟩
      rw [← hz]
      clear hz
      rw [Array.getD_eq_getD_getElem?] at h4 h5
      simp [Leaves, settle, results, Try.results18, go_sem, h4, h5, d0, d1]
      exact ⟨by rw [HNE.out.1, HNE.out.2], hk9⟩
    refine wpS_fs rfl (Keeps.refl _ _) fun K hK => ?_
    simp only [List.map_cons, List.map_nil, Option.getD_some, List.getElem?_toArray, List.getElem?_cons_zero, List.getElem?_cons_succ]
    iterate 1 (first | (apply quietO_cons _ rfl; (intro w' hs; have c_0 := r0 w' hs; have c_1 := r1 w' hs; have c_2 := r2 w' hs; have c_3 := r3 w' hs; go_simp; rfl)) | apply quietO_skip rfl)
    refine hK _ ?_
    clear hK K
    simp only [Act.put, List.setIfInBounds_toArray, List.set_cons_zero, List.set_cons_succ]
    refine wpS_ps rfl fun K hK => ?_
    simp only [List.map_cons, List.map_nil, Option.getD_some, List.getElem?_toArray, List.getElem?_cons_zero, List.getElem?_cons_succ]
    iterate 4 (first | (apply quietO_cons _ rfl; (intro w' _; go_simp; rfl)) | apply quietO_skip rfl)
    refine hK _ ?_
    clear hK K
    simp only [Act.put, List.setIfInBounds_toArray, List.set_cons_zero, List.set_cons_succ]
    refine wpS_fs rfl (Keeps.refl _ _) fun K hK => ?_
    simp only [List.map_cons, List.map_nil, Option.getD_some, List.getElem?_toArray, List.getElem?_cons_zero, List.getElem?_cons_succ]
    iterate 1 (first | (apply quietO_cons _ rfl; (intro w' hs; have c_0 := r3 w' hs; go_simp; rfl)) | apply quietO_skip rfl)
    refine hK _ ?_
    clear hK K
    simp only [Act.put, List.setIfInBounds_toArray, List.set_cons_zero, List.set_cons_succ]
    clear r0 r1 r2 r3
    refine wpS_es rfl fun K hK => ?_
    have HK := Lib.hid hK
    clear hK
    simp only [List.map_cons, List.map_nil, Option.getD_some, List.getElem?_toArray, List.getElem?_cons_zero, List.getElem?_cons_succ]
    go_wp2_with fail
    refine (blk_any ⟨k, a, c, m⟩ _ ht0 ht1 w1.drew).mono ?_
    rintro e w2 ⟨he, hk3⟩
    rw [Hblk.out] at he
    subst he
    exact ⟨rfl, hk3, rfl, rfl, rfl⟩

theorem back_any (r : Road) (b : Int) (w : World) : Calls Try.prog 18 #[r.v, .int .i64 b] w (RetBack r b w) := by
  by_cases h : goodB b = true ∧ 0 ≤ r.at_ ∧ r.at_ < b
  · exact back_ok r b w h.1 h.2.1 h.2.2
  · exact back_bad r b w h
end Go.Proofs.Ytnccgmffgmfinaa
