/-
  loggialaw25.QueueOrder: the walk.
-/
import Derived.Test.YtnccgmffgmfinaaQOrd
import Derived.BigQuiet
namespace Go.Proofs.Ytnccgmffgmfinaa
open Go.RowKit Go.Shelf

set_option maxRecDepth 8000 in
theorem qorder_long (A : Option Addr) (n d : Nat) (A2 : Option Addr) (n2 d2 : Nat) (w : World) (h : 60 < n ∨ (¬ 60 < n ∧ 100 < n2)) : Calls Try.prog 8 #[.slice A n d, .slice A2 n2 d2] w (YesQ w) := by
  rcases h with h | ⟨h, h2⟩
  · have hI : (60 : Int) < n := by omega
    go_enter Try.func8, Try.ntmps8
    go_wp2_with fail
    refine (known25 _).mono ?_
    rintro e w0 ⟨rfl, hk0⟩
    have Hk0 := Lib.hid hk0
    clear hk0
    go_wp2_with fail
    go_ret
    exact ⟨rfl, Hk0.out⟩
  · have hI : ¬ (60 : Int) < n := by omega
    have hI2 : (100 : Int) < n2 := by omega
    go_enter Try.func8, Try.ntmps8
    go_wp2_with fail
    refine (known25 _).mono ?_
    rintro e w0 ⟨rfl, hk0⟩
    have Hk0 := Lib.hid hk0
    clear hk0
    go_wp2_with fail
    go_ret
    exact ⟨rfl, Hk0.out⟩

theorem QOwn.drewN {w0 w : World} {p : Nat} {g : Option Nat} {l : List J} (h : QOwn w0 w p g l) (n : Nat) : QOwn w0 (w.drewN n) p g l := h.same ((Keeps.refl nowhere w).drewN n)
theorem own_mark {w0 w : World} {p lb c : Nat} {g : Option Nat} {l : List J} {last : Nat → Int} (h : QOwn w0 w p g l) (hb : Blk w lb 3 (fiveC last)) (hl : w0.heap.size ≤ lb) (hc : c < 5) (v : Int) :
    QOwn w0 (w.setCell ⟨lb, c, none⟩ (.int .i64 v)) p g l ∧ Blk (w.setCell ⟨lb, c, none⟩ (.int .i64 v)) lb 3 (fiveC fun k => if k = c then v else last k) := by
  have hap := qat_apart h.q hb (by decide) (by decide)
  have hk : Keeps (only lb) w (w.setCell ⟨lb, c, none⟩ (.int .i64 v)) := (Keeps.refl (only lb) w).setCell (p := ⟨lb, c, none⟩) (fun _ => rfl) _
  refine ⟨⟨h.q.keep hk (fun e => hap (.inl e.symm)) (fun b hb' e => hap (.inr (by unfold only at e; rw [← e]; exact hb'.symm))), h.hp, h.hg, h.k.fresh hk hl⟩, ?_⟩
  rw [← fiveC_set last hc v]
  exact hb.set_ c (.int .i64 v)
theorem Rd.at_ {w : World} {A : Option Addr} {n c : Nat} {g : Option Nat} {xs : List Value} (h : Rd w (.slice A n c) g xs) {j : Nat} {u : Value} (hj : xs[j]? = some u) : ∃ b off, A = some ⟨b, off, none⟩ ∧ b < w.heap.size ∧ ∀ k u, xs[k]? = some u → w.cell? ⟨b, off + k, none⟩ = some u := by
  obtain ⟨b, off, cap, hv, hg, hb, _, _, hc⟩ := h.plain (pos_of_get hj)
  injection hv with ha _ _
  exact ⟨b, off, ha, hb, hc⟩

set_option maxRecDepth 10000 in
set_option maxHeartbeats 8000000 in
theorem qorder_ok (v0 v1 : Value) (g0 g1 : Option Nat) (B : List UInt8) (zs : List Int) (w : World) (hb : Rd w v0 g0 (B.map bv)) (hz : Rd w v1 g1 (zs.map (Value.int .i64)))
    (hzs : ∀ z ∈ zs, -9223372036854775808 ≤ z ∧ z ≤ 9223372036854775807) (hn : ¬ 60 < B.length) (hn2 : ¬ 100 < zs.length) :
    Calls Try.prog 8 #[v0, v1] w (YesQ w) := by
  obtain ⟨A0, c0, rfl, -, -⟩ := hb.form
  obtain ⟨A1, c1, rfl, -, -⟩ := hz.form
  simp only [List.length_map] at hb hz ⊢
  obtain ⟨n, hnB⟩ : ∃ n, n = B.length := ⟨_, rfl⟩
  obtain ⟨n2, hnz⟩ : ∃ n2, n2 = zs.length := ⟨_, rfl⟩
  obtain ⟨cc, hcc⟩ : ∃ cc : Nat → Nat, cc = fun i => (B.getD i 0).toNat % 5 := ⟨_, rfl⟩
  have hc5 : ∀ i, cc i < 5 := fun i => by rw [hcc]; exact Nat.mod_lt _ (by omega)
  rw [← hnB] at hn ⊢
  rw [← hnz] at hn2 ⊢
  rw [← hnB] at hb
  rw [← hnz] at hz
  have hI : ¬ (60 : Int) < n := by omega
  have hI2 : ¬ (100 : Int) < n2 := by omega
  have Hb := Lib.hid hb
  have Hz := Lib.hid hz
  have Hzs := Lib.hid hzs
  have HnB := Lib.hid hnB
  have Hnz := Lib.hid hnz
  have Hcc := Lib.hid hcc
  clear hb hz hzs hnB hnz hcc
  go_enter Try.func8, Try.ntmps8
  go_wp2_with fail
  refine (known25 _).mono ?_
  rintro e w0 ⟨rfl, hk0⟩
  go_wp2_with fail
  refine (own_new w _ hk0).mono ?_
  rintro e w1 ⟨p, rfl, h1⟩
  clear hk0
  unfold qp
  have H1 := Lib.hid h1
  clear h1
  go_wp2_with fail
  go_loopw [6] (fun iv wr => ∃ i : Nat, iv = .int .i64 i ∧ i ≤ n ∧ ∃ g, QOwn w wr p g (ordL cc i)) (fun iv _ => n - (intOf iv).toNat)
  case atStart => exact ⟨0, rfl, Nat.zero_le _, none, H1.out⟩
  case round =>
    clear H1
    obtain ⟨i, rfl, hi, g, hq⟩ := hrel
    by_cases hlt : i < n
    · have hltI : (i : Int) < n := by omega
      have hi0 : (0 : Int) ≤ (i : Int) := by omega
      have hi1 : IntKind.i64.wrap ((i : Int) + 1) = i + 1 := IntWalk.i64_in _ (by omega)
      have hi2 : IntKind.u16.wrap (i : Int) = i := by rw [IntKind.wrap_u16]; omega
      have hiB : i < B.length := by rw [← HnB.out]; exact hlt
      obtain ⟨x, hx⟩ : ∃ x, B[i]? = some x := ⟨B[i], List.getElem?_eq_getElem hiB⟩
      have hxm : (B.map bv)[i]? = some (bv x) := by simp [hx]
      obtain ⟨b, off, rfl, hbw, hcell⟩ := Rd.at_ Hb.out hxm
      have d0 := (hq.k.cell (p := ⟨b, off + i, none⟩) hbw (fun h => h)).trans (hcell i _ hxm)
      unfold bv at d0
      have hci : cc i = x.toNat % 5 := by rw [Hcc.out]; simp [List.getD, hx]
      have hx8 := x.toNat_lt
      generalize x.toNat = X at *
      have hcI := hc5 i
      have v1 : (X : Int).tmod 5 = cc i := by rw [Int.tmod_eq_emod_of_nonneg (by omega), hci]; simp
      have v2 : (X : Int) % 5 = cc i := by rw [hci]; simp
      obtain ⟨ci, hcie⟩ : ∃ ci, ci = cc i := ⟨_, rfl⟩
      have v3 : IntKind.i64.wrap (ci : Int) = ci := IntWalk.i64_in _ (by omega)
      have hP := own_put (ordJ cc i) hq (by rw [ordL_len]; omega)
      rw [(ordL_put cc (show i < 512 by omega)).1, (ordL_put cc (show i < 512 by omega)).2, show (ordJ cc i).v = .agg #[.int .i64 ci, .int .u16 i, .int .u16 0, .bool false] by rw [hcie]; rfl] at hP
      rw [← hcie] at v1 v2
      unfold qp at hP
      have Hq := Lib.hid hq
      have HP := Lib.hid hP
      have Hcell := Lib.hid hcell
      have Hx := Lib.hid hx
      have Hxm := Lib.hid hxm
      have Hci := Lib.hid hci
      have Hcie := Lib.hid hcie
      clear hq hP hcell hx hxm hci hcie
      go_wp2_with fail
      refine HP.out.mono ?_
      rintro e w2 ⟨rfl, g2, h2⟩
      have H2 := Lib.hid h2
      clear h2
      go_wp2_with fail
      go_roundw
      case rel => exact ⟨i + 1, by simp, by omega, g2, H2.out⟩
      case measure => simp [intOf]; omega
    · obtain rfl : i = n := by omega
      have hO := ord_start cc hc5 (show i ≤ 60 by omega)
      have hlb : wr.heap.size < (wr.alloc (.cells (fiveC fun _ => -1) 3)).heap.size := by simp
      have hbl := Blk.new wr 3 (fiveC fun _ => -1)
      have hq2 := hq.same ((Keeps.refl nowhere wr).alloc (.cells (fiveC fun _ => -1) 3))
      have hlw0 := hq.k.size
      have hll := ordL_len cc i
      obtain ⟨lb, hlbe⟩ : ∃ lb, lb = wr.heap.size := ⟨_, rfl⟩
      have hlw : Hid (w.heap.size ≤ lb) := Lib.hid (by rw [hlbe]; exact hlw0)
      rw [← hlbe] at hbl
      clear hlw0
      have HO := Lib.hid hO
      have Hbl := Lib.hid hbl
      have Hq2 := Lib.hid hq2
      have Hq := Lib.hid hq
      have Hll := Lib.hid hll
      clear hO hbl hq2 hq hll
      go_wp2_with fail
      rw [← hlbe]
      have Hlbe := Lib.hid hlbe
      clear hlbe
      go_loopw [8] (fun yv w2 => ∃ (y : Nat) (l : List J) (last : Nat → Int), yv = .int .i64 y ∧ y ≤ i ∧ QOwn w w2 p g l ∧ l.length = i - y ∧ Ord l last ∧ Blk w2 lb 3 (fiveC last)) (fun yv _ => i - (intOf yv).toNat)
      case atStart => exact ⟨0, ordL cc i, fun _ => -1, rfl, Nat.zero_le _, Hq2.out, by rw [Hll.out]; omega, HO.out, Hbl.out⟩
      case round =>
        obtain ⟨y, l, last, rfl, hy, hql, hlen, hord, hblk⟩ := hrel
        clear Hbl Hq2 Hq Hll HO hlb
        by_cases hyi : y < i
        · have hyI : (y : Int) < i := by omega
          have hy0 : (0 : Int) ≤ (y : Int) := by omega
          have hy1 : IntKind.i64.wrap ((y : Int) + 1) = y + 1 := IntWalk.i64_in _ (by omega)
          have hlne : l ≠ [] := by intro e; rw [e] at hlen; simp at hlen; omega
          by_cases hy2 : y < n2
          · have hy2I : (y : Int) < n2 := by omega
            have hyz : y < zs.length := by rw [← Hnz.out]; exact hy2
            obtain ⟨N, hN⟩ : ∃ N, zs[y]? = some N := ⟨zs[y], List.getElem?_eq_getElem hyz⟩
            have hNm : (zs.map (Value.int .i64))[y]? = some (.int .i64 N) := by simp [hN]
            obtain ⟨b1, off1, rfl, hbw1, hcell1⟩ := Rd.at_ Hz.out hNm
            have d1 := (hql.k.cell (p := ⟨b1, off1 + y, none⟩) hbw1 (fun h => h)).trans (hcell1 y _ hNm)
            have hN63 : N ≤ 9223372036854775807 := (Hzs.out N (List.mem_of_getElem? hN)).2
            clear hcell1 hNm hN
            obtain ⟨j, hj, hjl⟩ := pick_is hlne N
            obtain ⟨-, hord2, hlen2⟩ := ord_pick hord hj
            obtain ⟨hpv, hpl⟩ := pick_val hj
            obtain ⟨-, hj0, hj4, hjt⟩ := hord.ok j hjl
            have hla := hord.la j hjl
            have hP := own_pick N hql (by omega) hN63
            rw [hpv, hpl] at hP
            obtain ⟨jc, jt, jo, js⟩ := j
            simp only at hord2 hlen2 hj0 hj4 hjt hla hP
            obtain ⟨c, rfl⟩ := Int.eq_ofNat_of_zero_le hj0
            rw [Int.toNat_natCast] at hord2 hla
            have hc4 : ¬ (4 : Int) < c := by omega
            have hc5' : c < 5 := by omega
            have hc6 : ¬ 4 < c := by omega
            have hc7 : decide (4 < c) = false := decide_eq_false hc6
            have hc8 : decide ((4 : Int) < c) = false := decide_eq_false hc4
            have hc9 : decide ((c : Int) < 0) = false := decide_eq_false (by omega)
            have hcI : (c : Int) < 5 := by omega
            have hc0 : (0 : Int) ≤ c := by omega
            have ht1 : IntKind.i64.wrap (jt : Int) = jt := IntWalk.i64_in _ (by omega)
            have hla2 : ¬ (jt : Int) ≤ last c := by omega
            unfold J.v qp at hP
            simp only at hP
            have hap := qat_apart hql.q hblk (by decide) (by decide)
            clear hpv hpl hj hjl hord hlne hj0 hj4
            have Hql := Lib.hid hql
            have HP := Lib.hid hP
            have Hblk := Lib.hid hblk
            have Hord2 := Lib.hid hord2
            have Hlen2 := Lib.hid hlen2
            have Hap := Lib.hid hap
            clear hql hP hblk hord2 hlen2 hap
            go_wp2_with fail
            refine HP.out.mono ?_
            rintro e w9 ⟨rfl, h9, hk9⟩
            have hb9 := Hblk.out.keep hk9 Hap.out
            have hl9 : w9.cell? ⟨lb, c, none⟩ = some (.int .i64 (last c)) := (hb9.cell c).trans (fiveC_get last hc5')
            have hf9 := hb9.frozen c
            have hlt9 := hb9.lt
            have cl1 : ∀ w', w' = (w9.alloc (.cells #[.int .i64 c, .int .u16 jt, .int .u16 jo, .bool js] 45)).drew → w'.cell? ⟨w9.heap.size, 1, none⟩ = some (.int .u16 jt) := fun w' e => by rw [e]; simp
            obtain ⟨h11', hb11'⟩ := own_mark h9 hb9 hlw.out hc5' (jt : Int)
            have h11 := h11'.same ((Keeps.refl nowhere _).alloc (.cells #[.int .i64 c, .int .u16 jt, .int .u16 jo, .bool js] 45))
            have hb11 := hb11'.alloc (.cells #[.int .i64 c, .int .u16 jt, .int .u16 jo, .bool js] 45)
            clear h11' hb11'
            clear hk9 hb9 h9
            have H11 := Lib.hid h11
            have Hb11 := Lib.hid hb11
            clear h11 hb11
            go_wp2_with fail
            refine wp_region_script [13, 14, 15, 16, 17, 19, 21, 22] [14] [.es [0, 1, 2, 3, 4, 5, 6, 7, 8, 9, 10, 11, 12] false, .ps [13], .fs [14], .ps [15, 16, 17], .es [18] true, .ps [19], .es [20] true, .ps [21, 22]] (fun w' => w' = (w9.alloc (.cells #[.int .i64 c, .int .u16 jt, .int .u16 jo, .bool js] 45)).drew) rfl (by kernel_rfl) ?_
            refine wpS_es rfl fun K hK => ?_
            have HK := Lib.hid hK
            clear hK
            simp only [List.map_cons, List.map_nil, Option.getD_some, List.getElem?_toArray, List.getElem?_cons_zero, List.getElem?_cons_succ]
            go_wp2_with fail
            refine HK.out _ _ (fun h => by cases h) ?_
            clear HK K
            refine wpS_ps rfl fun K hK => ?_
            simp only [List.map_cons, List.map_nil, Option.getD_some, List.getElem?_toArray, List.getElem?_cons_zero, List.getElem?_cons_succ]
            iterate 1 (first | (apply quietO_cons _ rfl; (intro w' _; go_simp; rfl)) | apply quietO_skip rfl)
            refine hK _ ?_
            clear hK K
            simp only [Act.put, List.setIfInBounds_toArray, List.set_cons_zero, List.set_cons_succ]
            refine wpS_fs rfl (rfl) fun K hK => ?_
            simp only [List.map_cons, List.map_nil, Option.getD_some, List.getElem?_toArray, List.getElem?_cons_zero, List.getElem?_cons_succ]
            iterate 1 (first | (apply quietO_cons _ rfl; (intro w' hs; have c_0 := cl1 w' hs; go_simp; rfl)) | apply quietO_skip rfl)
            refine hK _ ?_
            clear hK K
            simp only [Act.put, List.setIfInBounds_toArray, List.set_cons_zero, List.set_cons_succ]
            refine wpS_ps rfl fun K hK => ?_
            simp only [List.map_cons, List.map_nil, Option.getD_some, List.getElem?_toArray, List.getElem?_cons_zero, List.getElem?_cons_succ]
            iterate 3 (first | (apply quietO_cons _ rfl; (intro w' _; go_simp; rfl)) | apply quietO_skip rfl)
            refine hK _ ?_
            clear hK K
            simp only [Act.put, List.setIfInBounds_toArray, List.set_cons_zero, List.set_cons_succ]
            refine wpS_es rfl fun K hK => ?_
            have HK := Lib.hid hK
            clear hK
            simp only [List.map_cons, List.map_nil, Option.getD_some, List.getElem?_toArray, List.getElem?_cons_zero, List.getElem?_cons_succ]
            go_wp2_with fail
            refine HK.out _ _ (fun _ => rfl) ?_
            clear HK K
            refine wpS_ps rfl fun K hK => ?_
            simp only [List.map_cons, List.map_nil, Option.getD_some, List.getElem?_toArray, List.getElem?_cons_zero, List.getElem?_cons_succ]
            iterate 1 (first | (apply quietO_cons _ rfl; (intro w' _; go_simp; rfl)) | apply quietO_skip rfl)
            refine hK _ ?_
            clear hK K
            simp only [Act.put, List.setIfInBounds_toArray, List.set_cons_zero, List.set_cons_succ]
            refine wpS_es rfl fun K hK => ?_
            have HK := Lib.hid hK
            clear hK
            simp only [List.map_cons, List.map_nil, Option.getD_some, List.getElem?_toArray, List.getElem?_cons_zero, List.getElem?_cons_succ]
            go_wp2_with fail
            refine HK.out _ _ (fun _ => rfl) ?_
            clear HK K
            refine wpS_ps rfl fun K hK => ?_
            simp only [List.map_cons, List.map_nil, Option.getD_some, List.getElem?_toArray, List.getElem?_cons_zero, List.getElem?_cons_succ]
            iterate 2 (first | (apply quietO_cons _ rfl; (intro w' _; go_simp; rfl)) | apply quietO_skip rfl)
            refine hK _ ?_
            clear hK K
            simp only [Act.put, List.setIfInBounds_toArray, List.set_cons_zero, List.set_cons_succ]
            refine wpS_nil ?_
            clear cl1
            go_wp2_with fail
            go_roundw
            case rel => exact ⟨y + 1, _, _, by simp, by omega, H11.out.same (Keeps.refl nowhere _).drew, by rw [Hlen2.out]; omega, Hord2.out, Hb11.out.drew⟩
            case measure => simp [intOf]; omega
          · have hy2I : ¬ (y : Int) < n2 := by omega
            have hN63 : (0 : Int) ≤ 9223372036854775807 := by omega
            obtain ⟨j, hj, hjl⟩ := pick_is hlne 0
            obtain ⟨-, hord2, hlen2⟩ := ord_pick hord hj
            obtain ⟨hpv, hpl⟩ := pick_val hj
            obtain ⟨-, hj0, hj4, hjt⟩ := hord.ok j hjl
            have hla := hord.la j hjl
            have hP := own_pick 0 hql (by omega) hN63
            rw [hpv, hpl] at hP
            obtain ⟨jc, jt, jo, js⟩ := j
            simp only at hord2 hlen2 hj0 hj4 hjt hla hP
            obtain ⟨c, rfl⟩ := Int.eq_ofNat_of_zero_le hj0
            rw [Int.toNat_natCast] at hord2 hla
            have hc4 : ¬ (4 : Int) < c := by omega
            have hc5' : c < 5 := by omega
            have hc6 : ¬ 4 < c := by omega
            have hc7 : decide (4 < c) = false := decide_eq_false hc6
            have hc8 : decide ((4 : Int) < c) = false := decide_eq_false hc4
            have hc9 : decide ((c : Int) < 0) = false := decide_eq_false (by omega)
            have hcI : (c : Int) < 5 := by omega
            have hc0 : (0 : Int) ≤ c := by omega
            have ht1 : IntKind.i64.wrap (jt : Int) = jt := IntWalk.i64_in _ (by omega)
            have hla2 : ¬ (jt : Int) ≤ last c := by omega
            unfold J.v qp at hP
            simp only at hP
            have hap := qat_apart hql.q hblk (by decide) (by decide)
            clear hpv hpl hj hjl hord hlne hj0 hj4
            have Hql := Lib.hid hql
            have HP := Lib.hid hP
            have Hblk := Lib.hid hblk
            have Hord2 := Lib.hid hord2
            have Hlen2 := Lib.hid hlen2
            have Hap := Lib.hid hap
            clear hql hP hblk hord2 hlen2 hap
            go_wp2_with fail
            refine HP.out.mono ?_
            rintro e w9 ⟨rfl, h9, hk9⟩
            have hb9 := Hblk.out.keep hk9 Hap.out
            have hl9 : w9.cell? ⟨lb, c, none⟩ = some (.int .i64 (last c)) := (hb9.cell c).trans (fiveC_get last hc5')
            have hf9 := hb9.frozen c
            have hlt9 := hb9.lt
            have cl1 : ∀ w', w' = (w9.alloc (.cells #[.int .i64 c, .int .u16 jt, .int .u16 jo, .bool js] 45)).drew → w'.cell? ⟨w9.heap.size, 1, none⟩ = some (.int .u16 jt) := fun w' e => by rw [e]; simp
            obtain ⟨h11', hb11'⟩ := own_mark h9 hb9 hlw.out hc5' (jt : Int)
            have h11 := h11'.same ((Keeps.refl nowhere _).alloc (.cells #[.int .i64 c, .int .u16 jt, .int .u16 jo, .bool js] 45))
            have hb11 := hb11'.alloc (.cells #[.int .i64 c, .int .u16 jt, .int .u16 jo, .bool js] 45)
            clear h11' hb11'
            clear hk9 hb9 h9
            have H11 := Lib.hid h11
            have Hb11 := Lib.hid hb11
            clear h11 hb11
            go_wp2_with fail
            refine wp_region_script [13, 14, 15, 16, 17, 19, 21, 22] [14] [.es [0, 1, 2, 3, 4, 5, 6, 7, 8, 9, 10, 11, 12] false, .ps [13], .fs [14], .ps [15, 16, 17], .es [18] true, .ps [19], .es [20] true, .ps [21, 22]] (fun w' => w' = (w9.alloc (.cells #[.int .i64 c, .int .u16 jt, .int .u16 jo, .bool js] 45)).drew) rfl (by kernel_rfl) ?_
            refine wpS_es rfl fun K hK => ?_
            have HK := Lib.hid hK
            clear hK
            simp only [List.map_cons, List.map_nil, Option.getD_some, List.getElem?_toArray, List.getElem?_cons_zero, List.getElem?_cons_succ]
            go_wp2_with fail
            refine HK.out _ _ (fun h => by cases h) ?_
            clear HK K
            refine wpS_ps rfl fun K hK => ?_
            simp only [List.map_cons, List.map_nil, Option.getD_some, List.getElem?_toArray, List.getElem?_cons_zero, List.getElem?_cons_succ]
            iterate 1 (first | (apply quietO_cons _ rfl; (intro w' _; go_simp; rfl)) | apply quietO_skip rfl)
            refine hK _ ?_
            clear hK K
            simp only [Act.put, List.setIfInBounds_toArray, List.set_cons_zero, List.set_cons_succ]
            refine wpS_fs rfl (rfl) fun K hK => ?_
            simp only [List.map_cons, List.map_nil, Option.getD_some, List.getElem?_toArray, List.getElem?_cons_zero, List.getElem?_cons_succ]
            iterate 1 (first | (apply quietO_cons _ rfl; (intro w' hs; have c_0 := cl1 w' hs; go_simp; rfl)) | apply quietO_skip rfl)
            refine hK _ ?_
            clear hK K
            simp only [Act.put, List.setIfInBounds_toArray, List.set_cons_zero, List.set_cons_succ]
            refine wpS_ps rfl fun K hK => ?_
            simp only [List.map_cons, List.map_nil, Option.getD_some, List.getElem?_toArray, List.getElem?_cons_zero, List.getElem?_cons_succ]
            iterate 3 (first | (apply quietO_cons _ rfl; (intro w' _; go_simp; rfl)) | apply quietO_skip rfl)
            refine hK _ ?_
            clear hK K
            simp only [Act.put, List.setIfInBounds_toArray, List.set_cons_zero, List.set_cons_succ]
            refine wpS_es rfl fun K hK => ?_
            have HK := Lib.hid hK
            clear hK
            simp only [List.map_cons, List.map_nil, Option.getD_some, List.getElem?_toArray, List.getElem?_cons_zero, List.getElem?_cons_succ]
            go_wp2_with fail
            refine HK.out _ _ (fun _ => rfl) ?_
            clear HK K
            refine wpS_ps rfl fun K hK => ?_
            simp only [List.map_cons, List.map_nil, Option.getD_some, List.getElem?_toArray, List.getElem?_cons_zero, List.getElem?_cons_succ]
            iterate 1 (first | (apply quietO_cons _ rfl; (intro w' _; go_simp; rfl)) | apply quietO_skip rfl)
            refine hK _ ?_
            clear hK K
            simp only [Act.put, List.setIfInBounds_toArray, List.set_cons_zero, List.set_cons_succ]
            refine wpS_es rfl fun K hK => ?_
            have HK := Lib.hid hK
            clear hK
            simp only [List.map_cons, List.map_nil, Option.getD_some, List.getElem?_toArray, List.getElem?_cons_zero, List.getElem?_cons_succ]
            go_wp2_with fail
            refine HK.out _ _ (fun _ => rfl) ?_
            clear HK K
            refine wpS_ps rfl fun K hK => ?_
            simp only [List.map_cons, List.map_nil, Option.getD_some, List.getElem?_toArray, List.getElem?_cons_zero, List.getElem?_cons_succ]
            iterate 2 (first | (apply quietO_cons _ rfl; (intro w' _; go_simp; rfl)) | apply quietO_skip rfl)
            refine hK _ ?_
            clear hK K
            simp only [Act.put, List.setIfInBounds_toArray, List.set_cons_zero, List.set_cons_succ]
            refine wpS_nil ?_
            clear cl1
            go_wp2_with fail
            go_roundw
            case rel => exact ⟨y + 1, _, _, by simp, by omega, H11.out.same (Keeps.refl nowhere _).drew, by rw [Hlen2.out]; omega, Hord2.out, Hb11.out.drew⟩
            case measure => simp [intOf]; omega
        · have hl0 : l = [] := List.eq_nil_of_length_eq_zero (by omega)
          obtain rfl : y = i := by omega
          subst hl0
          have hP := own_pick 0 hql (by simp) (by omega)
          rw [show pickV [] 0 = .tuple #[.agg #[.int .i64 0, .int .u16 0, .int .u16 0, .bool false], .bool false] from rfl, show pickL [] 0 = [] from rfl] at hP
          unfold qp at hP
          have Hql := Lib.hid hql
          have HP := Lib.hid hP
          have Hord := Lib.hid hord
          have Hblk := Lib.hid hblk
          clear hql hP hord hblk
          go_wp2_with fail
          refine HP.out.mono ?_
          rintro e w2 ⟨rfl, h2, -⟩
          have h3 := h2.same ((Keeps.refl nowhere w2).alloc (.cells #[.int .i64 0, .int .u16 0, .int .u16 0, .bool false] 45))
          clear h2
          have H3 := Lib.hid h3
          clear h3
          go_wp2_with fail
          refine (own_len H3.out).mono ?_
          rintro e w4 ⟨rfl, rfl⟩
          go_wp2_with fail
          go_ret
          exact ⟨rfl, H3.out.k⟩
end Go.Proofs.Ytnccgmffgmfinaa
