/-
  fid: the statement FidsApart, walked.
-/
import Derived.Test.YtnddaildicmneaaFd4
import Derived.Test.YtnddaildicmneaaOpenBy
namespace Go.Proofs.Ytnddaildicmneaa
open Go.RowKit Go.Maps

section
variable {α : Type}
theorem look_cons (p : Nat × α) (l : List (Nat × α)) (y : Nat) : look (p :: l) y = if p.1 = y then some p.2 else look l y := by
  unfold look
  rw [List.find?_cons]
  by_cases h : p.1 = y
  · simp [h]
  · rw [beq_false_of_ne h, if_neg h]
theorem look_ins (x : Nat) (f : α) : ∀ (l : List (Nat × α)) (_ : ∀ p ∈ l, p.1 ≠ x) (y : Nat), look (insM (x, f) l) y = if y = x then some f else look l y
  | [], _, y => by
    rw [insM, look_cons]
    by_cases h : y = x
    · subst h; simp
    · rw [if_neg (fun e => h e.symm), if_neg h]
  | q :: r, hn, y => by
    unfold insM
    split
    · rw [look_cons]
      by_cases h : y = x
      · subst h; simp
      · rw [if_neg (fun e => h e.symm), if_neg h]
    · rw [look_cons, look_cons, look_ins x f r (fun p hp => hn p (List.mem_cons_of_mem _ hp)) y]
      have hq := hn q (List.mem_cons_self ..)
      by_cases h : y = x
      · subst h; rw [if_neg hq]; simp
      · rw [if_neg h, if_neg h]
theorem look_del (x : Nat) : ∀ (l : List (Nat × α)) (y : Nat), look (delM l x) y = if y = x then none else look l y
  | [], y => by simp [delM, look]
  | q :: r, y => by
    have ih := look_del x r y
    unfold delM at ih ⊢
    rw [List.filter_cons, look_cons]
    by_cases h1 : q.1 = x
    · rw [if_neg (by simp [h1]), ih]
      by_cases h : y = x
      · rw [if_pos h, if_pos h]
      · rw [if_neg h, if_neg h, if_neg (fun e => h (by rw [← e, h1]))]
    · rw [if_pos (by simp [h1]), look_cons, ih]
      by_cases h : y = x
      · subst h; rw [if_pos rfl, if_neg h1, if_pos rfl]
      · rw [if_neg h, if_neg h]
theorem look_put (l : List (Nat × α)) (x : Nat) (f : α) (y : Nat) : look (putM l x f) y = if y = x then some f else look l y := by
  unfold putM
  rw [look_ins x f _ (fun p hp => by simpa using (List.mem_filter.1 hp).2), look_del]
  by_cases h : y = x
  · rw [if_pos h, if_pos h]
  · rw [if_neg h, if_neg h, if_neg h]
end
/-- what the table holds behind the first `i` puts -/
structure ApSt (B : List UInt8) (i : Nat) (l : List (Nat × FidV)) : Prop where
  len : l.length ≤ i
  look : ∀ x, look l x = if x ∈ (B.take i).map UInt8.toNat then some (pathF (x + 1)) else none
theorem ApSt.start (B : List UInt8) : ApSt B 0 [] := ⟨Nat.le_refl _, fun x => by simp [Go.Proofs.Ytnddaildicmneaa.look]⟩
theorem ApSt.step {B : List UInt8} {i : Nat} {l : List (Nat × FidV)} (h : ApSt B i l) (hi : i < B.length) (h60 : i < 60) : ApSt B (i + 1) (putL l B[i].toNat (pathF (B[i].toNat + 1))) := by
  have hb := B[i].toNat_lt
  have hmem : ∀ x, x ∈ (B.take (i + 1)).map UInt8.toNat ↔ x ∈ (B.take i).map UInt8.toNat ∨ x = B[i].toNat := fun x => by
    rw [List.take_succ_eq_append_getElem hi]; simp only [List.map_append, List.map_cons, List.map_nil, List.mem_append, List.mem_singleton]
  have hne : ¬ B[i].toNat = 4294967295 := by omega
  by_cases hm : B[i].toNat ∈ (B.take i).map UInt8.toNat
  · have hs : (Go.Proofs.Ytnddaildicmneaa.look l B[i].toNat).isSome = true := by rw [h.look, if_pos hm]; rfl
    have hE : putE l B[i].toNat = 9 := by rw [putE, if_neg hne, if_pos hs]
    rw [putL, if_neg (by rw [hE]; decide)]
    refine ⟨Nat.le_succ_of_le h.len, fun x => ?_⟩
    rw [h.look]
    by_cases hx : x ∈ (B.take i).map UInt8.toNat
    · rw [if_pos hx, if_pos ((hmem x).2 (.inl hx))]
    · rw [if_neg hx, if_neg (fun hc => ((hmem x).1 hc).elim hx (fun e => hx (by rw [e]; exact hm)))]
  · have hs : ¬ (Go.Proofs.Ytnddaildicmneaa.look l B[i].toNat).isSome = true := by rw [h.look, if_neg hm]; simp
    have hE : putE l B[i].toNat = 0 := by rw [putE, if_neg hne, if_neg hs, if_neg (by have := h.len; omega)]
    rw [putL, if_pos hE]
    refine ⟨Nat.le_trans (length_putM _ _ _) (by have := h.len; omega), fun x => ?_⟩
    rw [look_put, h.look]
    by_cases hx : x = B[i].toNat
    · rw [if_pos hx, if_pos ((hmem x).2 (.inr hx)), hx]
    · rw [if_neg hx]
      by_cases hx2 : x ∈ (B.take i).map UInt8.toNat
      · rw [if_pos hx2, if_pos ((hmem x).2 (.inl hx2))]
      · rw [if_neg hx2, if_neg (fun hc => ((hmem x).1 hc).elim hx2 hx)]

set_option maxRecDepth 20000 in
set_option maxHeartbeats 8000000 in
theorem fapart_any (v0 : Value) (g0 : Option Nat) (B : List UInt8) (c : Nat) (w : World) (hr : Rd w v0 g0 (B.map bv)) (hc : c < 256) : Calls Try.prog 5 #[v0, .int .u8 c] w (YesF w) := by
  obtain ⟨A0, c0, rfl, hlc, hmc⟩ := hr.form
  rw [List.length_map] at *
  unfold maxLen at hmc
  by_cases hlong : 60 < B.length
  · have hl' : (60 : Int) < B.length := by omega
    have Hr := Lib.hid hr
    clear hr
    go_enter Try.func5, Try.ntmps5
    go_wp2_with fail
    refine (known20 w).mono ?_
    rintro e w1 ⟨rfl, hk1⟩
    have Hk1 := Lib.hid hk1
    clear hk1
    go_wp2_with fail
    go_ret
    exact ⟨rfl, Hk1.out⟩
  · have hl' : ¬ (60 : Int) < B.length := by omega
    have hpl : ∀ k, k < B.length → ∃ b o, A0 = some ⟨b, o, none⟩ ∧ g0 = some b ∧ b < w.heap.size ∧ ∀ j (hj : j < B.length), w.cell? ⟨b, o + j, none⟩ = some (.int .u8 (B[j].toNat : Int)) := fun k hk => by
      obtain ⟨b, o, c, he, hg, hlt, -, -, hcc⟩ := hr.plain (by rw [List.length_map]; omega)
      injection he with e1 e2 e3
      exact ⟨b, o, e1, hg, hlt, fun j hj => hcc j _ (get_bv B j hj)⟩
    obtain ⟨n, hn⟩ : ∃ n, n = B.length := ⟨_, rfl⟩
    rw [← hn] at hr hl' hlc hlong ⊢
    have Hr := Lib.hid hr
    have Hpl := Lib.hid hpl
    have Hn := Lib.hid hn
    clear hr hpl hn
    go_enter Try.func5, Try.ntmps5
    go_wp2_with fail
    refine (known20 w).mono ?_
    rintro e w1 ⟨rfl, hk1⟩
    go_wp2_with fail
    refine (own_fnew w _ hk1).mono ?_
    rintro e w2 ⟨p, b, rfl, h2, -, -, -⟩
    clear hk1
    unfold fp
    have H2 := Lib.hid h2
    clear h2
    go_wp2_with fail
    refine (own_fnew w _ H2.out.k).mono ?_
    rintro e w3 ⟨q, d, rfl, u3, hk3, hq3, hd3⟩
    have h3 := H2.out.same hk3
    have hpq : q ≠ b ∧ d ≠ b := ⟨by have := H2.out.t.lt.2; omega, by have := H2.out.t.lt.2; omega⟩
    clear hk3 hq3 hd3
    unfold fp
    have H3 := Lib.hid h3
    have U3 := Lib.hid u3
    have Hpq := Lib.hid hpq
    clear h3 u3 hpq
    go_wp2_with fail
    go_loopw [7] (fun iv wr => ∃ i : Nat, iv = .int .i64 i ∧ i ≤ n ∧ ∃ l, ApSt B i l ∧ FOwn w wr p b l ∧ FOwn w wr q d []) (fun iv _ => n - (intOf iv).toNat)
    case atStart => exact ⟨0, rfl, Nat.zero_le _, [], ApSt.start B, H3.out, U3.out⟩
    case round =>
      obtain ⟨i, rfl, hi, l, hap, hq, hu⟩ := hrel
      by_cases hlt : i < n
      · have hltI : (i : Int) < n := by omega
        have hi0 : (0 : Int) ≤ (i : Int) := by omega
        have hi1 : IntKind.i64.wrap ((i : Int) + 1) = i + 1 := IntWalk.i64_in _ (by omega)
        obtain ⟨gb, o, rfl, hg, hgl, hcc⟩ := Hpl.out i (by rw [← Hn.out]; exact hlt)
        have hiB : i < B.length := by rw [← Hn.out]; exact hlt
        obtain ⟨x, hx⟩ : ∃ x, x = B[i].toNat := ⟨_, rfl⟩
        have hx256 : x < 256 := by rw [hx]; exact B[i].toNat_lt
        have q1 : ∀ w', Keeps nowhere wr.drew w' → w'.cell? ⟨gb, o + i, none⟩ = some (.int .u8 x) := fun w' hk => by
          rw [hx, ← hcc i hiB]
          exact (hk.cell (p := ⟨gb, o + i, none⟩) (Nat.lt_of_lt_of_le hgl hq.k.size) (fun h => h)).trans (hq.k.cell (p := ⟨gb, o + i, none⟩) hgl (fun h => h))
        have hst := hap.step hiB (by omega)
        rw [← hx] at hst
        obtain ⟨y, hy⟩ : ∃ y, y = x + 1 := ⟨_, rfl⟩
        have v1 : IntKind.u32.wrap (x : Int) = x := by rw [IntKind.wrap_u32]; omega
        have v2 : IntKind.u64.wrap (x : Int) = x := by rw [IntKind.wrap_u64]; omega
        have v3 : IntKind.u64.wrap ((x : Int) + 1) = (y : Int) := by rw [IntKind.wrap_u64]; omega
        have hP := own_fput x (pathF y) (h := FOwn.same hq (Keeps.refl nowhere wr).drew) (by omega) (by have := hap.len; omega)
        rw [← hy] at hst
        unfold fp at hP
        simp only [pathF, FidV.v] at hP
        clear hcc
        have hiB2 := hiB
        have Hap := Lib.hid hap
        have Hq := Lib.hid hq
        have Hu := Lib.hid hu
        have Hst := Lib.hid hst
        have Hy := Lib.hid hy
        have HP := Lib.hid hP
        have Hg := Lib.hid hg
        have Hgl := Lib.hid hgl
        clear hap hq hu hst hy hP hg hgl
        clear hx hiB
        go_wp2_with fail
        refine wp_region_script [0, 1, 2, 3, 4, 5, 6, 7, 8, 9, 10, 11, 12] [4, 9] [.ps [0, 1, 2], .ps [3], .fs [4], .ps [5, 6, 7], .ps [8], .fs [9], .ps [10, 11, 12], .es [13] false] (Keeps nowhere wr.drew) rfl (by kernel_rfl) ?_
        refine wpS_ps rfl fun K hK => ?_
        simp only [List.map_cons, List.map_nil, Option.getD_some, List.getElem?_toArray, List.getElem?_cons_zero, List.getElem?_cons_succ]
        iterate 3 (first | (apply quietO_cons _ rfl; (intro w' _; go_simp; rfl)) | apply quietO_skip rfl)
        refine hK _ ?_
        clear hK K
        simp only [Act.put, List.setIfInBounds_toArray, List.set_cons_zero, List.set_cons_succ]
        refine wpS_ps rfl fun K hK => ?_
        simp only [List.map_cons, List.map_nil, Option.getD_some, List.getElem?_toArray, List.getElem?_cons_zero, List.getElem?_cons_succ]
        iterate 1 (first | (apply quietO_cons _ rfl; (intro w' _; go_simp; rfl)) | apply quietO_skip rfl)
        refine hK _ ?_
        clear hK K
        simp only [Act.put, List.setIfInBounds_toArray, List.set_cons_zero, List.set_cons_succ]
        refine wpS_fs rfl (Keeps.refl _ _) fun K hK => ?_
        simp only [List.map_cons, List.map_nil, Option.getD_some, List.getElem?_toArray, List.getElem?_cons_zero, List.getElem?_cons_succ]
        iterate 1 (first | (apply quietO_cons _ rfl; (intro w' hs; have c_0 := q1 w' hs; go_simp; rfl)) | apply quietO_skip rfl)
        refine hK _ ?_
        clear hK K
        simp only [Act.put, List.setIfInBounds_toArray, List.set_cons_zero, List.set_cons_succ]
        refine wpS_ps rfl fun K hK => ?_
        simp only [List.map_cons, List.map_nil, Option.getD_some, List.getElem?_toArray, List.getElem?_cons_zero, List.getElem?_cons_succ]
        iterate 3 (first | (apply quietO_cons _ rfl; (intro w' _; go_simp; rfl)) | apply quietO_skip rfl)
        refine hK _ ?_
        clear hK K
        simp only [Act.put, List.setIfInBounds_toArray, List.set_cons_zero, List.set_cons_succ]
        refine wpS_ps rfl fun K hK => ?_
        simp only [List.map_cons, List.map_nil, Option.getD_some, List.getElem?_toArray, List.getElem?_cons_zero, List.getElem?_cons_succ]
        iterate 1 (first | (apply quietO_cons _ rfl; (intro w' _; go_simp; rfl)) | apply quietO_skip rfl)
        refine hK _ ?_
        clear hK K
        simp only [Act.put, List.setIfInBounds_toArray, List.set_cons_zero, List.set_cons_succ]
        refine wpS_fs rfl (Keeps.refl _ _) fun K hK => ?_
        simp only [List.map_cons, List.map_nil, Option.getD_some, List.getElem?_toArray, List.getElem?_cons_zero, List.getElem?_cons_succ]
        iterate 1 (first | (apply quietO_cons _ rfl; (intro w' hs; have c_0 := q1 w' hs; go_simp; rfl)) | apply quietO_skip rfl)
        refine hK _ ?_
        clear hK K
        simp only [Act.put, List.setIfInBounds_toArray, List.set_cons_zero, List.set_cons_succ]
        refine wpS_ps rfl fun K hK => ?_
        simp only [List.map_cons, List.map_nil, Option.getD_some, List.getElem?_toArray, List.getElem?_cons_zero, List.getElem?_cons_succ]
        iterate 3 (first | (apply quietO_cons _ rfl; (intro w' _; go_simp; rfl)) | apply quietO_skip rfl)
        refine hK _ ?_
        clear hK K
        simp only [Act.put, List.setIfInBounds_toArray, List.set_cons_zero, List.set_cons_succ]
        clear q1
        refine wpS_es rfl fun K hK => ?_
        have HK := Lib.hid hK
        clear hK
        simp only [List.map_cons, List.map_nil, Option.getD_some, List.getElem?_toArray, List.getElem?_cons_zero, List.getElem?_cons_succ]
        go_wp2_with fail
        refine HP.out.mono ?_
        rintro e w4 ⟨rfl, h4, hk4⟩
        have u4 := Hu.out.aside (w' := w4) (b2 := b) (Keeps.trans ((Keeps.refl nowhere wr).drew.mono (fun _ _ h => h.elim)) hk4 (fun _ _ h => h)) H2.out.lob Hpq.out.1 Hpq.out.2
        clear hk4
        have H4 := Lib.hid h4
        have U4 := Lib.hid u4
        clear h4 u4
        go_wp2_with fail
        refine HK.out _ _ (fun h => by cases h) ?_
        clear HK K
        refine wpS_nil ?_
        go_wp2_with fail
        go_roundw
        case rel => exact ⟨i + 1, by simp, by omega, _, Hst.out, H4.out, U4.out⟩
        case measure => simp [intOf]; omega
      · obtain rfl : i = n := by omega
        have v1 : IntKind.u32.wrap (c : Int) = c := by rw [IntKind.wrap_u32]; omega
        have hle := hap.len
        have hA := own_fdrop c hq (by omega) (by omega)
        obtain ⟨D, hD⟩ : ∃ D, D = delM l c := ⟨_, rfl⟩
        have hDl : D.length ≤ 60 := by rw [hD]; exact Nat.le_trans (length_delM l c) (by omega)
        rw [← hD] at hA
        obtain ⟨E, hE⟩ : ∃ E, E = getE l c := ⟨_, rfl⟩
        obtain ⟨G, hG⟩ : ∃ G, G = getF l c := ⟨_, rfl⟩
        rw [← hE, ← hG] at hA
        have hlook : ∀ x, look D x = if x = c then none else if x ∈ B.map UInt8.toNat then some (pathF (x + 1)) else none := fun x => by
          rw [hD, look_del, hap.look, Hn.out, List.take_length]
        have hEc : E = if c ∈ B.map UInt8.toNat then 0 else 8 := by
          rw [hE, getE, hap.look, Hn.out, List.take_length]
          by_cases h : c ∈ B.map UInt8.toNat
          · rw [if_pos h, if_pos h]; rfl
          · rw [if_neg h, if_neg h]; rfl
        clear hE hG
        obtain ⟨g1, g2, g3, g4, g5, g6⟩ := G
        unfold fp at hA
        simp only [FidV.v] at hA
        have Hap := Lib.hid hap
        have Hq := Lib.hid hq
        have Hu := Lib.hid hu
        have HA := Lib.hid hA
        have HD := Lib.hid hD
        have HDl := Lib.hid hDl
        have Hlook := Lib.hid hlook
        have HEc := Lib.hid hEc
        clear hap hq hu hA hD hDl hlook hEc
        go_wp2_with fail
        refine HA.out.mono ?_
        rintro e w4 ⟨rfl, h4, hk4⟩
        have u4 := Hu.out.aside hk4 H2.out.lob Hpq.out.1 Hpq.out.2
        clear hk4
        have hka := (Keeps.refl nowhere w4).alloc (.cells #[.string g1, .int .u64 g2, .bool g3, .int .u8 g4, .int .u64 g5, .int .i64 g6] 31)
        have h5 := h4.same hka
        have u5 := u4.same hka
        clear hka
        have H4 := Lib.hid h4
        have U4 := Lib.hid u4
        have H5 := Lib.hid h5
        have U5 := Lib.hid u5
        clear h4 u4 h5 u5
        go_wp2_with fail
        go_loopw [10, 11] (fun th iv wr => ∃ k : Nat, iv = .int .i64 k ∧ k ≤ i ∧ th = .bool (decide (c ∈ (B.take k).map UInt8.toNat)) ∧ FOwn w wr p b D ∧ FOwn w wr q d []) (fun _ iv _ => i - (intOf iv).toNat)
        case atStart => exact ⟨0, rfl, Nat.zero_le _, by simp, H5.out, U5.out⟩
        case round =>
          obtain ⟨k, rfl, hk, rfl, hq, hu⟩ := hrel
          by_cases hlk : k < i
          · have hltI : (k : Int) < i := by omega
            have hi0 : (0 : Int) ≤ (k : Int) := by omega
            have hi1 : IntKind.i64.wrap ((k : Int) + 1) = k + 1 := IntWalk.i64_in _ (by omega)
            obtain ⟨gb, o, rfl, hg, hgl, hcc⟩ := Hpl.out k (by rw [← Hn.out]; exact hlk)
            have hkB : k < B.length := by rw [← Hn.out]; exact hlk
            obtain ⟨x, hx⟩ : ∃ x, x = B[k].toNat := ⟨_, rfl⟩
            have hx256 : x < 256 := by rw [hx]; exact B[k].toNat_lt
            have hmem : ∀ y, y ∈ (B.take (k + 1)).map UInt8.toNat ↔ y ∈ (B.take k).map UInt8.toNat ∨ y = x := fun y => by
              rw [List.take_succ_eq_append_getElem hkB, hx]; simp only [List.map_append, List.map_cons, List.map_nil, List.mem_append, List.mem_singleton]
            have hxm : x ∈ B.map UInt8.toNat := by rw [hx]; exact List.mem_map.2 ⟨_, List.getElem_mem hkB, rfl⟩
            have q0 : ∀ w', Keeps nowhere wr w' → w'.cell? ⟨gb, o + k, none⟩ = some (.int .u8 x) := fun w' hk => by
              rw [hx, ← hcc k hkB]
              exact (hk.cell (p := ⟨gb, o + k, none⟩) (Nat.lt_of_lt_of_le hgl hq.k.size) (fun h => h)).trans (hq.k.cell (p := ⟨gb, o + k, none⟩) hgl (fun h => h))
            have cx := q0 wr (Keeps.refl _ _)
            have hglr := Nat.lt_of_lt_of_le hgl hq.k.size
            obtain ⟨TH, hTH⟩ : ∃ TH, TH = decide (c ∈ (B.take k).map UInt8.toNat) := ⟨_, rfl⟩
            rw [← hTH]
            by_cases hxc : x = c
            · have hxcI : ((x : Int) == (c : Int)) = true := by simp [hxc]
              have hTH2 : true = decide (c ∈ (B.take (k + 1)).map UInt8.toNat) := by rw [eq_comm, decide_eq_true_eq]; exact (hmem c).2 (.inr hxc.symm)
              clear hcc hx
              have Hq := Lib.hid hq
              have Hu := Lib.hid hu
              have Hxm := Lib.hid hxm
              have Hmem := Lib.hid hmem
              have HTH := Lib.hid hTH
              have HTH2 := Lib.hid hTH2
              have Hxc := Lib.hid hxc
              have Hg := Lib.hid hg
              have Hgl := Lib.hid hgl
              have Hglr := Lib.hid hglr
              have Q0 := Lib.hid q0
              clear hq hu hxm hmem hTH hTH2 hxc hg hgl hglr q0
              go_wp2_with fail
              go_roundw
              case rel => exact ⟨k + 1, by simp, by omega, by rw [← HTH2.out], Hq.out, Hu.out⟩
              case measure => simp [intOf]; omega
            · have hxcI : ((x : Int) == (c : Int)) = false := by simp; omega
              have hTH2 : TH = decide (c ∈ (B.take (k + 1)).map UInt8.toNat) := by
                rw [hTH, decide_eq_decide, hmem c]
                exact ⟨.inl, fun h => h.elim id (fun e => absurd e.symm hxc)⟩
              have hlx : look D x = some (pathF (x + 1)) := by rw [Hlook.out, if_neg hxc, if_pos hxm]
              have hgE : getE D x = 0 := by rw [getE, hlx]; rfl
              have hgF : getF D x = pathF (x + 1) := by rw [getF, hlx]; rfl
              obtain ⟨y, hy⟩ : ∃ y, y = x + 1 := ⟨_, rfl⟩
              have w1 : IntKind.u32.wrap (x : Int) = x := by rw [IntKind.wrap_u32]; omega
              have w2 : IntKind.u64.wrap (x : Int) = x := by rw [IntKind.wrap_u64]; omega
              have w3 : IntKind.u64.wrap ((x : Int) + 1) = (y : Int) := by rw [IntKind.wrap_u64]; omega
              have hP := own_fget x hq (by omega)
              rw [hgE, hgF, ← hy] at hP
              unfold fp at hP
              simp only [pathF, FidV.v] at hP
              clear hcc hx
              have Hq := Lib.hid hq
              have Hu := Lib.hid hu
              have Hxm := Lib.hid hxm
              have Hmem := Lib.hid hmem
              have HTH := Lib.hid hTH
              have HTH2 := Lib.hid hTH2
              have Hxc := Lib.hid hxc
              have Hg := Lib.hid hg
              have Hgl := Lib.hid hgl
              have Hglr := Lib.hid hglr
              have Q0 := Lib.hid q0
              have HP := Lib.hid hP
              have Hlx := Lib.hid hlx
              have HgE := Lib.hid hgE
              have HgF := Lib.hid hgF
              have Hy := Lib.hid hy
              clear hq hu hxm hmem hTH hTH2 hxc hg hgl hglr q0 hP hlx hgE hgF hy
              go_wp2_with fail
              refine HP.out.mono ?_
              rintro e w6 ⟨rfl, h6, hk6⟩
              have hka := hk6.alloc (.cells (pathF y).cs.toArray 31)
              have hbf := Blk.new w6 31 (pathF y).cs.toArray
              have h7 := Hq.out.same hka
              have u7 := Hu.out.same hka
              have q1 := fun w' (hk : Keeps nowhere (w6.alloc (.cells (pathF y).cs.toArray 31)).drew w') => Q0.out w' (hka.drew.more hk)
              have q2 : ∀ w', Keeps nowhere (w6.alloc (.cells (pathF y).cs.toArray 31)).drew w' → w'.cell? ⟨w6.heap.size, 1, none⟩ = some (.int .u64 y) := fun w' hk =>
                (hk.cell (p := ⟨w6.heap.size, 1, none⟩) hbf.lt (fun h => h)).trans (hbf.cell 1)
              simp only [pathF, FidV.cs] at q1 q2 h7 u7
              clear hka hbf hk6
              have H6 := Lib.hid h6
              have H7 := Lib.hid h7
              have U7 := Lib.hid u7
              clear h6 h7 u7
              go_wp2_with fail
              refine wp_region_script [0, 1, 2, 3, 4, 5, 6, 7, 8, 9, 10, 11, 12] [4, 8] [.ps [0, 1, 2], .ps [3], .fs [4], .ps [5, 6], .ps [7], .fs [8], .ps [9, 10], .ps [11, 12]] (Keeps nowhere (w6.alloc (.cells #[.string ByteArray.empty, .int .u64 y, .bool false, .int .u8 ((0 : Nat) : Int), .int .u64 ((0 : Nat) : Int), .int .i64 0] 31)).drew) rfl (by kernel_rfl) ?_
              refine wpS_ps rfl fun K hK => ?_
              simp only [List.map_cons, List.map_nil, Option.getD_some, List.getElem?_toArray, List.getElem?_cons_zero, List.getElem?_cons_succ]
              iterate 3 (first | (apply quietO_cons _ rfl; (intro w' _; go_simp; rfl)) | apply quietO_skip rfl)
              refine hK _ ?_
              clear hK K
              simp only [Act.put, List.setIfInBounds_toArray, List.set_cons_zero, List.set_cons_succ]
              refine wpS_ps rfl fun K hK => ?_
              simp only [List.map_cons, List.map_nil, Option.getD_some, List.getElem?_toArray, List.getElem?_cons_zero, List.getElem?_cons_succ]
              iterate 1 (first | (apply quietO_cons _ rfl; (intro w' _; go_simp; rfl)) | apply quietO_skip rfl)
              refine hK _ ?_
              clear hK K
              simp only [Act.put, List.setIfInBounds_toArray, List.set_cons_zero, List.set_cons_succ]
              refine wpS_fs rfl (Keeps.refl _ _) fun K hK => ?_
              simp only [List.map_cons, List.map_nil, Option.getD_some, List.getElem?_toArray, List.getElem?_cons_zero, List.getElem?_cons_succ]
              iterate 1 (first | (apply quietO_cons _ rfl; (intro w' hs; have c_0 := q2 w' hs; go_simp; rfl)) | apply quietO_skip rfl)
              refine hK _ ?_
              clear hK K
              simp only [Act.put, List.setIfInBounds_toArray, List.set_cons_zero, List.set_cons_succ]
              refine wpS_ps rfl fun K hK => ?_
              simp only [List.map_cons, List.map_nil, Option.getD_some, List.getElem?_toArray, List.getElem?_cons_zero, List.getElem?_cons_succ]
              iterate 2 (first | (apply quietO_cons _ rfl; (intro w' _; go_simp; rfl)) | apply quietO_skip rfl)
              refine hK _ ?_
              clear hK K
              simp only [Act.put, List.setIfInBounds_toArray, List.set_cons_zero, List.set_cons_succ]
              refine wpS_ps rfl fun K hK => ?_
              simp only [List.map_cons, List.map_nil, Option.getD_some, List.getElem?_toArray, List.getElem?_cons_zero, List.getElem?_cons_succ]
              iterate 1 (first | (apply quietO_cons _ rfl; (intro w' _; go_simp; rfl)) | apply quietO_skip rfl)
              refine hK _ ?_
              clear hK K
              simp only [Act.put, List.setIfInBounds_toArray, List.set_cons_zero, List.set_cons_succ]
              refine wpS_fs rfl (Keeps.refl _ _) fun K hK => ?_
              simp only [List.map_cons, List.map_nil, Option.getD_some, List.getElem?_toArray, List.getElem?_cons_zero, List.getElem?_cons_succ]
              iterate 1 (first | (apply quietO_cons _ rfl; (intro w' hs; have c_0 := q1 w' hs; go_simp; rfl)) | apply quietO_skip rfl)
              refine hK _ ?_
              clear hK K
              simp only [Act.put, List.setIfInBounds_toArray, List.set_cons_zero, List.set_cons_succ]
              refine wpS_ps rfl fun K hK => ?_
              simp only [List.map_cons, List.map_nil, Option.getD_some, List.getElem?_toArray, List.getElem?_cons_zero, List.getElem?_cons_succ]
              iterate 2 (first | (apply quietO_cons _ rfl; (intro w' _; go_simp; rfl)) | apply quietO_skip rfl)
              refine hK _ ?_
              clear hK K
              simp only [Act.put, List.setIfInBounds_toArray, List.set_cons_zero, List.set_cons_succ]
              refine wpS_ps rfl fun K hK => ?_
              simp only [List.map_cons, List.map_nil, Option.getD_some, List.getElem?_toArray, List.getElem?_cons_zero, List.getElem?_cons_succ]
              iterate 2 (first | (apply quietO_cons _ rfl; (intro w' _; go_simp; rfl)) | apply quietO_skip rfl)
              refine hK _ ?_
              clear hK K
              simp only [Act.put, List.setIfInBounds_toArray, List.set_cons_zero, List.set_cons_succ]
              clear q1 q2
              refine wpS_nil ?_
              go_wp2_with fail
              go_roundw
              case rel => exact ⟨k + 1, by simp, by omega, by rw [← HTH2.out], H7.out.same (Keeps.refl nowhere _).drew, U7.out.same (Keeps.refl nowhere _).drew⟩
              case measure => simp [intOf]; omega
          · obtain rfl : k = i := by omega
            have hP := own_fget c hq (by omega)
            have hgE : getE D c = 8 := by rw [getE, Hlook.out, if_pos rfl]; rfl
            obtain ⟨G, hG⟩ : ∃ G, G = getF D c := ⟨_, rfl⟩
            rw [hgE, ← hG] at hP
            clear hG
            obtain ⟨g1, g2, g3, g4, g5, g6⟩ := G
            unfold fp at hP
            simp only [FidV.v] at hP
            have hmm : (B.take k).map UInt8.toNat = B.map UInt8.toNat := by rw [Hn.out, List.take_length]
            rw [hmm]
            obtain ⟨TH, hTH⟩ : ∃ TH, TH = decide (c ∈ B.map UInt8.toNat) := ⟨_, rfl⟩
            rw [← hTH]
            have hTE : (E = 0 ∧ TH = true) ∨ (E = 8 ∧ TH = false) := by
              rw [HEc.out, hTH]
              by_cases h : c ∈ B.map UInt8.toNat
              · exact .inl ⟨if_pos h, by simpa using h⟩
              · exact .inr ⟨if_neg h, by simpa using h⟩
            clear hTH
            rcases hTE with ⟨hE0, rfl⟩ | ⟨hE0, rfl⟩
            all_goals
              clear HEc
              subst hE0
              have Hq := Lib.hid hq
              have Hu := Lib.hid hu
              have HP := Lib.hid hP
              have HgE := Lib.hid hgE
              have Hmm := Lib.hid hmm
              clear hq hu hP hgE hmm
              go_wp2_with fail
              refine HP.out.mono ?_
              rintro e w6 ⟨rfl, h6, hk6⟩
              have hka := hk6.alloc (.cells #[.string g1, .int .u64 g2, .bool g3, .int .u8 g4, .int .u64 g5, .int .i64 g6] 31)
              have hU := own_fall (Hu.out.same hka) (by simp)
              unfold fp at hU
              clear hk6 hka
              have H6 := Lib.hid h6
              have HU := Lib.hid hU
              clear h6 hU
              go_wp2_with fail
              refine HU.out.mono ?_
              rintro e w7 ⟨v7, gb7, rfl, hr7, h7, -⟩
              obtain ⟨A7, c7, rfl⟩ := rdU4_form hr7
              simp only [List.map_nil, List.length_nil]
              clear hr7
              have H7 := Lib.hid h7
              clear h7
              go_wp2_with fail
              go_ret
              exact ⟨rfl, H7.out.k⟩
end Go.Proofs.Ytnddaildicmneaa
