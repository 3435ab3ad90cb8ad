/-
  loggialaw9.MapBytes: the walk where the bytes are a map.
-/
import Derived.Test.YtbckbnmpeedodaaMBytes
namespace Go.Proofs.Ytbckbnmpeedodaa
open Go.RowKit

set_option maxRecDepth 8000 in
set_option maxHeartbeats 2000000 in
theorem mbytes_ok (v : Value) (gb : Option Nat) (B : List UInt8) (n : Nat) (w : World) (hr : Rd w v gb (B.map bv)) (hl : B.length ≤ 1000) (h1 : 1 ≤ n) (h2 : n ≤ 65536) (hF : FormOk B n) :
    Calls Try.prog 8 #[v, .int .i64 n] w (YesM w) := by
  have he := hF.1
  have hpos : 0 < (B.map bv).length := by rw [List.length_map]; omega
  have hrk := hr
  obtain ⟨b, off, c, rfl, rfl, hbw, hlc, hcm, hcell⟩ := hr.plain hpos
  rw [List.length_map] at *
  clear hr
  obtain ⟨x, hx⟩ : ∃ x, B[B.length - 1]? = some x := ⟨B[B.length - 1]'(by omega), List.getElem?_eq_getElem _⟩
  have hc := hcell (B.length - 1) (bv x) (by simp [hx])
  unfold bv at hc
  have hfl := (form_last h1 he hx).1 hF
  have hx8 := x.toNat_lt
  have hm8 : n % 8 < 8 := Nat.mod_lt _ (by omega)
  have hq1 : (n : Int) % 8 = ((n % 8 : Nat) : Int) := by simp
  have hq2 : (n : Int).tmod 8 = ((n % 8 : Nat) : Int) := by rw [Int.tmod_eq_emod_of_nonneg (by omega)]; simp
  generalize n % 8 = m at *
  generalize x.toNat = X at *
  have hw8 : IntKind.u64.wrap (m : Int) = m := by rw [IntKind.wrap_u64]; omega
  have hlt : X < 256 := hx8
  obtain ⟨L, hL⟩ : ∃ L, L = B.length := ⟨_, rfl⟩
  have hcL := hcell
  rw [← hL] at hc hl hpos hlc ⊢
  have hne2 : ((L : Int) != ((n : Int) + 7) / 8) = false := by rw [← hL] at he; simp; omega
  have hLn : L = (n + 7) / 8 := by rw [hL]; exact he
  have hw7 : IntKind.i64.wrap ((n : Int) + 7) = (n : Int) + 7 := IntWalk.i64_in _ (by omega)
  have hwL : IntKind.i64.wrap ((L : Int) - 1) = L - 1 := IntWalk.i64_in _ (by omega)
  have hL1 : ((L : Int) - 1).toNat = L - 1 := by omega
  have hL2 : (0 : Int) ≤ L - 1 := by omega
  have hL3 : (L : Int) - 1 < L := by omega
  have h2' : ¬ (1000 : Int) < L := by omega
  rw [← hL] at hrk
  have hcase : m = 0 ∨ ((0 : Int) < m ∧ ((X : Int) / 2 ^ m != 0) = false) := by
    by_cases h : m = 0
    · exact .inl h
    · refine .inr ⟨by omega, ?_⟩
      have := hfl.resolve_left h
      rw [show (X : Int) / 2 ^ m = ((X / 2 ^ m : Nat) : Int) by simp, this]; rfl
  have HF := Lib.hid hF
  have Hrk := Lib.hid hrk
  have Hcell := Lib.hid hcell
  have HL := Lib.hid hL
  have He := Lib.hid he
  have Hx := Lib.hid hx
  have Hfl := Lib.hid hfl
  have HLn := Lib.hid hLn
  clear hF hrk hcell hL he hx hfl hLn
  rcases hcase with rfl | ⟨hm1, hx0'⟩
  all_goals
    go_enter Try.func8, Try.ntmps8
    go_wp2_with fail
    refine (known9 _).mono ?_
    rintro e w0 ⟨rfl, hk0⟩
    have hr1 := Hrk.out.keep hk0 (fun _ _ h => h)
    have Hk0 := Lib.hid hk0
    have Hr1 := Lib.hid hr1
    clear hk0 hr1
    go_wp2_with fail
    refine (load_any _ _ _ n _ Hr1.out h1 h2).mono ?_
    rintro e w1 hl1
    rcases hl1 with ⟨_, p, g, rfl, hp, hg, hm, hk1⟩ | ⟨hf, _⟩
    case inr => exact absurd HF.out hf
    have hk2 := Hk0.out.more hk1
    have hc2 := (hk2.cell (p := ⟨b, off + (L - 1), none⟩) hbw (fun h => h)).trans hc
    have hr2 := Hr1.out.keep hk1 (fun _ _ h => h)
    have Hk2 := Lib.hid hk2
    have Hm := Lib.hid hm
    have Hr2 := Lib.hid hr2
    clear hk1 hk2 hm hr2 hp hg
    unfold mp
    go_wp2_with fail
    go_loopw [8] (fun iv wr => ∃ i : Nat, iv = .int .i64 i ∧ i ≤ n ∧ MapAt wr p g n (bitF B) ∧ Keeps nowhere w1 wr) (fun iv _ => n - (intOf iv).toNat)
    case atStart => exact ⟨0, rfl, Nat.zero_le _, Hm.out, Keeps.refl _ _⟩
    case round =>
      obtain ⟨i, rfl, hi, hm, hkr⟩ := hrel
      by_cases hlti : i < n
      · have hx0 : i / 8 < B.length := by rw [← HL.out]; have := HLn.out; omega
        obtain ⟨x, hx⟩ : ∃ x, B[i / 8]? = some x := ⟨B[i / 8], List.getElem?_eq_getElem hx0⟩
        have hcx : ∀ w', w' = wr.drew → w'.cell? ⟨b, off + i / 8, none⟩ = some (.int .u8 x.toNat) := fun w' e => by
          rw [e]
          exact ((Hk2.out.more hkr).cell (p := ⟨b, off + i / 8, none⟩) hbw (fun h => h)).trans (Hcell.out (i / 8) (bv x) (by simp [hx]))
        have hbit := bit_is x.toNat (i % 8) x.toNat_lt _ (bitF_at hx)
        have hi1 : IntKind.i64.wrap ((i : Int) + 1) = i + 1 := IntWalk.i64_in _ (by omega)
        have hH := has_any wr.drew p g n (bitF B) i hm.drew
        rw [hasM_nat] at hH
        unfold mp at hH
        have hix0 : 0 ≤ (i : Int) / 8 := by omega
        have hix1 : (i : Int) / 8 < L := by have := HLn.out; omega
        have hix2 : ((i : Int) / 8).toNat = i / 8 := by omega
        have hix3 : (i : Int).tdiv 8 = (i : Int) / 8 := Int.tdiv_eq_ediv_of_nonneg (by omega)
        have hix4 : IntKind.i64.wrap ((i : Int) / 8) = (i : Int) / 8 := IntWalk.i64_in _ (by omega)
        obtain ⟨k, hk⟩ : ∃ k, k = i % 8 := ⟨_, rfl⟩
        rw [← hk] at hbit
        have hk8 : k < 8 := by rw [hk]; exact Nat.mod_lt _ (by omega)
        have hik1 : (i : Int).tmod 8 = k := by rw [Int.tmod_eq_emod_of_nonneg (by omega), hk]; simp
        have hik2 : (i : Int) % 8 = k := by rw [hk]; simp
        have hik3 : IntKind.u64.wrap (k : Int) = k := by rw [IntKind.wrap_u64]; omega
        have hX8 := x.toNat_lt
        generalize x.toNat = Y at *
        generalize bitF B i = bi at *
        have Hm := Lib.hid hm
        have Hkr := Lib.hid hkr
        have Hx := Lib.hid hx
        have Hk := Lib.hid hk
        have Hx0 := Lib.hid hx0
        clear hm hkr hx hk hx0
        have hltI : (i : Int) < n := by omega
        go_wp2_with fail
        refine wp_region_script [0, 1, 3, 4, 5, 6, 7, 8, 9, 10, 11, 12, 13, 14] [7] [.ps [0, 1, 3, 4, 5, 6], .fs [7], .ps [8, 9, 10, 11, 12, 13], .es [2] true, .ps [14]] (fun w' => w' = wr.drew) rfl (by kernel_rfl) ?_
        refine wpS_ps rfl fun K hK => ?_
        simp only [List.map_cons, List.map_nil, Option.getD_some, List.getElem?_toArray, List.getElem?_cons_zero, List.getElem?_cons_succ]
        iterate 6 (first | (apply quietO_cons _ rfl; (intro w' _; go_simp; rfl)) | apply quietO_skip rfl)
        refine hK _ ?_
        clear hK K
        simp only [Act.put, List.setIfInBounds_toArray, List.set_cons_zero, List.set_cons_succ]
        refine wpS_fs rfl (rfl) fun K hK => ?_
        simp only [List.map_cons, List.map_nil, Option.getD_some, List.getElem?_toArray, List.getElem?_cons_zero, List.getElem?_cons_succ]
        iterate 1 (first | (apply quietO_cons _ rfl; (intro w' hs; have c_0 := hcx w' hs; go_simp; rfl)) | apply quietO_skip rfl)
        refine hK _ ?_
        clear hK K
        simp only [Act.put, List.setIfInBounds_toArray, List.set_cons_zero, List.set_cons_succ]
        clear hcx
        refine wpS_ps rfl fun K hK => ?_
        simp only [List.map_cons, List.map_nil, Option.getD_some, List.getElem?_toArray, List.getElem?_cons_zero, List.getElem?_cons_succ]
        iterate 6 (first | (apply quietO_cons _ rfl; (intro w' _; go_simp; rfl)) | apply quietO_skip rfl)
        refine hK _ ?_
        clear hK K
        simp only [Act.put, List.setIfInBounds_toArray, List.set_cons_zero, List.set_cons_succ]
        refine wpS_es rfl fun K hK => ?_
        have HK := Lib.hid hK
        clear hK
        simp only [List.map_cons, List.map_nil, Option.getD_some, List.getElem?_toArray, List.getElem?_cons_zero, List.getElem?_cons_succ]
        go_wp2_with fail
        refine hH.mono ?_
        rintro e w3 ⟨rfl, rfl⟩
        go_wp2_with fail
        refine HK.out _ _ (fun _ => rfl) ?_
        clear HK K
        refine wpS_ps rfl fun K hK => ?_
        simp only [List.map_cons, List.map_nil, Option.getD_some, List.getElem?_toArray, List.getElem?_cons_zero, List.getElem?_cons_succ]
        iterate 1 (first | (apply quietO_cons _ rfl; (intro w' _; go_simp; rfl)) | apply quietO_skip rfl)
        refine hK _ ?_
        clear hK K
        simp only [Act.put, List.setIfInBounds_toArray, List.set_cons_zero, List.set_cons_succ]
        refine wpS_nil ?_
        go_wp2_with fail
        go_roundw
        case rel => exact ⟨i + 1, by simp, by omega, Hm.out.drew, Hkr.out.drew⟩
        case measure => simp [intOf]; omega
      · obtain rfl : i = n := by omega
        have hrB := (Hr2.out.keep (w' := wr) hkr (fun _ _ h => h))
        have conv : ∀ w', Keeps nowhere wr.drew w' → (convert 28 9 (.slice (some ⟨b, off, none⟩) L c)).run Try.prog w' = .ok (.string (strOf B)) w' := fun w' hs => conv_str _ _ _ _ (hrB.keep (w := wr.drew) hs (fun _ _ h => h))
        have hkw := Hk2.out.more hkr
        have hB := bytes_any wr.drew p g i (bitF B) hm.drew
        rw [bytes_bitF HF.out] at hB
        have hbq := strOf_beq (rfl : B = B)
        unfold mp at hB
        have HrB := Lib.hid hrB
        have Hkr := Lib.hid hkr
        have Hkw := Lib.hid hkw
        have Hm := Lib.hid hm
        have Conv := Lib.hid conv
        have HB := Lib.hid hB
        clear hrB hkr hkw hm conv hB
        go_wp2_with fail
        refine wp_region_script [0, 3, 4, 5, 6] [4] [.ps [0, 3], .fs [4], .es [1] true, .es [2] true, .ps [5, 6]] (Keeps nowhere wr.drew) rfl (by kernel_rfl) ?_
        refine wpS_ps rfl fun K hK => ?_
        simp only [List.map_cons, List.map_nil, Option.getD_some, List.getElem?_toArray, List.getElem?_cons_zero, List.getElem?_cons_succ]
        iterate 2 (first | (apply quietO_cons _ rfl; (intro w' _; go_simp; rfl)) | apply quietO_skip rfl)
        refine hK _ ?_
        clear hK K
        simp only [Act.put, List.setIfInBounds_toArray, List.set_cons_zero, List.set_cons_succ]
        refine wpS_fs rfl (Keeps.refl _ _) fun K hK => ?_
        simp only [List.map_cons, List.map_nil, Option.getD_some, List.getElem?_toArray, List.getElem?_cons_zero, List.getElem?_cons_succ]
        iterate 1 (first | (apply quietO_cons _ rfl; (intro w' hs; have c_0 := Conv.out w' hs; go_simp; rfl)) | apply quietO_skip rfl)
        refine hK _ ?_
        clear hK K
        simp only [Act.put, List.setIfInBounds_toArray, List.set_cons_zero, List.set_cons_succ]
        refine wpS_es rfl fun K hK => ?_
        have HK := Lib.hid hK
        clear hK
        simp only [List.map_cons, List.map_nil, Option.getD_some, List.getElem?_toArray, List.getElem?_cons_zero, List.getElem?_cons_succ]
        go_wp2_with fail
        refine HB.out.mono ?_
        rintro e w3 ⟨v1, g1, rfl, hr3, hg3, hk3⟩
        have hc3 := conv_str _ _ _ _ hr3
        have hk4 := Hkw.out.drew.more hk3
        clear hr3 hg3
        have Hk3 := Lib.hid hk3
        have Hc3 := Lib.hid hc3
        have Hk4 := Lib.hid hk4
        clear hk3 hc3 hk4
        go_wp2_with fail
        refine HK.out _ _ (fun _ => Hk3.out) ?_
        clear HK K
        refine wpS_es rfl fun K hK => ?_
        have HK := Lib.hid hK
        clear hK
        simp only [List.map_cons, List.map_nil, Option.getD_some, List.getElem?_toArray, List.getElem?_cons_zero, List.getElem?_cons_succ]
        have hc3 := Hc3.out
        go_wp2_with fail
        refine HK.out _ _ (fun _ => Hk3.out) ?_
        clear HK K
        clear hc3
        refine wpS_ps rfl fun K hK => ?_
        simp only [List.map_cons, List.map_nil, Option.getD_some, List.getElem?_toArray, List.getElem?_cons_zero, List.getElem?_cons_succ]
        iterate 2 (first | (apply quietO_cons _ rfl; (intro w' _; go_simp; rfl)) | apply quietO_skip rfl)
        refine hK _ ?_
        clear hK K
        simp only [Act.put, List.setIfInBounds_toArray, List.set_cons_zero, List.set_cons_succ]
        refine wpS_nil ?_
        go_wp2_with fail
        go_ret
        exact ⟨rfl, Hk4.out⟩

theorem mbytes_any (v : Value) (gb : Option Nat) (B : List UInt8) (n : Int) (w : World) (hr : Rd w v gb (B.map bv)) : Calls Try.prog 8 #[v, .int .i64 n] w (YesM w) := by
  by_cases hl : 1000 < B.length
  · obtain ⟨A, c, rfl, hlc, hcm⟩ := hr.form
    rw [List.length_map] at *
    exact mbytes_long A B.length c n w hl (by unfold maxLen at hcm; omega)
  · by_cases hn : n < 1 ∨ (¬ n < 1 ∧ n > 65536)
    · obtain ⟨A, c, rfl, hlc, hcm⟩ := hr.form
      rw [List.length_map] at *
      exact mbytes_arg A B.length c n w (by omega) hn
    · obtain ⟨k, rfl⟩ := Int.eq_ofNat_of_zero_le (show 0 ≤ n by omega)
      by_cases he : B.length = (k + 7) / 8
      · by_cases hF : FormOk B k
        · exact mbytes_ok v gb B k w hr (by omega) (by omega) (by omega) hF
        · exact mbytes_last v gb B k w hr (by omega) (by omega) (by omega) he hF
      · exact mbytes_len v gb B k w hr (by omega) (by omega) (by omega) he
end Go.Proofs.Ytbckbnmpeedodaa
