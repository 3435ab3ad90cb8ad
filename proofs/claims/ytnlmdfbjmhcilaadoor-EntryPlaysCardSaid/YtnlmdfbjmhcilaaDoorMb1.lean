/-
  Parts of the proof, joined in build order: Ex16, Ex17, OpenNs, OpenAct13.
-/
import Derived.Test.YtnlmdfbjmhcilaaDoorMa4
import Derived.Deep.CutBlock
import Derived.Deep.CutRange
import Derived.BigQuiet
set_option linter.unusedVariables false
set_option linter.unusedSimpArgs false
/-
  entry: EntrySorted, walked.
-/
namespace Go.Proofs.YtnlmdfbjmhcilaaDoor
open Go.RowKit Go.Proofs
attribute [local go_sem] strOf_size strOf_get strOf_toList

def recStr : RecT (List UInt8) := ⟨9, 1, fun L => [.string (strOf L)], fun _ => rfl, fun _ u hu => by rw [List.mem_singleton.1 hu]; rfl, by decide⟩
theorem snoc_ind {α : Type} {P : List α → Prop} (nil : P []) (app : ∀ l x, P l → P (l ++ [x])) (l : List α) : P l := by
  have h : ∀ m : List α, P m.reverse := fun m => by
    induction m with
    | nil => exact nil
    | cons x m ih => rw [List.reverse_cons]; exact app _ _ ih
  have := h l.reverse
  rwa [List.reverse_reverse] at this
/-- a row with a name more, if it may be -/
def addN (l : List EntV) (s : List UInt8) : List EntV := if putOk l (s, 7) = 0 then putL l (s, 7) else l
def accN (ns : List (List UInt8)) : List EntV := ns.foldl addN []
theorem accN_snoc (ns : List (List UInt8)) (s : List UInt8) : accN (ns ++ [s]) = addN (accN ns) s := by simp [accN]
theorem addN_sort {l : List EntV} (h : SortE l) (s : List UInt8) : SortE (addN l s) := by
  unfold addN
  split
  · rename_i h0
    unfold putL
    rw [if_pos h0]
    refine h.ins ?_
    unfold putOk at h0
    split at h0
    · split at h0
      · cases h0
      · rename_i hh; simpa using hh
    · rename_i hne; exact absurd h0 hne
  · exact h
theorem accN_sort (ns : List (List UInt8)) : SortE (accN ns) := by
  induction ns using snoc_ind with
  | nil => exact List.Pairwise.nil
  | app ns s ih => rw [accN_snoc]; exact addN_sort ih s
theorem insL_len (l : List EntV) (i : Nat) (x : EntV) (h : i ≤ l.length) : (einsL l i x).length = l.length + 1 := by
  unfold einsL
  simp
  omega
theorem addN_len (l : List EntV) (s : List UInt8) : (addN l s).length ≤ l.length + 1 := by
  unfold addN
  split
  · rename_i h0
    unfold putL
    rw [if_pos h0, insL_len _ _ _ (posL_le _ _)]
    exact Nat.le_refl _
  · omega
theorem accN_len (ns : List (List UInt8)) : (accN ns).length ≤ ns.length := by
  induction ns using snoc_ind with
  | nil => exact Nat.le_refl _
  | app ns s ih =>
    rw [accN_snoc, List.length_append]
    have := addN_len (accN ns) s
    simp
    omega
theorem mem_addN {l : List EntV} (hl : SortE l) (hall : ∀ x ∈ l, x.2 = 7) (s : List UInt8) (x : EntV) : x ∈ addN l s ↔ x ∈ l ∨ (x = (s, 7) ∧ mayE (s, 7) = 0) := by
  unfold addN putL putOk
  by_cases hm : mayE (s, 7) = 0
  · rw [if_pos hm]
    cases hh : hasL l (s, 7).1 with
    | true =>
      rw [if_pos rfl, if_neg (by decide)]
      refine ⟨Or.inl, ?_⟩
      rintro (h | ⟨rfl, -⟩)
      · exact h
      · obtain ⟨y, hy, he⟩ := (hasL_iff hl s).1 hh
        have h7 := hall y hy
        have : y = (s, 7) := by rw [← he, ← h7]
        rw [← this]
        exact hy
    | false =>
      rw [if_pos (by decide), if_pos (by decide), mem_insL]
      constructor
      · rintro (h | h)
        · exact .inr ⟨h, hm⟩
        · exact .inl h
      · rintro (h | ⟨h, -⟩)
        · exact .inr h
        · exact .inl h
  · rw [if_neg hm, if_neg hm]
    refine ⟨Or.inl, ?_⟩
    rintro (h | ⟨-, h⟩)
    · exact h
    · exact absurd h hm
theorem mem_accN (ns : List (List UInt8)) : (∀ x ∈ accN ns, x.2 = 7) ∧ ∀ x, x ∈ accN ns ↔ x.1 ∈ ns ∧ x.2 = 7 ∧ mayE x = 0 := by
  induction ns using snoc_ind with
  | nil => exact ⟨fun x hx => (by cases hx), fun x => ⟨fun hx => (by cases hx), fun h => (by cases h.1)⟩⟩
  | app ns s ih =>
    have hmem : ∀ x, x ∈ accN (ns ++ [s]) ↔ x.1 ∈ ns ++ [s] ∧ x.2 = 7 ∧ mayE x = 0 := fun x => by
      rw [accN_snoc, mem_addN (accN_sort ns) ih.1, ih.2 x, List.mem_append, List.mem_singleton]
      constructor
      · rintro (⟨h1, h2, h3⟩ | ⟨rfl, h⟩)
        · exact ⟨.inl h1, h2, h3⟩
        · exact ⟨.inr rfl, rfl, h⟩
      · rintro ⟨h1 | h1, h2, h3⟩
        · exact .inl ⟨h1, h2, h3⟩
        · have : x = (s, 7) := by rw [← h1, ← h2]
          rw [this] at h3 ⊢
          exact .inr ⟨rfl, h3⟩
    exact ⟨fun x hx => ((hmem x).1 hx).2.1, hmem⟩
theorem accN_same {ns ms : List (List UInt8)} (h : ∀ s, s ∈ ns ↔ s ∈ ms) : accN ns = accN ms :=
  (accN_sort ns).unique (accN_sort ms) fun x => by rw [(mem_accN ns).2 x, (mem_accN ms).2 x, h]
theorem accN_check (ns : List (List UInt8)) : checkE (accN ns) = 0 := checkE_zero.2 ⟨accN_sort ns, fun x hx => (((mem_accN ns).2 x).1 hx).2.2⟩
/-- the names turned by a number -/
def turnN (ns : List (List UInt8)) (t k : Nat) : List (List UInt8) := (List.range k).map fun i => ns.getD ((i + t) % ns.length) []
theorem turnN_succ (ns : List (List UInt8)) (t k : Nat) : turnN ns t (k + 1) = turnN ns t k ++ [ns.getD ((k + t) % ns.length) []] := by simp [turnN, List.range_succ]
theorem turnN_mem (ns : List (List UInt8)) (t : Nat) (s : List UInt8) : s ∈ ns ↔ s ∈ turnN ns t ns.length := by
  unfold turnN
  rw [List.mem_map]
  constructor
  · intro h
    obtain ⟨j, hj, rfl⟩ := List.getElem_of_mem h
    have hn : 0 < ns.length := by omega
    refine ⟨(j + (ns.length - t % ns.length)) % ns.length, List.mem_range.2 (Nat.mod_lt _ hn), ?_⟩
    have hm : t % ns.length < ns.length := Nat.mod_lt _ hn
    have e : ((j + (ns.length - t % ns.length)) % ns.length + t) % ns.length = j := by
      rw [Nat.mod_add_mod]
      have h1 : j + (ns.length - t % ns.length) + t = j + ns.length * (1 + t / ns.length) := by
        have := Nat.div_add_mod t ns.length
        rw [Nat.mul_add, Nat.mul_one]
        omega
      rw [h1, Nat.add_mul_mod_self_left, Nat.mod_eq_of_lt hj]
    rw [e, List.getD_eq_getElem?_getD, List.getElem?_eq_getElem hj]
    rfl
  · rintro ⟨i, hi, rfl⟩
    have hn : 0 < ns.length := by have := List.mem_range.1 hi; omega
    have hm := Nat.mod_lt (i + t) hn
    rw [List.getD_eq_getElem?_getD, List.getElem?_eq_getElem hm]
    exact List.getElem_mem hm
theorem accN_turn (ns : List (List UInt8)) (t : Nat) : accN (turnN ns t ns.length) = accN ns := accN_same fun s => (turnN_mem ns t s).symm
theorem rdS_cells {w : World} {A : Option Addr} {n c : Nat} {g : Option Nat} {l : List (List UInt8)} (h : recStr.Rd w (.slice A n c) g l) (hp : 0 < l.length) : ∃ b o, A = some ⟨b, o, none⟩ ∧ b < w.heap.size ∧ ∀ (w' : World), Keeps nowhere w w' → ∀ (i : Nat) (x : List UInt8), l[i]? = some x → w'.cell? ⟨b, o + i, none⟩ = some (.string (strOf x)) := by
  obtain ⟨A', c', hv, -, -, hu, h3, -⟩ := h
  injection hv with h1 _ _
  obtain ⟨b, o, hA, hg, hc⟩ := h3 hp
  refine ⟨b, o, h1.trans hA, hu b hg, fun w' hk i x hx => ?_⟩
  have h := hc i x hx
  have e0 := h 0 (by decide)
  rw [show o + i * recStr.n + 0 = o + i by show o + i * 1 + 0 = o + i; omega] at e0
  exact (hk.cell (p := ⟨b, o + i, none⟩) (hu b hg) (fun h => h)).trans e0
/-- a row as it stands in a loop's slot -/
def RowE (w0 w : World) (v : Value) (l : List EntV) : Prop := ∃ A c g, v = .slice A l.length c ∧ recE.Rd w v g l ∧ Keeps nowhere w0 w
theorem addN_cases (l : List EntV) (s : List UInt8) : (putOk l (s, 7) = 0 ∧ addN l s = putL l (s, 7)) ∨ (putOk l (s, 7) ≠ 0 ∧ addN l s = l) := by
  unfold addN
  by_cases h : putOk l (s, 7) = 0
  · exact .inl ⟨h, by rw [if_pos h]⟩
  · exact .inr ⟨h, by rw [if_neg h]⟩
set_option maxRecDepth 20000 in
set_option maxHeartbeats 8000000 in
theorem entrySorted_any (A : Option Addr) (c t : Nat) (g : Option Nat) (ns : List (List UInt8)) (w : World) (hr : recStr.Rd w (.slice A ns.length c) g ns) (ht : t < 256) :
    Calls Tryd.prog 7 #[.slice A ns.length c, .int .u8 t] w (YesE w) := by
  have hkn := known13 w
  obtain ⟨n, hn⟩ : ∃ n, n = ns.length := ⟨_, rfl⟩
  have hx := fun hp => rdS_cells hr hp
  by_cases h40 : 40 < n
  · have hI : (40 : Int) < n := by omega
    rw [← hn]
    have Hr := Lib.hid hr
    have Hkn := Lib.hid hkn
    have Hn := Lib.hid hn
    have Hx := Lib.hid hx
    clear hr hkn hn hx
    go_enter Tryd.func7, Tryd.ntmps7
    go_wp2_with fail
    refine Hkn.out.mono ?_
    rintro e w1 ⟨rfl, hk1⟩
    go_wp2_with fail
    go_ret
    exact ⟨rfl, hk1⟩
  · have hI : ¬ (40 : Int) < n := by omega
    rw [← hn]
    have Hr := Lib.hid hr
    have Hkn := Lib.hid hkn
    have Hn := Lib.hid hn
    have Hx := Lib.hid hx
    clear hr hkn hn hx
    go_enter Tryd.func7, Tryd.ntmps7
    go_wp2_with fail
    refine Hkn.out.mono ?_
    rintro e w1 ⟨rfl, hk1⟩
    have Hk1 := Lib.hid hk1
    clear hk1
    go_wp2_with fail
    go_loopw [5, 7] (fun av iv wr => ∃ i : Nat, iv = .int .i64 i ∧ i ≤ n ∧ RowE w wr av (accN (ns.take i)) ∧ ∀ (j : Nat) (s : List UInt8), j < i → ns[j]? = some s → s.length ≤ 100) (fun _ iv _ => n - (intOf iv).toNat)
    case atStart => exact ⟨0, rfl, Nat.zero_le _, ⟨none, 0, none, rfl, RecT.Rd.nil recE _, Hk1.out⟩, fun j s h => absurd h (Nat.not_lt_zero j)⟩
    case round =>
      obtain ⟨i, rfl, hi, ⟨A1, c1, g1, rfl, hr1, hk⟩, hsm⟩ := hrel
      obtain ⟨W0, hW0⟩ : ∃ W0, W0 = wr := ⟨_, rfl⟩
      subst hW0
      by_cases hlt : i < n
      · have hltI : (i : Int) < n := by omega
        have hi0 : (0 : Int) ≤ (i : Int) := by omega
        have hi1 : IntKind.i64.wrap ((i : Int) + 1) = i + 1 := IntWalk.i64_in _ (by omega)
        obtain ⟨s, hs⟩ : ∃ s, ns[i]? = some s := ⟨_, List.getElem?_eq_getElem (by rw [← Hn.out]; exact hlt)⟩
        obtain ⟨b, o, hA, hb, hcells⟩ := Hx.out (by rw [← Hn.out]; omega)
        have c0 := hcells W0 hk i s hs
        subst hA
        obtain ⟨q, hq⟩ : ∃ q, q = s.length := ⟨_, rfl⟩
        have hqs : (strOf s).size = q := by rw [strOf_size]; exact hq.symm
        by_cases hbig : 100 < q
        · have hbigI : (100 : Int) < (q : Int) := by omega
          clear hcells hsm
          have Hk := Lib.hid hk
          have Hr1 := Lib.hid hr1
          have Hs := Lib.hid hs
          have Hq := Lib.hid hq
          clear hk hr1 hs hq
          go_wp2_with fail
          go_ret
          exact ⟨rfl, Hk.out⟩
        · have hbigI : ¬ (100 : Int) < (q : Int) := by omega
          have hlen := accN_len (ns.take i)
          rw [List.length_take] at hlen
          have hput := put_any A1 c1 g1 (accN (ns.take i)) (s, 7) W0 hr1 (by omega) (by show s.length ≤ 1000000000; omega) ((accN_sort _).mono _)
          unfold entV at hput
          have hsnoc : accN (ns.take (i + 1)) = addN (accN (ns.take i)) s := by rw [List.take_add_one, hs]; exact accN_snoc _ _
          have hsm' : ∀ (j : Nat) (s : List UInt8), j < i + 1 → ns[j]? = some s → s.length ≤ 100 := fun j u hj hu => by
            by_cases e : j = i
            · subst e
              rw [hs] at hu
              injection hu with hu
              subst hu
              omega
            · exact hsm j u (by omega) hu
          obtain ⟨m, hm⟩ : ∃ m, m = (accN (ns.take i)).length := ⟨_, rfl⟩
          rw [← hm] at hput hr1 ⊢
          clear hcells hsm
          rcases addN_cases (accN (ns.take i)) s with ⟨hok, had⟩ | ⟨hno, had⟩
          · rw [hok] at hput
            rw [had] at hsnoc
            obtain ⟨L2, hL2⟩ : ∃ L2, L2 = putL (accN (ns.take i)) (s, 7) := ⟨_, rfl⟩
            rw [← hL2] at hput hsnoc
            have Hput := Lib.hid hput
            have Hk := Lib.hid hk
            have Hr1 := Lib.hid hr1
            have Hs := Lib.hid hs
            have Hq := Lib.hid hq
            have Hsm' := Lib.hid hsm'
            have Hsnoc := Lib.hid hsnoc
            have Hm := Lib.hid hm
            have Hok := Lib.hid hok
            have Had := Lib.hid had
            have HL2 := Lib.hid hL2
            clear hput hk hr1 hs hq hsm' hsnoc hm hok had hL2
            go_wp2_with fail
            refine Hput.out.mono ?_
            rintro e w2 ⟨v2, g2, rfl, hr2, ha2, hk2⟩
            obtain ⟨A2, c2, rfl, -, -⟩ := rdE_form hr2
            have hk02 := Hk.out.more hk2
            clear ha2 hk2
            have Hr2 := Lib.hid hr2
            have Hk02 := Lib.hid hk02
            clear hr2 hk02
            go_wp2_with fail
            go_roundw
            case rel => exact ⟨i + 1, by simp, by omega, ⟨A2, c2, g2, by rw [Hsnoc.out], by rw [Hsnoc.out]; exact Hr2.out, Hk02.out⟩, Hsm'.out⟩
            case measure => simp [intOf]; omega
          · have hnoI : (putOk (accN (ns.take i)) (s, 7) == 0) = false := by rw [beq_eq_false_iff_ne]; exact hno
            obtain ⟨k, hk'⟩ : ∃ k, k = putOk (accN (ns.take i)) (s, 7) := ⟨_, rfl⟩
            rw [← hk'] at hput hnoI
            rw [had] at hsnoc
            have Hput := Lib.hid hput
            have Hk := Lib.hid hk
            have Hr1 := Lib.hid hr1
            have Hs := Lib.hid hs
            have Hq := Lib.hid hq
            have Hsm' := Lib.hid hsm'
            have Hsnoc := Lib.hid hsnoc
            have Hm := Lib.hid hm
            have Hno := Lib.hid hno
            have Had := Lib.hid had
            have Hk' := Lib.hid hk'
            clear hput hk hr1 hs hq hsm' hsnoc hm hno had hk'
            go_wp2_with fail
            refine Hput.out.mono ?_
            rintro e w2 ⟨v2, g2, rfl, hr2, ha2, hk2⟩
            have hk02 := Hk.out.more hk2
            have hr12 := Hr1.out.same hk2
            clear ha2 hk2 hr2
            have Hr12 := Lib.hid hr12
            have Hk02 := Lib.hid hk02
            clear hr12 hk02
            go_wp2_with fail
            go_roundw
            case rel => exact ⟨i + 1, by simp, by omega, ⟨A1, c1, g1, by rw [Hsnoc.out, Hm.out], by rw [Hsnoc.out]; exact Hr12.out, Hk02.out⟩, Hsm'.out⟩
            case measure => simp [intOf]; omega
      · obtain rfl : i = n := by omega
        have hiI : ¬ (i : Int) < i := by omega
        have htake : ns.take i = ns := List.take_of_length_le (by rw [← Hn.out]; exact Nat.le_refl _)
        rw [htake] at hr1 ⊢
        obtain ⟨m, hm⟩ : ∃ m, m = (accN ns).length := ⟨_, rfl⟩
        have hml : m ≤ 40 := by have := accN_len ns; have := Hn.out; omega
        rw [← hm] at hr1 ⊢
        have hk40 : i ≤ 40 := by omega
        clear hlt
        have hsm0 := Lib.hid hsm
        clear hsm
        have Hr1 := Lib.hid hr1
        have Hk := Lib.hid hk
        have Htake := Lib.hid htake
        have Hm := Lib.hid hm
        clear hr1 hk htake hm
        go_wp2_with fail
        go_loopw [6, 10] (fun bv jv wr => ∃ j : Nat, jv = .int .i64 j ∧ j ≤ i ∧ RowE w wr bv (accN (turnN ns t j)) ∧ Keeps nowhere W0 wr) (fun _ jv _ => i - (intOf jv).toNat)
        case atStart => exact ⟨0, rfl, Nat.zero_le _, ⟨none, 0, none, rfl, RecT.Rd.nil recE _, Hk.out⟩, Keeps.refl _ _⟩
        case round =>
          obtain ⟨j, rfl, hj, ⟨A2, c2, g2, rfl, hr2, hk2⟩, hk3⟩ := hrel
          by_cases hlt : j < i
          · have hltI : (j : Int) < i := by omega
            have hj0 : (0 : Int) ≤ (j : Int) := by omega
            have hj1 : IntKind.i64.wrap ((j : Int) + 1) = j + 1 := IntWalk.i64_in _ (by omega)
            obtain ⟨y, hy⟩ : ∃ y, y = (j + t) % i := ⟨_, rfl⟩
            have hyl : y < i := by rw [hy]; exact Nat.mod_lt _ (by omega)
            have hsum : IntKind.i64.wrap ((j : Int) + t) = ((j + t : Nat) : Int) := by rw [IntWalk.i64_in _ (by omega)]; omega
            have htm : Int.tmod ((j + t : Nat) : Int) (i : Int) = (y : Int) := by rw [hy, Int.tmod_eq_emod_of_nonneg (by omega)]; omega
            have htm2 : Int.tmod ((j : Int) + t) (i : Int) = (y : Int) := by rw [← htm]; congr 1
            have htw : IntKind.i64.wrap (t : Int) = t := IntWalk.i64_in _ (by omega)
            have hyw : IntKind.i64.wrap (y : Int) = y := IntWalk.i64_in _ (by omega)
            have hi0 : ((i : Int) == 0) = false := by rw [beq_eq_false_iff_ne]; omega
            have hi00 : ¬ (i : Int) = 0 := by omega
            have hy0 : (0 : Int) ≤ y := by omega
            have hyI : (y : Int) < i := by omega
            obtain ⟨s, hs⟩ : ∃ s, ns[y]? = some s := ⟨_, List.getElem?_eq_getElem (by rw [← Hn.out]; exact hyl)⟩
            obtain ⟨b, o, hA, hb, hcells⟩ := Hx.out (by rw [← Hn.out]; omega)
            have c0 := hcells wr hk2 y s hs
            subst hA
            have hgd : ns.getD ((j + t) % ns.length) [] = s := by rw [← Hn.out, ← hy, List.getD_eq_getElem?_getD, hs]; rfl
            have hsl : s.length ≤ 100 := hsm0.out y s hyl hs
            have hlen : (accN (turnN ns t j)).length ≤ j := by have := accN_len (turnN ns t j); unfold turnN at this ⊢; simpa using this
            have hput := put_any A2 c2 g2 (accN (turnN ns t j)) (s, 7) wr hr2 (by omega) (by show s.length ≤ 1000000000; omega) ((accN_sort _).mono _)
            unfold entV at hput
            have hsnoc : accN (turnN ns t (j + 1)) = addN (accN (turnN ns t j)) s := by rw [turnN_succ, hgd]; exact accN_snoc _ _
            obtain ⟨r, hrr⟩ : ∃ r, r = (accN (turnN ns t j)).length := ⟨_, rfl⟩
            rw [← hrr] at hput hr2 ⊢
            clear hcells
            rcases addN_cases (accN (turnN ns t j)) s with ⟨hok, had⟩ | ⟨hno, had⟩
            · rw [hok] at hput
              rw [had] at hsnoc
              obtain ⟨L2, hL2⟩ : ∃ L2, L2 = putL (accN (turnN ns t j)) (s, 7) := ⟨_, rfl⟩
              rw [← hL2] at hput hsnoc
              have Hput := Lib.hid hput
              have Hk2 := Lib.hid hk2
              have Hk3 := Lib.hid hk3
              have Hr2 := Lib.hid hr2
              have Hs := Lib.hid hs
              have Hsnoc := Lib.hid hsnoc
              have Hrr := Lib.hid hrr
              have Hok := Lib.hid hok
              have Had := Lib.hid had
              have HL2 := Lib.hid hL2
              have Hy := Lib.hid hy
              have Hgd := Lib.hid hgd
              clear hput hk2 hk3 hr2 hs hsnoc hrr hok had hL2 hy hgd
              go_wp2_with fail
              refine Hput.out.mono ?_
              rintro e w2 ⟨v3, g3, rfl, hr3, ha3, hk4⟩
              obtain ⟨A3, c3, rfl, -, -⟩ := rdE_form hr3
              have hk02 := Hk2.out.more hk4
              have hk03 := Hk3.out.more hk4
              clear ha3 hk4
              have Hr3 := Lib.hid hr3
              have Hk02 := Lib.hid hk02
              have Hk03 := Lib.hid hk03
              clear hr3 hk02 hk03
              go_wp2_with fail
              go_roundw
              case rel => exact ⟨j + 1, by simp, by omega, ⟨A3, c3, g3, by rw [Hsnoc.out], by rw [Hsnoc.out]; exact Hr3.out, Hk02.out⟩, Hk03.out⟩
              case measure => simp [intOf]; omega
            · have hnoI : (putOk (accN (turnN ns t j)) (s, 7) == 0) = false := by rw [beq_eq_false_iff_ne]; exact hno
              obtain ⟨k, hk'⟩ : ∃ k, k = putOk (accN (turnN ns t j)) (s, 7) := ⟨_, rfl⟩
              rw [← hk'] at hput hnoI
              rw [had] at hsnoc
              have Hput := Lib.hid hput
              have Hk2 := Lib.hid hk2
              have Hk3 := Lib.hid hk3
              have Hr2 := Lib.hid hr2
              have Hs := Lib.hid hs
              have Hsnoc := Lib.hid hsnoc
              have Hrr := Lib.hid hrr
              have Hno := Lib.hid hno
              have Had := Lib.hid had
              have Hk' := Lib.hid hk'
              have Hy := Lib.hid hy
              have Hgd := Lib.hid hgd
              clear hput hk2 hk3 hr2 hs hsnoc hrr hno had hk' hy hgd
              go_wp2_with fail
              refine Hput.out.mono ?_
              rintro e w2 ⟨v3, g3, rfl, hr3, ha3, hk4⟩
              have hk02 := Hk2.out.more hk4
              have hk03 := Hk3.out.more hk4
              have hr12 := Hr2.out.same hk4
              clear ha3 hk4 hr3
              have Hr12 := Lib.hid hr12
              have Hk02 := Lib.hid hk02
              have Hk03 := Lib.hid hk03
              clear hr12 hk02 hk03
              go_wp2_with fail
              go_roundw
              case rel => exact ⟨j + 1, by simp, by omega, ⟨A2, c2, g2, by rw [Hsnoc.out, Hrr.out], by rw [Hsnoc.out]; exact Hr12.out, Hk02.out⟩, Hk03.out⟩
              case measure => simp [intOf]; omega
          · obtain rfl : j = i := by omega
            have hjI : ¬ (j : Int) < j := by omega
            have hturn : accN (turnN ns t j) = accN ns := by rw [Hn.out]; exact accN_turn ns t
            rw [hturn, ← Hm.out] at hr2 ⊢
            have hr13 := Hr1.out.same hk3
            have hsame := same_any A1 A2 c1 c2 g1 g2 (accN ns) (accN ns) wr (by rw [← Hm.out]; exact hr13) (by rw [← Hm.out]; exact hr2) (by rw [← Hm.out]; omega)
            rw [same_self, ← Hm.out] at hsame
            have hck := fun w2 (hk : Keeps nowhere wr w2) => check_any A1 c1 g1 (accN ns) w2 (by rw [← Hm.out]; exact hr13.same hk) (by rw [← Hm.out]; omega) (fun i x hx => by
              have := ((mem_accN ns).2 x).1 (List.mem_of_getElem? hx)
              obtain ⟨y, hy⟩ := List.getElem?_of_mem this.1
              have := hsm0.out y x.1 (by rw [Hn.out]; exact (List.getElem?_eq_some_iff.1 hy).1) hy
              omega)
            rw [accN_check, ← Hm.out] at hck
            clear hr13
            have Hsame := Lib.hid hsame
            have Hck := Lib.hid hck
            have Hr2 := Lib.hid hr2
            have Hk2 := Lib.hid hk2
            have Hk3 := Lib.hid hk3
            have Hturn := Lib.hid hturn
            clear hsame hck hr2 hk2 hk3 hturn
            go_wp2_with fail
            refine Hsame.out.mono ?_
            rintro e w2 ⟨rfl, hk4⟩
            have hk02 := Hk2.out.more hk4
            have Hk02 := Lib.hid hk02
            have Hk4 := Lib.hid hk4
            clear hk02 hk4
            go_wp2_with fail
            refine (Hck.out w2 Hk4.out).mono ?_
            rintro e w3 ⟨rfl, hk5⟩
            go_wp2_with fail
            go_ret
            exact ⟨rfl, Hk02.out.more hk5⟩
end Go.Proofs.YtnlmdfbjmhcilaaDoor
/-
  entry: EntryPlays, walked.
-/
namespace Go.Proofs.YtnlmdfbjmhcilaaDoor
open Go.RowKit Go.Proofs
attribute [local go_sem] strOf_size strOf_get strOf_toList

abbrev ActE := Int × EntV
def recA : RecT ActE := ⟨40, 3, fun x => [.int .i64 x.1, .string (strOf x.2.1), .int .u32 x.2.2], fun _ => rfl, fun _ u hu => by simp at hu; rcases hu with rfl | rfl | rfl <;> rfl, by decide⟩
theorem rdA_cells {w : World} {A : Option Addr} {n c : Nat} {g : Option Nat} {l : List ActE} (h : recA.Rd w (.slice A n c) g l) (hp : 0 < l.length) : ∃ b o, A = some ⟨b, o, none⟩ ∧ b < w.heap.size ∧ ∀ (w' : World), Keeps nowhere w w' → ∀ (i : Nat) (x : ActE), l[i]? = some x →
    w'.cell? ⟨b, o + i * 3, none⟩ = some (.int .i64 x.1) ∧ w'.cell? ⟨b, o + i * 3 + 1, none⟩ = some (.string (strOf x.2.1)) ∧ w'.cell? ⟨b, o + i * 3 + 2, none⟩ = some (.int .u32 x.2.2) := by
  obtain ⟨A', c', hv, -, -, hu, h3, -⟩ := h
  injection hv with h1 _ _
  obtain ⟨b, o, hA, hg, hc⟩ := h3 hp
  refine ⟨b, o, h1.trans hA, hu b hg, fun w' hk i x hx => ?_⟩
  have h := hc i x hx
  have e0 := h 0 (by decide)
  have e1 := h 1 (by decide)
  have e2 := h 2 (by decide)
  rw [show i * recA.n = i * 3 from rfl] at e0 e1 e2
  exact ⟨(hk.cell (p := ⟨b, o + i * 3, none⟩) (hu b hg) (fun h => h)).trans e0, (hk.cell (p := ⟨b, o + i * 3 + 1, none⟩) (hu b hg) (fun h => h)).trans e1, (hk.cell (p := ⟨b, o + i * 3 + 2, none⟩) (hu b hg) (fun h => h)).trans e2⟩
/-- `x[k:]` of whatever slice that reads -/
theorem RecT.Rd.dropE {α : Type} {R : RecT α} {w : World} {g : Option Nat} {l : List α} {A : Option Addr} {n cap : Nat} (h : R.Rd w (.slice A n cap) g l) (k : Nat) (hk : k ≤ l.length) :
    R.Rd w (.slice (if cap = k then A else A.map (·.add (k * R.n))) (n - k) (cap - k)) g (l.drop k) := by
  by_cases hc : cap = k
  · subst hc
    rw [if_pos rfl]
    obtain ⟨A', cap', hv, h1, h2, hu, h3, h4⟩ := h
    injection hv with ha hn hc
    subst ha hc
    have hd : l.drop cap = [] := List.drop_eq_nil_of_le h1
    rw [hd]
    refine ⟨A, cap - cap, by rw [hn]; congr 1; simp; omega, by simp, by simp, hu, fun hp => absurd hp (by simp), fun _ => by simp⟩
  · rw [if_neg hc]
    obtain ⟨A', cap', hv, h1, h2, hu, h3, h4⟩ := id h
    injection hv with ha hn hc'
    subst ha hc'
    cases A with
    | none => have := h4 rfl; omega
    | some a =>
      by_cases hp : 0 < l.length
      · obtain ⟨b, off, hA, -, -⟩ := h3 hp
        injection hA with hA
        subst hA
        have := h.drop k hk
        simpa [Addr.add_lit] using this
      · have h0 : l = [] := List.eq_nil_of_length_eq_zero (by omega)
        subst h0
        have hk0 : k = 0 := by simpa using hk
        subst hk0
        refine ⟨some (a.add (0 * R.n)), cap - 0, by simp [hn], by simp, by omega, hu, fun hp => absurd hp (by simp), fun h => by cases h⟩
theorem RowE.of_row {w0 w : World} {v : Value} {l : List EntV} (h : recE.Row w v l) (hk : Keeps nowhere w0 w) : RowE w0 w v l := by
  obtain ⟨A, c, hv, -⟩ := h.form
  exact ⟨A, c, v.ownBlock, hv, h.rd, hk⟩
theorem findN_at {m : List EntV} (hs : SortE m) {k : Nat} {x : EntV} (hx : m[k]? = some x) {t : List UInt8} (he : x.1 = t) : hasL m t = true ∧ findN m t = x.2 := by
  have hh : hasL m t = true := (hasL_iff hs t).2 ⟨x, List.mem_of_getElem? hx, he⟩
  have hk := (List.getElem?_eq_some_iff.1 hx).1
  have hp : posL m t = k := posL_is m k (Nat.le_of_lt hk) (fun j y hj hy => by
    have h1 := List.pairwise_iff_getElem.1 hs j k (List.getElem?_eq_some_iff.1 hy).1 hk hj
    rw [(List.getElem?_eq_some_iff.1 hy).2, (List.getElem?_eq_some_iff.1 hx).2, he] at h1
    exact h1) (fun y hy => by rw [hx] at hy; injection hy with hy; rw [← hy, he]; exact ltS_irrefl _)
  refine ⟨hh, ?_⟩
  unfold findN
  rw [if_pos hh, hp, hx]
  rfl
set_option maxRecDepth 20000 in
set_option maxHeartbeats 16000000 in
theorem entryPlays_any (A : Option Addr) (c : Nat) (g : Option Nat) (l : List ActE) (name : List UInt8) (w : World) (hr : recA.Rd w (.slice A l.length c) g l) :
    Calls Tryd.prog 6 #[.slice A l.length c, .string (strOf name)] w (YesE w) := by
  have hkn := known13 w
  obtain ⟨n, hn⟩ : ∃ n, n = l.length := ⟨_, rfl⟩
  obtain ⟨nl, hnl⟩ : ∃ nl, nl = name.length := ⟨_, rfl⟩
  have hnls : (strOf name).size = nl := by rw [strOf_size]; exact hnl.symm
  have hx := fun hp => rdA_cells hr hp
  by_cases h60 : 60 < n
  · have hI : (60 : Int) < n := by omega
    rw [← hn]
    have Hr := Lib.hid hr
    have Hkn := Lib.hid hkn
    have Hn := Lib.hid hn
    have Hx := Lib.hid hx
    have Hnl := Lib.hid hnl
    clear hr hkn hn hx hnl
    go_enter Tryd.func6, Tryd.ntmps6
    go_wp2_with fail
    refine Hkn.out.mono ?_
    rintro e w1 ⟨rfl, hk1⟩
    go_wp2_with fail
    go_ret
    exact ⟨rfl, hk1⟩
  by_cases h100 : 100 < nl
  · have hI : ¬ (60 : Int) < n := by omega
    have hI2 : (100 : Int) < nl := by omega
    rw [← hn]
    have Hr := Lib.hid hr
    have Hkn := Lib.hid hkn
    have Hn := Lib.hid hn
    have Hx := Lib.hid hx
    have Hnl := Lib.hid hnl
    clear hr hkn hn hx hnl
    go_enter Tryd.func6, Tryd.ntmps6
    go_wp2_with fail
    refine Hkn.out.mono ?_
    rintro e w1 ⟨rfl, hk1⟩
    go_wp2_with fail
    go_ret
    exact ⟨rfl, hk1⟩
  have hI : ¬ (60 : Int) < n := by omega
  have hI2 : ¬ (100 : Int) < nl := by omega
  rw [← hn]
  have Hr := Lib.hid hr
  have Hkn := Lib.hid hkn
  have Hn := Lib.hid hn
  have Hx := Lib.hid hx
  have Hnl := Lib.hid hnl
  clear hr hkn hn hx hnl
  go_enter Tryd.func6, Tryd.ntmps6
  go_wp2_with fail
  refine Hkn.out.mono ?_
  rintro e w1 ⟨rfl, hk1⟩
  have Hk1 := Lib.hid hk1
  clear hk1
  go_wp2_with fail
  go_loopw [5, 6, 7] (fun rv wv iv wr => ∃ (i : Nat) (m : List EntV), iv = .int .i64 i ∧ i ≤ n ∧ RowE w wr rv m ∧ RowE w wr wv m ∧ SortE m ∧ m.length ≤ i) (fun _ _ iv _ => n - (intOf iv).toNat)
  case atStart => exact ⟨0, [], rfl, Nat.zero_le _, ⟨none, 0, none, rfl, RecT.Rd.nil recE _, Hk1.out⟩, ⟨none, 0, none, rfl, RecT.Rd.nil recE _, Hk1.out⟩, List.Pairwise.nil, Nat.le_refl _⟩
  case round =>
    obtain ⟨i, m, rfl, hi, ⟨A1, c1, g1, rfl, hr1, hk⟩, ⟨A2, c2, g2, rfl, hr2, -⟩, hs, hml⟩ := hrel
    obtain ⟨W0, hW0⟩ : ∃ W0, W0 = wr := ⟨_, rfl⟩
    subst hW0
    obtain ⟨M, hM⟩ : ∃ M, M = m.length := ⟨_, rfl⟩
    rw [← hM] at hr1 hr2 hml ⊢
    by_cases hlt : i < n
    · have hltI : (i : Int) < n := by omega
      have hi0 : (0 : Int) ≤ (i : Int) := by omega
      have hi1 : IntKind.i64.wrap ((i : Int) + 1) = i + 1 := IntWalk.i64_in _ (by omega)
      obtain ⟨⟨o, x⟩, ht⟩ : ∃ t, l[i]? = some t := ⟨_, List.getElem?_eq_getElem (by rw [← Hn.out]; exact hlt)⟩
      obtain ⟨t, y⟩ := x
      obtain ⟨b, off, hA, hb, hcells⟩ := Hx.out (by rw [← Hn.out]; omega)
      obtain ⟨c0, c1', c2'⟩ := hcells W0 hk i _ ht
      subst hA
      simp only at c0 c1' c2'
      obtain ⟨W1, hW1⟩ : ∃ W1, W1 = W0.alloc (.cells #[.int .i64 o, .string (strOf t), .int .u32 y] 40) := ⟨_, rfl⟩
      obtain ⟨q, hq⟩ : ∃ q, q = W0.heap.size := ⟨_, rfl⟩
      have hk01 : Keeps nowhere W0 W1 := by rw [hW1]; exact (Keeps.refl nowhere W0).alloc _
      have hbx : Blk W1 q 40 #[.int .i64 o, .string (strOf t), .int .u32 y] := by rw [hW1, hq]; exact Blk.new _ _ _
      obtain ⟨tl, htl⟩ : ∃ tl, tl = t.length := ⟨_, rfl⟩
      have htls : (strOf t).size = tl := by rw [strOf_size]; exact htl.symm
      clear hcells
      have Hr1 := Lib.hid hr1
      have Hr2 := Lib.hid hr2
      have Hk := Lib.hid hk
      have Hs := Lib.hid hs
      have HM := Lib.hid hM
      have Ht := Lib.hid ht
      have HW1 := Lib.hid hW1
      have Hq := Lib.hid hq
      have Hk01 := Lib.hid hk01
      have Hbx := Lib.hid hbx
      have Htl := Lib.hid htl
      clear hr1 hr2 hk hs hM ht hW1 hq hk01 hbx htl
      go_upto_region 11 with fail
      rw [← HW1.out]
      simp only [← Hq.out]
      clear c0 c1' c2'
      have a1 := Hbx.out.cell 1
      simp at a1
      by_cases hbig : 100 < tl
      · have hbigI : (100 : Int) < (tl : Int) := by omega
        go_wp2_with fail
        go_ret
        exact ⟨rfl, Hk.out.more Hk01.out⟩
      · have hbigI : ¬ (100 : Int) < (tl : Int) := by omega
        have hrow0 : recE.Row (W1.alloc (.cells #[] 38)) (.slice (some ⟨W1.heap.size, 0, none⟩) 0 0) [] := RecT.Row.empty recE W1
        have hrd0 := Hr1.out.same (Hk01.out.alloc (.cells #[] 38))
        have hlb : ([] : List EntV).length + m.length ≤ 100000000 := by have := HM.out; simp; omega
        have Hrow0 := Lib.hid hrow0
        have Hrd0 := Lib.hid hrd0
        have Hlb := Lib.hid hlb
        clear hrow0 hrd0 hlb
        go_upto_block 2 with (at_builtin; go_must (refine RecT.wpList_append (R := recE) Tryd.underlying22 infoE rfl (by decide) rfl (.tmp 45) (.tmp 46) rfl _ [] rfl Hrow0.out _ _ m rfl Hrd0.out Hlb.out ?_))
        intro v9 W2 hrow9 hk9 hf9
        try rw [List.nil_append] at hrow9
        have hk12 : Keeps nowhere W1 W2 := ((Keeps.refl nowhere W1).alloc _).trans hk9 (fun b hb e => by simp [Value.ownBlock] at e; omega)
        obtain ⟨A9, c9, rfl, -⟩ := hrow9.form
        rw [← HM.out] at hrow9 ⊢
        have hk02 := Hk01.out.more hk12
        have hbx2 := Hbx.out.keep hk12 (fun h => h)
        have hr12 := Hr1.out.same hk02
        have hr22 := Hr2.out.same hk02
        have hr9 := hrow9.rd
        have hkw2 := Hk.out.more hk02
        clear hk9 hf9 hk12 hrow9 a1
        clear Hr1 Hr2 Hk Hk01 Hbx Hrow0 Hrd0 HW1 Hlb
        have Hk02 := Lib.hid hk02
        have Hbx2 := Lib.hid hbx2
        have Hr12 := Lib.hid hr12
        have Hr22 := Lib.hid hr22
        have Hr9 := Lib.hid hr9
        have Hkw2 := Lib.hid hkw2
        clear hk02 hbx2 hr12 hr22 hr9 hkw2
        go_upto_block 2 with fail
        go_cut [10] from 48 to 64 (fun kv wx => kv = .int .i64 (posL m t : Nat) ∧ Keeps nowhere W2 wx)
        case first =>
          go_wp2_with fail
          go_loopw [10] (fun kv wx => ∃ k : Nat, kv = .int .i64 k ∧ k ≤ M ∧ Keeps nowhere W2 wx ∧ ∀ (j : Nat) (x : EntV), j < k → m[j]? = some x → ltS x.1 t = true) (fun kv _ => M - (intOf kv).toNat)
          case atStart => exact ⟨0, rfl, Nat.zero_le _, Keeps.refl _ _, fun j x hj => absurd hj (by omega)⟩
          case round =>
            obtain ⟨k, rfl, hkM, hkx, hlo⟩ := hrel
            have hk0 : (0 : Int) ≤ (k : Int) := by omega
            by_cases hkl : k < M
            · have hkI : (k : Int) < M := by omega
              have hkd : decide ((k : Int) < (M : Int)) = true := decide_eq_true hkI
              have hkd2 : decide (k < M) = true := decide_eq_true hkl
              have hk1 : IntKind.i64.wrap ((k : Int) + 1) = k + 1 := IntWalk.i64_in _ (by omega)
              obtain ⟨x, hxx⟩ : ∃ x, m[k]? = some x := ⟨_, List.getElem?_eq_getElem (by rw [← HM.out]; exact hkl)⟩
              obtain ⟨b4, o4, hA4, hb4, hc4⟩ := rdE_cells Hr22.out (by rw [← HM.out]; omega)
              subst hA4
              have q9 : ∀ w', Keeps nowhere wr.drew w' → w'.cell? ⟨b4, o4 + k * 2, none⟩ = some (.string (strOf x.1)) := fun w' hs => (hc4 w' (hkx.drew.more hs) k x hxx).1
              have q12 : ∀ w', Keeps nowhere wr.drew w' → w'.cell? ⟨q, 1, none⟩ = some (.string (strOf t)) := fun w' hs => by simpa using (Hbx2.out.keep (hkx.drew.more hs) (fun h => h)).cell 1
              clear hc4
              by_cases hyX : Go.Op.bytesLess x.1 t = true
              · have hlt' : ltS x.1 t = true := hyX
                have Hkx := Lib.hid hkx
                have Hlo := Lib.hid hlo
                have Hxx := Lib.hid hxx
                have Hkl := Lib.hid hkl
                have Hlt' := Lib.hid hlt'
                clear hkx hlo hxx hkl hlt'
                go_wp2_with fail
                refine wp_region_script [0, 1, 2, 3, 4, 5, 6, 7, 8, 9, 10, 11, 12, 13, 14] [9, 12] [.ps [0, 1, 2], .ps [3, 4], .ps [5, 6, 7], .ps [8], .fs [9], .ps [10, 11], .fs [12], .ps [13, 14]] (Keeps nowhere wr.drew) rfl (by kernel_rfl) ?_
                refine wpS_ps rfl fun K hK => ?_
                simp only [List.map_cons, List.map_nil, Option.getD_some, List.getElem?_toArray, List.getElem?_cons_zero, List.getElem?_cons_succ]
                iterate 3 (first | (apply quietO_cons _ rfl; (intro w' _; go_simp; rfl)) | apply quietO_skip rfl)
                refine hK _ ?_
                clear hK K
                simp only [Act.put, List.setIfInBounds_toArray, List.set_cons_zero, List.set_cons_succ]
                refine wpS_ps rfl fun K hK => ?_
                simp only [List.map_cons, List.map_nil, Option.getD_some, List.getElem?_toArray, List.getElem?_cons_zero, List.getElem?_cons_succ]
                iterate 2 (first | (apply quietO_cons _ rfl; (intro w' _; go_simp; rfl)) | apply quietO_skip rfl)
                refine hK _ ?_
                clear hK K
                simp only [Act.put, List.setIfInBounds_toArray, List.set_cons_zero, List.set_cons_succ]
                refine wpS_ps rfl fun K hK => ?_
                simp only [List.map_cons, List.map_nil, Option.getD_some, List.getElem?_toArray, List.getElem?_cons_zero, List.getElem?_cons_succ]
                iterate 3 (first | (apply quietO_cons _ rfl; (intro w' _; go_simp; rfl)) | apply quietO_skip rfl)
                refine hK _ ?_
                clear hK K
                simp only [Act.put, List.setIfInBounds_toArray, List.set_cons_zero, List.set_cons_succ]
                refine wpS_ps rfl fun K hK => ?_
                simp only [List.map_cons, List.map_nil, Option.getD_some, List.getElem?_toArray, List.getElem?_cons_zero, List.getElem?_cons_succ]
                iterate 1 (first | (apply quietO_cons _ rfl; (intro w' _; go_simp; rfl)) | apply quietO_skip rfl)
                refine hK _ ?_
                clear hK K
                simp only [Act.put, List.setIfInBounds_toArray, List.set_cons_zero, List.set_cons_succ]
                refine wpS_fs rfl (Keeps.refl _ _) fun K hK => ?_
                simp only [List.map_cons, List.map_nil, Option.getD_some, List.getElem?_toArray, List.getElem?_cons_zero, List.getElem?_cons_succ]
                iterate 1 (first | (apply quietO_cons _ rfl; (intro w' hs; have c_0 := q9 w' hs; go_simp; rfl)) | apply quietO_skip rfl)
                refine hK _ ?_
                clear hK K
                simp only [Act.put, List.setIfInBounds_toArray, List.set_cons_zero, List.set_cons_succ]
                refine wpS_ps rfl fun K hK => ?_
                simp only [List.map_cons, List.map_nil, Option.getD_some, List.getElem?_toArray, List.getElem?_cons_zero, List.getElem?_cons_succ]
                iterate 2 (first | (apply quietO_cons _ rfl; (intro w' _; go_simp; rfl)) | apply quietO_skip rfl)
                refine hK _ ?_
                clear hK K
                simp only [Act.put, List.setIfInBounds_toArray, List.set_cons_zero, List.set_cons_succ]
                refine wpS_fs rfl (Keeps.refl _ _) fun K hK => ?_
                simp only [List.map_cons, List.map_nil, Option.getD_some, List.getElem?_toArray, List.getElem?_cons_zero, List.getElem?_cons_succ]
                iterate 1 (first | (apply quietO_cons _ rfl; (intro w' hs; have c_0 := q12 w' hs; go_simp; rfl)) | apply quietO_skip rfl)
                refine hK _ ?_
                clear hK K
                simp only [Act.put, List.setIfInBounds_toArray, List.set_cons_zero, List.set_cons_succ]
                refine wpS_ps rfl fun K hK => ?_
                simp only [List.map_cons, List.map_nil, Option.getD_some, List.getElem?_toArray, List.getElem?_cons_zero, List.getElem?_cons_succ]
                iterate 2 (first | (apply quietO_cons _ rfl; (intro w' _; go_simp; rfl)) | apply quietO_skip rfl)
                refine hK _ ?_
                clear hK K
                simp only [Act.put, List.setIfInBounds_toArray, List.set_cons_zero, List.set_cons_succ]
                refine wpS_nil ?_
                clear q9 q12
                go_wp2_with fail
                go_roundw
                case rel => exact ⟨k + 1, by simp, by have := Hkl.out; omega, Hkx.out.drew, fun j y hj hy => by
                  by_cases e : j = k
                  · subst e; rw [Hxx.out] at hy; injection hy with hy; rw [← hy]; exact Hlt'.out
                  · exact Hlo.out j y (by omega) hy⟩
                case measure => have := Hkl.out; simp [intOf]; omega
              · have hyF : Go.Op.bytesLess x.1 t = false := by simpa using hyX
                have hpos : posL m t = k := posL_is m k (by rw [← HM.out]; exact hkM) hlo (fun y hy => by rw [hxx] at hy; injection hy with hy; rw [← hy]; exact hyF)
                have Hkx := Lib.hid hkx
                have Hlo := Lib.hid hlo
                have Hxx := Lib.hid hxx
                have Hkl := Lib.hid hkl
                have HkM := Lib.hid hkM
                have Hpos := Lib.hid hpos
                clear hkx hlo hxx hkl hkM hpos
                go_wp2_with fail
                refine wp_region_script [0, 1, 2, 3, 4, 5, 6, 7, 8, 9, 10, 11, 12, 13, 14] [9, 12] [.ps [0, 1, 2], .ps [3, 4], .ps [5, 6, 7], .ps [8], .fs [9], .ps [10, 11], .fs [12], .ps [13, 14]] (Keeps nowhere wr.drew) rfl (by kernel_rfl) ?_
                refine wpS_ps rfl fun K hK => ?_
                simp only [List.map_cons, List.map_nil, Option.getD_some, List.getElem?_toArray, List.getElem?_cons_zero, List.getElem?_cons_succ]
                iterate 3 (first | (apply quietO_cons _ rfl; (intro w' _; go_simp; rfl)) | apply quietO_skip rfl)
                refine hK _ ?_
                clear hK K
                simp only [Act.put, List.setIfInBounds_toArray, List.set_cons_zero, List.set_cons_succ]
                refine wpS_ps rfl fun K hK => ?_
                simp only [List.map_cons, List.map_nil, Option.getD_some, List.getElem?_toArray, List.getElem?_cons_zero, List.getElem?_cons_succ]
                iterate 2 (first | (apply quietO_cons _ rfl; (intro w' _; go_simp; rfl)) | apply quietO_skip rfl)
                refine hK _ ?_
                clear hK K
                simp only [Act.put, List.setIfInBounds_toArray, List.set_cons_zero, List.set_cons_succ]
                refine wpS_ps rfl fun K hK => ?_
                simp only [List.map_cons, List.map_nil, Option.getD_some, List.getElem?_toArray, List.getElem?_cons_zero, List.getElem?_cons_succ]
                iterate 3 (first | (apply quietO_cons _ rfl; (intro w' _; go_simp; rfl)) | apply quietO_skip rfl)
                refine hK _ ?_
                clear hK K
                simp only [Act.put, List.setIfInBounds_toArray, List.set_cons_zero, List.set_cons_succ]
                refine wpS_ps rfl fun K hK => ?_
                simp only [List.map_cons, List.map_nil, Option.getD_some, List.getElem?_toArray, List.getElem?_cons_zero, List.getElem?_cons_succ]
                iterate 1 (first | (apply quietO_cons _ rfl; (intro w' _; go_simp; rfl)) | apply quietO_skip rfl)
                refine hK _ ?_
                clear hK K
                simp only [Act.put, List.setIfInBounds_toArray, List.set_cons_zero, List.set_cons_succ]
                refine wpS_fs rfl (Keeps.refl _ _) fun K hK => ?_
                simp only [List.map_cons, List.map_nil, Option.getD_some, List.getElem?_toArray, List.getElem?_cons_zero, List.getElem?_cons_succ]
                iterate 1 (first | (apply quietO_cons _ rfl; (intro w' hs; have c_0 := q9 w' hs; go_simp; rfl)) | apply quietO_skip rfl)
                refine hK _ ?_
                clear hK K
                simp only [Act.put, List.setIfInBounds_toArray, List.set_cons_zero, List.set_cons_succ]
                refine wpS_ps rfl fun K hK => ?_
                simp only [List.map_cons, List.map_nil, Option.getD_some, List.getElem?_toArray, List.getElem?_cons_zero, List.getElem?_cons_succ]
                iterate 2 (first | (apply quietO_cons _ rfl; (intro w' _; go_simp; rfl)) | apply quietO_skip rfl)
                refine hK _ ?_
                clear hK K
                simp only [Act.put, List.setIfInBounds_toArray, List.set_cons_zero, List.set_cons_succ]
                refine wpS_fs rfl (Keeps.refl _ _) fun K hK => ?_
                simp only [List.map_cons, List.map_nil, Option.getD_some, List.getElem?_toArray, List.getElem?_cons_zero, List.getElem?_cons_succ]
                iterate 1 (first | (apply quietO_cons _ rfl; (intro w' hs; have c_0 := q12 w' hs; go_simp; rfl)) | apply quietO_skip rfl)
                refine hK _ ?_
                clear hK K
                simp only [Act.put, List.setIfInBounds_toArray, List.set_cons_zero, List.set_cons_succ]
                refine wpS_ps rfl fun K hK => ?_
                simp only [List.map_cons, List.map_nil, Option.getD_some, List.getElem?_toArray, List.getElem?_cons_zero, List.getElem?_cons_succ]
                iterate 2 (first | (apply quietO_cons _ rfl; (intro w' _; go_simp; rfl)) | apply quietO_skip rfl)
                refine hK _ ?_
                clear hK K
                simp only [Act.put, List.setIfInBounds_toArray, List.set_cons_zero, List.set_cons_succ]
                refine wpS_nil ?_
                clear q9 q12
                go_wp2_with fail
                go_meet
                case rel => exact ⟨by rw [Hpos.out], Hkx.out.drew⟩
            · obtain rfl : k = M := by omega
              have hkI : ¬ (k : Int) < k := by omega
              have hkd : decide ((k : Int) < (k : Int)) = false := decide_eq_false hkI
              have hkd2 : decide (k < k) = false := decide_eq_false hkl
              have hpos : posL m t = k := posL_is m k (by rw [← HM.out]; exact Nat.le_refl _) hlo (fun y hy => by have := (List.getElem?_eq_some_iff.1 hy).1; rw [← HM.out] at this; omega)
              have Hkx := Lib.hid hkx
              have Hlo := Lib.hid hlo
              have HkM := Lib.hid hkM
              have Hpos := Lib.hid hpos
              clear hkx hlo hkM hpos
              go_wp2_with fail
              refine wp_region_script [0, 1, 2, 3, 4, 5, 6, 7, 8, 9, 10, 11, 12, 13, 14] [9, 12] [.ps [0, 1, 2], .ps [3, 4], .ps [5, 6, 7], .ps [8], .fs [9], .ps [10, 11], .fs [12], .ps [13, 14]] (Keeps nowhere wr.drew) rfl (by kernel_rfl) ?_
              refine wpS_ps rfl fun K hK => ?_
              simp only [List.map_cons, List.map_nil, Option.getD_some, List.getElem?_toArray, List.getElem?_cons_zero, List.getElem?_cons_succ]
              iterate 3 (first | (apply quietO_cons _ rfl; (intro w' _; go_simp; rfl)) | apply quietO_skip rfl)
              refine hK _ ?_
              clear hK K
              simp only [Act.put, List.setIfInBounds_toArray, List.set_cons_zero, List.set_cons_succ]
              refine wpS_ps rfl fun K hK => ?_
              simp only [List.map_cons, List.map_nil, Option.getD_some, List.getElem?_toArray, List.getElem?_cons_zero, List.getElem?_cons_succ]
              iterate 2 (first | (apply quietO_cons _ rfl; (intro w' _; go_simp; rfl)) | apply quietO_skip rfl)
              refine hK _ ?_
              clear hK K
              simp only [Act.put, List.setIfInBounds_toArray, List.set_cons_zero, List.set_cons_succ]
              refine wpS_ps rfl fun K hK => ?_
              simp only [List.map_cons, List.map_nil, Option.getD_some, List.getElem?_toArray, List.getElem?_cons_zero, List.getElem?_cons_succ]
              iterate 3 (first | (apply quietO_cons _ rfl; (intro w' _; go_simp; rfl)) | apply quietO_skip rfl)
              refine hK _ ?_
              clear hK K
              simp only [Act.put, List.setIfInBounds_toArray, List.set_cons_zero, List.set_cons_succ]
              refine wpS_ps rfl fun K hK => ?_
              simp only [List.map_cons, List.map_nil, Option.getD_some, List.getElem?_toArray, List.getElem?_cons_zero, List.getElem?_cons_succ]
              iterate 1 (first | (apply quietO_cons _ rfl; (intro w' _; go_simp; rfl)) | apply quietO_skip rfl)
              refine hK _ ?_
              clear hK K
              simp only [Act.put, List.setIfInBounds_toArray, List.set_cons_zero, List.set_cons_succ]
              refine wpS_fs rfl (Keeps.refl _ _) fun K hK => ?_
              simp only [List.map_cons, List.map_nil, Option.getD_some, List.getElem?_toArray, List.getElem?_cons_zero, List.getElem?_cons_succ]
              iterate 1 (first | (apply quietO_cons _ rfl; (intro w' hs; go_simp; rfl)) | apply quietO_skip rfl)
              refine hK _ ?_
              clear hK K
              simp only [Act.put, List.setIfInBounds_toArray, List.set_cons_zero, List.set_cons_succ]
              refine wpS_ps rfl fun K hK => ?_
              simp only [List.map_cons, List.map_nil, Option.getD_some, List.getElem?_toArray, List.getElem?_cons_zero, List.getElem?_cons_succ]
              iterate 2 (first | (apply quietO_cons _ rfl; (intro w' _; go_simp; rfl)) | apply quietO_skip rfl)
              refine hK _ ?_
              clear hK K
              simp only [Act.put, List.setIfInBounds_toArray, List.set_cons_zero, List.set_cons_succ]
              refine wpS_fs rfl (Keeps.refl _ _) fun K hK => ?_
              simp only [List.map_cons, List.map_nil, Option.getD_some, List.getElem?_toArray, List.getElem?_cons_zero, List.getElem?_cons_succ]
              iterate 1 (first | (apply quietO_cons _ rfl; (intro w' hs; go_simp; rfl)) | apply quietO_skip rfl)
              refine hK _ ?_
              clear hK K
              simp only [Act.put, List.setIfInBounds_toArray, List.set_cons_zero, List.set_cons_succ]
              refine wpS_ps rfl fun K hK => ?_
              simp only [List.map_cons, List.map_nil, Option.getD_some, List.getElem?_toArray, List.getElem?_cons_zero, List.getElem?_cons_succ]
              iterate 2 (first | (apply quietO_cons _ rfl; (intro w' _; go_simp; rfl)) | apply quietO_skip rfl)
              refine hK _ ?_
              clear hK K
              simp only [Act.put, List.setIfInBounds_toArray, List.set_cons_zero, List.set_cons_succ]
              refine wpS_nil ?_
              go_wp2_with fail
              go_meet
              case rel => exact ⟨by rw [Hpos.out], Hkx.out.drew⟩
        case rest =>
          obtain ⟨rfl, hkc⟩ := hcut
          obtain ⟨k, hk⟩ : ∃ k, k = posL m t := ⟨_, rfl⟩
          have hkM : k ≤ M := by rw [hk, HM.out]; exact posL_le _ _
          rw [← hk]
          have hbx3 := Hbx2.out.keep hkc (fun h => h)
          have hr13 := Hr12.out.same hkc
          have hr23 := Hr22.out.same hkc
          have hr93 := Hr9.out.same hkc
          have hkw3 := Hkw2.out.more hkc
          obtain ⟨TH, hTH⟩ : ∃ TH, TH = hasL m t := ⟨_, rfl⟩
          clear hkc Hbx2 Hr12 Hr22 Hr9 Hkw2 Hk02
          have Hk := Lib.hid hk
          have HTH := Lib.hid hTH
          have Hbx3 := Lib.hid hbx3
          have Hr13 := Lib.hid hr13
          have Hr23 := Lib.hid hr23
          have Hr93 := Lib.hid hr93
          have Hkw3 := Lib.hid hkw3
          clear hk hTH hbx3 hr13 hr23 hr93 hkw3
          go_upto_region 17 with fail
          go_cut [11] from 65 to 79 (fun tv wx => tv = .bool TH ∧ Keeps nowhere wc wx)
          case first =>
            have hk0 : (0 : Int) ≤ (k : Int) := by omega
            have q12 : ∀ w', Keeps nowhere wc.drew w' → w'.cell? ⟨q, 1, none⟩ = some (.string (strOf t)) := fun w' hs => by simpa using (Hbx3.out.keep ((Keeps.refl nowhere wc).drew.more hs) (fun h => h)).cell 1
            by_cases hkl : k < M
            · have hkI : (k : Int) < M := by omega
              have hkd : decide ((k : Int) < (M : Int)) = true := decide_eq_true hkI
              have hkd2 : decide (k < M) = true := decide_eq_true hkl
              obtain ⟨x, hxx⟩ : ∃ x, m[k]? = some x := ⟨_, List.getElem?_eq_getElem (by rw [← HM.out]; exact hkl)⟩
              obtain ⟨b4, o4, hA4, hb4, hc4⟩ := rdE_cells Hr23.out (by rw [← HM.out]; omega)
              subst hA4
              have q9 : ∀ w', Keeps nowhere wc.drew w' → w'.cell? ⟨b4, o4 + k * 2, none⟩ = some (.string (strOf x.1)) := fun w' hs => (hc4 w' ((Keeps.refl nowhere wc).drew.more hs) k x hxx).1
              have hTe : TH = decide (x.1 = t) := by rw [HTH.out, hasL, ← Hk.out, hxx]; rfl
              have hTI : (x.1 == t) = TH := by rw [hTe]; by_cases h : x.1 = t <;> simp [h]
              clear hc4
              have Hxx := Lib.hid hxx
              have HTe := Lib.hid hTe
              have Hkl := Lib.hid hkl
              clear hxx hTe hkl
              go_wp2_with fail
              refine wp_region_script [0, 1, 2, 3, 4, 5, 6, 7, 8, 9, 10, 11, 12, 13, 14, 15] [9, 12] [.ps [0, 1, 2], .ps [3, 4], .ps [5, 6, 7], .ps [8], .fs [9], .ps [10, 11], .fs [12], .ps [13, 14], .ps [15]] (Keeps nowhere wc.drew) rfl (by kernel_rfl) ?_
              refine wpS_ps rfl fun K hK => ?_
              simp only [List.map_cons, List.map_nil, Option.getD_some, List.getElem?_toArray, List.getElem?_cons_zero, List.getElem?_cons_succ]
              iterate 3 (first | (apply quietO_cons _ rfl; (intro w' _; go_simp; rfl)) | apply quietO_skip rfl)
              refine hK _ ?_
              clear hK K
              simp only [Act.put, List.setIfInBounds_toArray, List.set_cons_zero, List.set_cons_succ]
              refine wpS_ps rfl fun K hK => ?_
              simp only [List.map_cons, List.map_nil, Option.getD_some, List.getElem?_toArray, List.getElem?_cons_zero, List.getElem?_cons_succ]
              iterate 2 (first | (apply quietO_cons _ rfl; (intro w' _; go_simp; rfl)) | apply quietO_skip rfl)
              refine hK _ ?_
              clear hK K
              simp only [Act.put, List.setIfInBounds_toArray, List.set_cons_zero, List.set_cons_succ]
              refine wpS_ps rfl fun K hK => ?_
              simp only [List.map_cons, List.map_nil, Option.getD_some, List.getElem?_toArray, List.getElem?_cons_zero, List.getElem?_cons_succ]
              iterate 3 (first | (apply quietO_cons _ rfl; (intro w' _; go_simp; rfl)) | apply quietO_skip rfl)
              refine hK _ ?_
              clear hK K
              simp only [Act.put, List.setIfInBounds_toArray, List.set_cons_zero, List.set_cons_succ]
              refine wpS_ps rfl fun K hK => ?_
              simp only [List.map_cons, List.map_nil, Option.getD_some, List.getElem?_toArray, List.getElem?_cons_zero, List.getElem?_cons_succ]
              iterate 1 (first | (apply quietO_cons _ rfl; (intro w' _; go_simp; rfl)) | apply quietO_skip rfl)
              refine hK _ ?_
              clear hK K
              simp only [Act.put, List.setIfInBounds_toArray, List.set_cons_zero, List.set_cons_succ]
              refine wpS_fs rfl (Keeps.refl _ _) fun K hK => ?_
              simp only [List.map_cons, List.map_nil, Option.getD_some, List.getElem?_toArray, List.getElem?_cons_zero, List.getElem?_cons_succ]
              iterate 1 (first | (apply quietO_cons _ rfl; (intro w' hs; have c_0 := q9 w' hs; go_simp; rfl)) | apply quietO_skip rfl)
              refine hK _ ?_
              clear hK K
              simp only [Act.put, List.setIfInBounds_toArray, List.set_cons_zero, List.set_cons_succ]
              refine wpS_ps rfl fun K hK => ?_
              simp only [List.map_cons, List.map_nil, Option.getD_some, List.getElem?_toArray, List.getElem?_cons_zero, List.getElem?_cons_succ]
              iterate 2 (first | (apply quietO_cons _ rfl; (intro w' _; go_simp; rfl)) | apply quietO_skip rfl)
              refine hK _ ?_
              clear hK K
              simp only [Act.put, List.setIfInBounds_toArray, List.set_cons_zero, List.set_cons_succ]
              refine wpS_fs rfl (Keeps.refl _ _) fun K hK => ?_
              simp only [List.map_cons, List.map_nil, Option.getD_some, List.getElem?_toArray, List.getElem?_cons_zero, List.getElem?_cons_succ]
              iterate 1 (first | (apply quietO_cons _ rfl; (intro w' hs; have c_0 := q12 w' hs; go_simp; rfl)) | apply quietO_skip rfl)
              refine hK _ ?_
              clear hK K
              simp only [Act.put, List.setIfInBounds_toArray, List.set_cons_zero, List.set_cons_succ]
              refine wpS_ps rfl fun K hK => ?_
              simp only [List.map_cons, List.map_nil, Option.getD_some, List.getElem?_toArray, List.getElem?_cons_zero, List.getElem?_cons_succ]
              iterate 2 (first | (apply quietO_cons _ rfl; (intro w' _; go_simp; rfl)) | apply quietO_skip rfl)
              refine hK _ ?_
              clear hK K
              simp only [Act.put, List.setIfInBounds_toArray, List.set_cons_zero, List.set_cons_succ]
              refine wpS_ps rfl fun K hK => ?_
              simp only [List.map_cons, List.map_nil, Option.getD_some, List.getElem?_toArray, List.getElem?_cons_zero, List.getElem?_cons_succ]
              iterate 1 (first | (apply quietO_cons _ rfl; (intro w' _; go_simp; rfl)) | apply quietO_skip rfl)
              refine hK _ ?_
              clear hK K
              simp only [Act.put, List.setIfInBounds_toArray, List.set_cons_zero, List.set_cons_succ]
              refine wpS_nil ?_
              clear q9 q12
              go_wp2_with fail
              go_meet
              case rel => exact ⟨rfl, (Keeps.refl nowhere wc).drew⟩
            · have hkI : ¬ (k : Int) < M := by omega
              have hkd : decide ((k : Int) < (M : Int)) = false := decide_eq_false hkI
              have hkd2 : decide (k < M) = false := decide_eq_false hkl
              have hT0 : TH = false := by rw [HTH.out, hasL, ← Hk.out, List.getElem?_eq_none (by rw [← HM.out]; omega)]; rfl
              subst hT0
              clear q12
              have Hkl := Lib.hid hkl
              clear hkl
              go_wp2_with fail
              refine wp_region_script [0, 1, 2, 3, 4, 5, 6, 7, 8, 9, 10, 11, 12, 13, 14, 15] [9, 12] [.ps [0, 1, 2], .ps [3, 4], .ps [5, 6, 7], .ps [8], .fs [9], .ps [10, 11], .fs [12], .ps [13, 14], .ps [15]] (Keeps nowhere wc.drew) rfl (by kernel_rfl) ?_
              refine wpS_ps rfl fun K hK => ?_
              simp only [List.map_cons, List.map_nil, Option.getD_some, List.getElem?_toArray, List.getElem?_cons_zero, List.getElem?_cons_succ]
              iterate 3 (first | (apply quietO_cons _ rfl; (intro w' _; go_simp; rfl)) | apply quietO_skip rfl)
              refine hK _ ?_
              clear hK K
              simp only [Act.put, List.setIfInBounds_toArray, List.set_cons_zero, List.set_cons_succ]
              refine wpS_ps rfl fun K hK => ?_
              simp only [List.map_cons, List.map_nil, Option.getD_some, List.getElem?_toArray, List.getElem?_cons_zero, List.getElem?_cons_succ]
              iterate 2 (first | (apply quietO_cons _ rfl; (intro w' _; go_simp; rfl)) | apply quietO_skip rfl)
              refine hK _ ?_
              clear hK K
              simp only [Act.put, List.setIfInBounds_toArray, List.set_cons_zero, List.set_cons_succ]
              refine wpS_ps rfl fun K hK => ?_
              simp only [List.map_cons, List.map_nil, Option.getD_some, List.getElem?_toArray, List.getElem?_cons_zero, List.getElem?_cons_succ]
              iterate 3 (first | (apply quietO_cons _ rfl; (intro w' _; go_simp; rfl)) | apply quietO_skip rfl)
              refine hK _ ?_
              clear hK K
              simp only [Act.put, List.setIfInBounds_toArray, List.set_cons_zero, List.set_cons_succ]
              refine wpS_ps rfl fun K hK => ?_
              simp only [List.map_cons, List.map_nil, Option.getD_some, List.getElem?_toArray, List.getElem?_cons_zero, List.getElem?_cons_succ]
              iterate 1 (first | (apply quietO_cons _ rfl; (intro w' _; go_simp; rfl)) | apply quietO_skip rfl)
              refine hK _ ?_
              clear hK K
              simp only [Act.put, List.setIfInBounds_toArray, List.set_cons_zero, List.set_cons_succ]
              refine wpS_fs rfl (Keeps.refl _ _) fun K hK => ?_
              simp only [List.map_cons, List.map_nil, Option.getD_some, List.getElem?_toArray, List.getElem?_cons_zero, List.getElem?_cons_succ]
              iterate 1 (first | (apply quietO_cons _ rfl; (intro w' hs; go_simp; rfl)) | apply quietO_skip rfl)
              refine hK _ ?_
              clear hK K
              simp only [Act.put, List.setIfInBounds_toArray, List.set_cons_zero, List.set_cons_succ]
              refine wpS_ps rfl fun K hK => ?_
              simp only [List.map_cons, List.map_nil, Option.getD_some, List.getElem?_toArray, List.getElem?_cons_zero, List.getElem?_cons_succ]
              iterate 2 (first | (apply quietO_cons _ rfl; (intro w' _; go_simp; rfl)) | apply quietO_skip rfl)
              refine hK _ ?_
              clear hK K
              simp only [Act.put, List.setIfInBounds_toArray, List.set_cons_zero, List.set_cons_succ]
              refine wpS_fs rfl (Keeps.refl _ _) fun K hK => ?_
              simp only [List.map_cons, List.map_nil, Option.getD_some, List.getElem?_toArray, List.getElem?_cons_zero, List.getElem?_cons_succ]
              iterate 1 (first | (apply quietO_cons _ rfl; (intro w' hs; go_simp; rfl)) | apply quietO_skip rfl)
              refine hK _ ?_
              clear hK K
              simp only [Act.put, List.setIfInBounds_toArray, List.set_cons_zero, List.set_cons_succ]
              refine wpS_ps rfl fun K hK => ?_
              simp only [List.map_cons, List.map_nil, Option.getD_some, List.getElem?_toArray, List.getElem?_cons_zero, List.getElem?_cons_succ]
              iterate 2 (first | (apply quietO_cons _ rfl; (intro w' _; go_simp; rfl)) | apply quietO_skip rfl)
              refine hK _ ?_
              clear hK K
              simp only [Act.put, List.setIfInBounds_toArray, List.set_cons_zero, List.set_cons_succ]
              refine wpS_ps rfl fun K hK => ?_
              simp only [List.map_cons, List.map_nil, Option.getD_some, List.getElem?_toArray, List.getElem?_cons_zero, List.getElem?_cons_succ]
              iterate 1 (first | (apply quietO_cons _ rfl; (intro w' _; go_simp; rfl)) | apply quietO_skip rfl)
              refine hK _ ?_
              clear hK K
              simp only [Act.put, List.setIfInBounds_toArray, List.set_cons_zero, List.set_cons_succ]
              refine wpS_nil ?_
              go_wp2_with fail
              go_meet
              case rel => exact ⟨rfl, (Keeps.refl nowhere wc).drew⟩
          case rest =>
            obtain ⟨rfl, hkd⟩ := hcut
            have hbx4 := Hbx3.out.keep hkd (fun h => h)
            have hr14 := Hr13.out.same hkd
            have hr24 := Hr23.out.same hkd
            have hr94 := Hr93.out.same hkd
            have hkw4 := Hkw3.out.more hkd
            have a0 := hbx4.cell 0
            have a1 := hbx4.cell 1
            have a2 := hbx4.cell 2
            simp at a0 a1 a2
            clear hkd Hbx3 Hr13 Hr23 Hr93 Hkw3
            have Hbx4 := Lib.hid hbx4
            have Hr14 := Lib.hid hr14
            have Hr24 := Lib.hid hr24
            have Hr94 := Lib.hid hr94
            have Hkw4 := Lib.hid hkw4
            clear hbx4 hr14 hr24 hr94 hkw4
            obtain ⟨ob, hob⟩ : ∃ ob, ob = (o == 1) := ⟨_, rfl⟩
            have hob2 : (o == 1) = ob := hob.symm
            have Hob := Lib.hid hob
            clear hob
            go_upto_if 82 with (fail)
            go_cut [5, 6, 12, 13, 14, 15, 16] from 83 to 169 (fun v5 v6 _ _ _ _ _ wx => ∃ m2, RowE w wx v5 m2 ∧ RowE w wx v6 m2 ∧ SortE m2 ∧ m2.length ≤ i + 1)
            case first =>
              cases ob with
              | true =>
                obtain ⟨E0, hE0⟩ : ∃ E, E = nameE t := ⟨_, rfl⟩
                by_cases z0 : E0 = 0
                · by_cases z1 : y = 0
                  · as_aux_lemma =>
                      have hz1 : ((y : Int) == 0) = true := by simp [z1]
                      have hmy : mayE (t, y) = 1 := by unfold mayE; simp only; rw [← hE0, if_pos z0, if_pos z1]
                      have hok : putOk m (t, y) = 1 := by unfold putOk; rw [hmy]; rfl
                      have hput := put_any A1 c1 g1 m (t, y) wc (by rw [← HM.out]; exact Hr14.out) (by have := HM.out; omega) (by show t.length ≤ 1000000000; have := Htl.out; omega) (Hs.out.mono _)
                      unfold entV at hput
                      rw [← HM.out] at hput
                      have hnm := fun w => name_ref t (by have := Htl.out; omega) w
                      unfold RNameP at hnm
                      have hsm := fun w3 (hk : Keeps nowhere wc w3) => same_any A1 A9 c1 c9 g1 _ m m w3 (by rw [← HM.out]; exact Hr14.out.same hk) (by rw [← HM.out]; exact Hr94.out.same hk) (by have := HM.out; omega)
                      rw [same_self, ← HM.out] at hsm
                      rw [hok] at hput
                      rw [← hE0, z0] at hnm
                      have HE0 := Lib.hid hE0
                      have Hmy := Lib.hid hmy
                      have Hok := Lib.hid hok
                      have Z1 := Lib.hid z1
                      have Z0 := Lib.hid z0
                      clear hE0 hmy hok z1 z0
                      have Hput := Lib.hid hput
                      have Hnm := Lib.hid hnm
                      have Hsm := Lib.hid hsm
                      clear hput hnm hsm
                      go_wp2_with fail
                      refine Hput.out.mono ?_
                      rintro e w3 ⟨v3, g3, rfl, hr3, ha3, hk3⟩
                      have b1 := (Hbx4.out.keep hk3 (fun h => h)).cell 1
                      have b2 := (Hbx4.out.keep hk3 (fun h => h)).cell 2
                      simp at b1 b2
                      obtain ⟨A3, c3, rfl, -, -⟩ := rdE_form hr3
                      generalize hl3 : (putL m (t, y)).length = l3 at hr3 ⊢
                      clear a0 a1 a2 ha3
                      have Hr3 := Lib.hid hr3
                      have Hk3 := Lib.hid hk3
                      have Hl3 := Lib.hid hl3
                      clear hr3 hk3 hl3
                      go_wp2_with fail
                      refine (Hnm.out w3).mono ?_
                      rintro e w3 ⟨rfl, rfl⟩
                      go_wp2_with fail
                      refine (Hsm.out w3 Hk3.out).mono ?_
                      rintro e w4 ⟨rfl, hk4⟩
                      have hk34 := Hk3.out.more hk4
                      have hr15 := Hr14.out.same hk34
                      have hr25 := Hr24.out.same hk34
                      have hkw5 := Hkw4.out.more hk34
                      clear b1 b2 hk4
                      have Hr15 := Lib.hid hr15
                      have Hr25 := Lib.hid hr25
                      have Hkw5 := Lib.hid hkw5
                      clear hr15 hr25 hkw5
                      go_wp2_with fail
                      go_meet
                      case rel => exact ⟨m, ⟨A1, c1, g1, by rw [HM.out], Hr15.out, Hkw5.out⟩, ⟨A2, c2, g2, by rw [HM.out], Hr25.out, Hkw5.out⟩, Hs.out, by rw [← HM.out]; omega⟩
                  · have hz1 : ((y : Int) == 0) = false := by simp [z1]
                    have hmy : mayE (t, y) = 0 := by unfold mayE; simp only; rw [← hE0, if_pos z0, if_neg z1]
                    cases TH with
                    | true =>
                      as_aux_lemma =>
                        have hok : putOk m (t, y) = 7 := by unfold putOk; rw [hmy, if_pos rfl, if_pos (by show hasL m t = true; exact HTH.out.symm)]
                        have hput := put_any A1 c1 g1 m (t, y) wc (by rw [← HM.out]; exact Hr14.out) (by have := HM.out; omega) (by show t.length ≤ 1000000000; have := Htl.out; omega) (Hs.out.mono _)
                        unfold entV at hput
                        rw [← HM.out] at hput
                        have hnm := fun w => name_ref t (by have := Htl.out; omega) w
                        unfold RNameP at hnm
                        have hsm := fun w3 (hk : Keeps nowhere wc w3) => same_any A1 A9 c1 c9 g1 _ m m w3 (by rw [← HM.out]; exact Hr14.out.same hk) (by rw [← HM.out]; exact Hr94.out.same hk) (by have := HM.out; omega)
                        rw [same_self, ← HM.out] at hsm
                        rw [hok] at hput
                        rw [← hE0, z0] at hnm
                        have HE0 := Lib.hid hE0
                        have Hmy := Lib.hid hmy
                        have Hok := Lib.hid hok
                        have Z1 := Lib.hid z1
                        have Z0 := Lib.hid z0
                        clear hE0 hmy hok z1 z0
                        have Hput := Lib.hid hput
                        have Hnm := Lib.hid hnm
                        have Hsm := Lib.hid hsm
                        clear hput hnm hsm
                        go_wp2_with fail
                        refine Hput.out.mono ?_
                        rintro e w3 ⟨v3, g3, rfl, hr3, ha3, hk3⟩
                        have b1 := (Hbx4.out.keep hk3 (fun h => h)).cell 1
                        have b2 := (Hbx4.out.keep hk3 (fun h => h)).cell 2
                        simp at b1 b2
                        obtain ⟨A3, c3, rfl, -, -⟩ := rdE_form hr3
                        generalize hl3 : (putL m (t, y)).length = l3 at hr3 ⊢
                        clear a0 a1 a2 ha3
                        have Hr3 := Lib.hid hr3
                        have Hk3 := Lib.hid hk3
                        have Hl3 := Lib.hid hl3
                        clear hr3 hk3 hl3
                        go_wp2_with fail
                        refine (Hnm.out w3).mono ?_
                        rintro e w3 ⟨rfl, rfl⟩
                        go_wp2_with fail
                        refine (Hsm.out w3 Hk3.out).mono ?_
                        rintro e w4 ⟨rfl, hk4⟩
                        have hk34 := Hk3.out.more hk4
                        have hr15 := Hr14.out.same hk34
                        have hr25 := Hr24.out.same hk34
                        have hkw5 := Hkw4.out.more hk34
                        clear b1 b2 hk4
                        have Hr15 := Lib.hid hr15
                        have Hr25 := Lib.hid hr25
                        have Hkw5 := Lib.hid hkw5
                        clear hr15 hr25 hkw5
                        go_wp2_with fail
                        go_meet
                        case rel => exact ⟨m, ⟨A1, c1, g1, by rw [HM.out], Hr15.out, Hkw5.out⟩, ⟨A2, c2, g2, by rw [HM.out], Hr25.out, Hkw5.out⟩, Hs.out, by rw [← HM.out]; omega⟩
                    | false =>
                      as_aux_lemma =>
                        have hhF : hasL m t = false := HTH.out.symm
                        have hok : putOk m (t, y) = 0 := by unfold putOk; rw [hmy, if_pos rfl, if_neg (by show ¬ hasL m t = true; rw [hhF]; decide)]
                        have hpl : putL m (t, y) = einsL m k (t, y) := by unfold putL; rw [hok, if_pos rfl]; show einsL m (posL m t) (t, y) = _; rw [← Hk.out]
                        have hput := put_any A1 c1 g1 m (t, y) wc (by rw [← HM.out]; exact Hr14.out) (by have := HM.out; omega) (by show t.length ≤ 1000000000; have := Htl.out; omega) (Hs.out.mono _)
                        unfold entV at hput
                        rw [← HM.out] at hput
                        have hnm := fun w => name_ref t (by have := Htl.out; omega) w
                        unfold RNameP at hnm
                        have hsm := fun w3 (hk : Keeps nowhere wc w3) => same_any A1 A9 c1 c9 g1 _ m m w3 (by rw [← HM.out]; exact Hr14.out.same hk) (by rw [← HM.out]; exact Hr94.out.same hk) (by have := HM.out; omega)
                        rw [same_self, ← HM.out] at hsm
                        rw [hok] at hput
                        rw [← hE0, z0] at hnm
                        have HE0 := Lib.hid hE0
                        have Hmy := Lib.hid hmy
                        have Hok := Lib.hid hok
                        have Z1 := Lib.hid z1
                        have Z0 := Lib.hid z0
                        have HhF := Lib.hid hhF
                        have Hpl := Lib.hid hpl
                        clear hE0 hmy hok z1 z0 hhF hpl
                        have Hput := Lib.hid hput
                        have Hnm := Lib.hid hnm
                        have Hsm := Lib.hid hsm
                        clear hput hnm hsm
                        go_wp2_with fail
                        refine Hput.out.mono ?_
                        rintro e w3 ⟨v3, g3, rfl, hr3, ha3, hk3⟩
                        have b1 := (Hbx4.out.keep hk3 (fun h => h)).cell 1
                        have b2 := (Hbx4.out.keep hk3 (fun h => h)).cell 2
                        simp at b1 b2
                        obtain ⟨A3, c3, rfl, -, -⟩ := rdE_form hr3
                        generalize hl3 : (putL m (t, y)).length = l3 at hr3 ⊢
                        clear a0 a1 a2 ha3
                        have Hr3 := Lib.hid hr3
                        have Hk3 := Lib.hid hk3
                        have Hl3 := Lib.hid hl3
                        clear hr3 hk3 hl3
                        go_wp2_with fail
                        refine (Hnm.out w3).mono ?_
                        rintro e w3 ⟨rfl, rfl⟩
                        go_wp2_with fail
                        refine (Hsm.out w3 Hk3.out).mono ?_
                        rintro e w4 ⟨rfl, hk4⟩
                        have hk34 := Hk3.out.more hk4
                        have hr35 := Hr3.out.same hk4
                        have hr25 := Hr24.out.same hk34
                        have hkw5 := Hkw4.out.more hk34
                        have hb4 := Hbx4.out.keep hk34 (fun h => h)
                        have q1 : ∀ w', Keeps nowhere w4.drew w' → w'.cell? ⟨q, 1, none⟩ = some (.string (strOf t)) := fun w' e => by simpa using ((hb4.drew).keep e (fun h => h)).cell 1
                        have q2 : ∀ w', Keeps nowhere w4.drew w' → w'.cell? ⟨q, 2, none⟩ = some (.int .u32 y) := fun w' e => by simpa using ((hb4.drew).keep e (fun h => h)).cell 2
                        have hM2 : m.length = M := HM.out.symm
                        have hdrop := fun w' (hk : Keeps nowhere w4 w') => (hr25.same hk).dropE k (by omega)
                        have htake := fun w' (hk : Keeps nowhere w4 w') => (hr25.same hk).take k (by omega)
                        simp only [show k * recE.n = k * 2 from rfl] at hdrop
                        obtain ⟨VA, hVA⟩ : ∃ VA, VA = (if c2 = k then A2 else Option.map (fun x => x.add (k * 2)) A2) := ⟨_, rfl⟩
                        rw [← hVA] at hdrop
                        have hkI0 : (0 : Int) ≤ k := by omega
                        have hkMI : (k : Int) ≤ M := by omega
                        have hkc2 : (k : Int) ≤ c2 := by
                          obtain ⟨A', c', hv, hle, -⟩ := hr25
                          injection hv with _ e2 e3
                          omega
                        clear b1 b2 hk4 hb4 hM2
                        have Hr35 := Lib.hid hr35
                        have Hr25 := Lib.hid hr25
                        have Hkw5 := Lib.hid hkw5
                        have HVA := Lib.hid hVA
                        have Hdrop := Lib.hid hdrop
                        have Htake := Lib.hid htake
                        clear hr35 hr25 hkw5 hVA hdrop htake
                        go_upto_region 29 with fail
                        refine wp_region_tree [1, 2, 3, 5, 6, 9, 10, 11] [6] (.ps [1, 2, 3] (.ps [5] (.fs [6] (.ps [9, 10, 11] (.alt 0 7 true false (.alt 4 7 true false (.es [7] false (.es [8, 12, 13] false .done)) (.es [4] false (.es [8, 12, 13] false .done))) (.es [0] false (.es [4] false (.es [8, 12, 13] false .done)))))))) (Keeps nowhere w4.drew) rfl (by kernel_rfl) ?_
                        refine wpT_ps rfl fun K hK => ?_
                        simp only [List.map_cons, List.map_nil, Option.getD_some, List.getElem?_toArray, List.getElem?_cons_zero, List.getElem?_cons_succ]
                        iterate 3 (first | (apply quietO_cons _ rfl; (intro w' _; go_simp; rfl)) | apply quietO_skip rfl)
                        refine hK _ ?_
                        clear hK K
                        simp only [Act.put, List.setIfInBounds_toArray, List.set_cons_zero, List.set_cons_succ]
                        refine wpT_ps rfl fun K hK => ?_
                        simp only [List.map_cons, List.map_nil, Option.getD_some, List.getElem?_toArray, List.getElem?_cons_zero, List.getElem?_cons_succ]
                        iterate 1 (first | (apply quietO_cons _ rfl; (intro w' _; go_simp; rfl)) | apply quietO_skip rfl)
                        refine hK _ ?_
                        clear hK K
                        simp only [Act.put, List.setIfInBounds_toArray, List.set_cons_zero, List.set_cons_succ]
                        refine wpT_fs rfl (Keeps.refl _ _) fun K hK => ?_
                        simp only [List.map_cons, List.map_nil, Option.getD_some, List.getElem?_toArray, List.getElem?_cons_zero, List.getElem?_cons_succ]
                        iterate 1 (first | (apply quietO_cons _ rfl; (intro w' hs; have c_0 := q1 w' hs; have c_1 := q2 w' hs; go_simp; rfl)) | apply quietO_skip rfl)
                        refine hK _ ?_
                        clear hK K
                        simp only [Act.put, List.setIfInBounds_toArray, List.set_cons_zero, List.set_cons_succ]
                        refine wpT_ps rfl fun K hK => ?_
                        simp only [List.map_cons, List.map_nil, Option.getD_some, List.getElem?_toArray, List.getElem?_cons_zero, List.getElem?_cons_succ]
                        iterate 3 (first | (apply quietO_cons _ rfl; (intro w' _; go_simp; rfl)) | apply quietO_skip rfl)
                        refine hK _ ?_
                        clear hK K
                        simp only [Act.put, List.setIfInBounds_toArray, List.set_cons_zero, List.set_cons_succ]
                        clear q1 q2
                        rw [← HVA.out]
                        have hkd := (Keeps.refl nowhere w4).drew
                        refine wpT_alt rfl rfl (fun K hK => ?_) (fun K hK => ?_)
                        all_goals (have HK := Lib.hid hK; clear hK; simp only [List.map_cons, List.map_nil, Option.getD_some, List.getElem?_toArray, List.getElem?_cons_zero, List.getElem?_cons_succ])
                        · have hkA := hkd.alloc (.cells #[] 38)
                          have hSA := (Keeps.refl nowhere w4.drew).alloc (.cells #[] 38)
                          have hrowA := RecT.Row.empty recE w4.drew
                          obtain ⟨wA, hwA⟩ : ∃ wA, wA = (w4.alloc (.cells #[] 38)).drew := ⟨_, rfl⟩
                          have hwA2 : w4.drew.alloc (.cells #[] 38) = wA := by rw [hwA]; rfl
                          obtain ⟨qA, hqA⟩ : ∃ qA, qA = w4.heap.size := ⟨_, rfl⟩
                          rw [show w4.drew.heap.size = w4.heap.size from rfl, ← hqA] at hrowA
                          rw [show recE.t = 38 from rfl] at hrowA
                          rw [hwA2] at hkA hrowA hSA
                          clear hwA2
                          have hrdA := Htake.out wA hkA
                          have HkA := Lib.hid hkA
                          have HrowA := Lib.hid hrowA
                          have HrdA := Lib.hid hrdA
                          have HwA := Lib.hid hwA
                          have HqA := Lib.hid hqA
                          have HSA := Lib.hid hSA
                          clear hkA hrowA hrdA hwA hqA hSA
                          go_wp2_with fail
                          rw [← HwA.out]
                          simp only [← HqA.out]
                          go_wp2_with fail
                          refine HK.out _ _ (fun _ => HSA.out) ?_
                          clear HK K
                          refine wpT_alt rfl rfl (fun K hK => ?_) (fun K hK => ?_)
                          all_goals (have HK := Lib.hid hK; clear hK; simp only [List.map_cons, List.map_nil, Option.getD_some, List.getElem?_toArray, List.getElem?_cons_zero, List.getElem?_cons_succ])
                          · go_wp2_with (at_builtin; go_must (refine RecT.wpList_append (R := recE) Tryd.underlying22 infoE rfl (by decide) rfl (.tmp 119) (.tmp 122) rfl _ [] rfl HrowA.out _ _ (m.take k) rfl HrdA.out (by have := HM.out; simp; omega) ?_))
                            intro v5 w5 hrow5 hk5 hf5
                            try rw [List.nil_append] at hrow5
                            have hkz5 : Keeps nowhere w4 w5 := HkA.out.trans hk5 (fun b hb e => by simp [Value.ownBlock] at e; have := HqA.out; omega)
                            have hab5 : Above w4.heap.size v5.ownBlock := fun b hb => by
                              rcases hf5 b hb with h | h
                              · simp [Value.ownBlock] at h; have := HqA.out; omega
                              · have := HkA.out.size; omega
                            have hS5 : Keeps nowhere w4.drew w5 := HSA.out.trans hk5 (fun b hb e => by simp [Value.ownBlock] at e; have := HqA.out; simp at hb; omega)
                            clear hk5 hf5
                            have Hrow5 := Lib.hid hrow5
                            have Hkz5 := Lib.hid hkz5
                            have Hab5 := Lib.hid hab5
                            have HS5 := Lib.hid hS5
                            clear hrow5 hkz5 hab5 hS5
                            go_wp2_with fail
                            refine HK.out _ _ (fun _ => HS5.out) ?_
                            clear HK K
                            refine wpT_es rfl fun K hK => ?_
                            have HK := Lib.hid hK
                            clear hK
                            simp only [List.map_cons, List.map_nil, Option.getD_some, List.getElem?_toArray, List.getElem?_cons_zero, List.getElem?_cons_succ]
                            refine RecT.wpList_buildOne (R := recE) Tryd.underlying22 infoE (by decide) rfl (.tmp 125) rfl _ rfl (t, y) rfl ?_
                            have hkz := Hkz5.out.alloc (.cells (recE.cs (t, y)).toArray recE.t)
                            have hk56 := (Keeps.refl nowhere w5).alloc (.cells (recE.cs (t, y)).toArray recE.t)
                            have hj := RecT.Rd.one recE w5 (t, y)
                            obtain ⟨w6, hw6⟩ : ∃ w6, w6 = w5.alloc (.cells (recE.cs (t, y)).toArray recE.t) := ⟨_, rfl⟩
                            obtain ⟨q6, hq6⟩ : ∃ q, q = w5.heap.size := ⟨_, rfl⟩
                            rw [← hw6] at hkz hk56 hj ⊢
                            simp only [← hq6] at hj ⊢
                            have hrow5 := Hrow5.out.same hk56
                            clear hk56 Hrow5
                            have Hkz := Lib.hid hkz
                            have Hj := Lib.hid hj
                            have Hrow5 := Lib.hid hrow5
                            have Hw6 := Lib.hid hw6
                            have Hq6 := Lib.hid hq6
                            clear hkz hj hrow5 hw6 hq6
                            go_wp2_with fail
                            refine HK.out _ _ (fun h => by cases h) ?_
                            clear HK K
                            refine wpT_es rfl fun K hK => ?_
                            have HK := Lib.hid hK
                            clear hK
                            simp only [List.map_cons, List.map_nil, Option.getD_some, List.getElem?_toArray, List.getElem?_cons_zero, List.getElem?_cons_succ]
                            go_wp2_with (at_builtin; go_must (refine RecT.wpList_append (R := recE) Tryd.underlying22 infoE rfl (by decide) rfl (.tmp 123) (.tmp 126) rfl _ (m.take k) rfl Hrow5.out _ _ [(t, y)] rfl Hj.out (by have := HM.out; simp; omega) ?_))
                            intro v7 w7 hrow7 hk7 hf7
                            have hkz7 : Keeps nowhere w4 w7 := Hkz.out.trans hk7 (fun b hb e => by have := Hab5.out b e; omega)
                            have hab7 : Above w4.heap.size v7.ownBlock := Hab5.out.of_from hf7 Hkz.out.size
                            have hrd7 := Hdrop.out w7 hkz7
                            clear hk7 hf7
                            have Hrow7 := Lib.hid hrow7
                            have Hkz7 := Lib.hid hkz7
                            have Hab7 := Lib.hid hab7
                            have Hrd7 := Lib.hid hrd7
                            clear hrow7 hkz7 hab7 hrd7
                            go_wp2_with (at_builtin; go_must (refine RecT.wpList_append (R := recE) Tryd.underlying22 infoE rfl (by decide) rfl (.tmp 127) (.tmp 130) rfl _ (m.take k ++ [(t, y)]) rfl Hrow7.out _ _ (m.drop k) rfl Hrd7.out (by have := HM.out; simp; omega) ?_))
                            intro v8 w8 hrow8 hk8 hf8
                            have hkz8 : Keeps nowhere w4 w8 := Hkz7.out.trans hk8 (fun b hb e => by have := Hab7.out b e; omega)
                            have hins : m.take k ++ [(t, y)] ++ m.drop k = einsL m k (t, y) := by simp [einsL]
                            have hrow8 : recE.Row w8 v8 (einsL m k (t, y)) := by first | exact hrow8 | (rw [← hins]; exact hrow8)
                            have hr58 := Hr35.out.same hkz8
                            have hkw8 := Hkw5.out.more hkz8
                            clear hk8 hf8
                            have Hrow8 := Lib.hid hrow8
                            have Hr58 := Lib.hid hr58
                            have Hkw8 := Lib.hid hkw8
                            have Hins := Lib.hid hins
                            clear hrow8 hr58 hkw8 hins
                            go_wp2_with fail
                            refine HK.out _ _ (fun h => by cases h) ?_
                            clear HK K
                            refine wpT_done ?_
                            go_wp2_with fail
                            go_meet
                            case rel => exact ⟨einsL m k (t, y), ⟨A3, c3, g3, by rw [← Hpl.out, Hl3.out], by rw [← Hpl.out]; exact Hr58.out, Hkw8.out⟩, RowE.of_row Hrow8.out Hkw8.out, by rw [Hk.out]; exact SortE.ins (x := (t, y)) Hs.out HhF.out, by rw [insL_len _ _ _ (by rw [← HM.out]; exact hkM), ← HM.out]; omega⟩
                          · refine RecT.wpList_buildOne (R := recE) Tryd.underlying22 infoE (by decide) rfl (.tmp 125) rfl _ rfl (t, y) rfl ?_
                            have hkB := HkA.out.alloc (.cells (recE.cs (t, y)).toArray recE.t)
                            have hkAB := (Keeps.refl nowhere wA).alloc (.cells (recE.cs (t, y)).toArray recE.t)
                            have hj := RecT.Rd.one recE wA (t, y)
                            obtain ⟨wB, hwB⟩ : ∃ wB, wB = wA.alloc (.cells (recE.cs (t, y)).toArray recE.t) := ⟨_, rfl⟩
                            obtain ⟨q6, hq6⟩ : ∃ q, q = wA.heap.size := ⟨_, rfl⟩
                            rw [← hwB] at hkB hkAB hj ⊢
                            simp only [← hq6] at hj ⊢
                            have hrowA := HrowA.out.same hkAB
                            have hrdA := Htake.out wB hkB
                            have hqAB : qA ≠ q6 := by have := HrowA.out.lt qA rfl; omega
                            have hkA := hkB
                            clear hkAB HrowA HrdA HkA hkB
                            have HkA := Lib.hid hkA
                            have HrowA := Lib.hid hrowA
                            have HrdA := Lib.hid hrdA
                            have Hj := Lib.hid hj
                            have HwB := Lib.hid hwB
                            have Hq6 := Lib.hid hq6
                            clear hkA hrowA hrdA hj hwB hq6
                            go_wp2_with fail
                            refine HK.out _ _ (fun h => by cases h) ?_
                            clear HK K
                            refine wpT_es rfl fun K hK => ?_
                            have HK := Lib.hid hK
                            clear hK
                            simp only [List.map_cons, List.map_nil, Option.getD_some, List.getElem?_toArray, List.getElem?_cons_zero, List.getElem?_cons_succ]
                            go_wp2_with (at_builtin; go_must (refine RecT.wpList_append (R := recE) Tryd.underlying22 infoE rfl (by decide) rfl (.tmp 119) (.tmp 122) rfl _ [] rfl HrowA.out _ _ (m.take k) rfl HrdA.out (by have := HM.out; simp; omega) ?_))
                            intro v5 w5 hrow5 hk5 hf5
                            try rw [List.nil_append] at hrow5
                            have hkz5 : Keeps nowhere w4 w5 := HkA.out.trans hk5 (fun b hb e => by simp [Value.ownBlock] at e; have := HqA.out; omega)
                            have hab5 : Above w4.heap.size v5.ownBlock := fun b hb => by
                              rcases hf5 b hb with h | h
                              · simp [Value.ownBlock] at h; have := HqA.out; omega
                              · have := HkA.out.size; omega
                            have hj := Hj.out.keep hk5 (fun b e e2 => by simp [Value.ownBlock] at e2; injection e with e; omega)
                            clear hk5 hf5 Hj
                            have hkz := hkz5
                            have Hrow5 := Lib.hid hrow5
                            have Hkz := Lib.hid hkz
                            have Hab5 := Lib.hid hab5
                            have Hj := Lib.hid hj
                            clear hrow5 hkz hab5 hj
                            go_wp2_with fail
                            refine HK.out _ _ (fun h => by cases h) ?_
                            clear HK K
                            refine wpT_es rfl fun K hK => ?_
                            have HK := Lib.hid hK
                            clear hK
                            simp only [List.map_cons, List.map_nil, Option.getD_some, List.getElem?_toArray, List.getElem?_cons_zero, List.getElem?_cons_succ]
                            go_wp2_with (at_builtin; go_must (refine RecT.wpList_append (R := recE) Tryd.underlying22 infoE rfl (by decide) rfl (.tmp 123) (.tmp 126) rfl _ (m.take k) rfl Hrow5.out _ _ [(t, y)] rfl Hj.out (by have := HM.out; simp; omega) ?_))
                            intro v7 w7 hrow7 hk7 hf7
                            have hkz7 : Keeps nowhere w4 w7 := Hkz.out.trans hk7 (fun b hb e => by have := Hab5.out b e; omega)
                            have hab7 : Above w4.heap.size v7.ownBlock := Hab5.out.of_from hf7 Hkz.out.size
                            have hrd7 := Hdrop.out w7 hkz7
                            clear hk7 hf7
                            have Hrow7 := Lib.hid hrow7
                            have Hkz7 := Lib.hid hkz7
                            have Hab7 := Lib.hid hab7
                            have Hrd7 := Lib.hid hrd7
                            clear hrow7 hkz7 hab7 hrd7
                            go_wp2_with (at_builtin; go_must (refine RecT.wpList_append (R := recE) Tryd.underlying22 infoE rfl (by decide) rfl (.tmp 127) (.tmp 130) rfl _ (m.take k ++ [(t, y)]) rfl Hrow7.out _ _ (m.drop k) rfl Hrd7.out (by have := HM.out; simp; omega) ?_))
                            intro v8 w8 hrow8 hk8 hf8
                            have hkz8 : Keeps nowhere w4 w8 := Hkz7.out.trans hk8 (fun b hb e => by have := Hab7.out b e; omega)
                            have hins : m.take k ++ [(t, y)] ++ m.drop k = einsL m k (t, y) := by simp [einsL]
                            have hrow8 : recE.Row w8 v8 (einsL m k (t, y)) := by first | exact hrow8 | (rw [← hins]; exact hrow8)
                            have hr58 := Hr35.out.same hkz8
                            have hkw8 := Hkw5.out.more hkz8
                            clear hk8 hf8
                            have Hrow8 := Lib.hid hrow8
                            have Hr58 := Lib.hid hr58
                            have Hkw8 := Lib.hid hkw8
                            have Hins := Lib.hid hins
                            clear hrow8 hr58 hkw8 hins
                            go_wp2_with fail
                            refine HK.out _ _ (fun h => by cases h) ?_
                            clear HK K
                            refine wpT_done ?_
                            go_wp2_with fail
                            go_meet
                            case rel => exact ⟨einsL m k (t, y), ⟨A3, c3, g3, by rw [← Hpl.out, Hl3.out], by rw [← Hpl.out]; exact Hr58.out, Hkw8.out⟩, RowE.of_row Hrow8.out Hkw8.out, by rw [Hk.out]; exact SortE.ins (x := (t, y)) Hs.out HhF.out, by rw [insL_len _ _ _ (by rw [← HM.out]; exact hkM), ← HM.out]; omega⟩
                        · refine RecT.wpList_buildOne (R := recE) Tryd.underlying22 infoE (by decide) rfl (.tmp 125) rfl _ rfl (t, y) rfl ?_
                          have hkB := hkd.alloc (.cells (recE.cs (t, y)).toArray recE.t)
                          have hj := RecT.Rd.one recE w4.drew (t, y)
                          obtain ⟨wB, hwB⟩ : ∃ wB, wB = w4.drew.alloc (.cells (recE.cs (t, y)).toArray recE.t) := ⟨_, rfl⟩
                          obtain ⟨q6, hq6⟩ : ∃ q, q = w4.drew.heap.size := ⟨_, rfl⟩
                          rw [← hwB] at hkB hj ⊢
                          simp only [← hq6] at hj ⊢
                          have HkB := Lib.hid hkB
                          have Hj := Lib.hid hj
                          have HwB := Lib.hid hwB
                          have Hq6 := Lib.hid hq6
                          clear hkB hj hwB hq6
                          go_wp2_with fail
                          refine HK.out _ _ (fun h => by cases h) ?_
                          clear HK K
                          refine wpT_es rfl fun K hK => ?_
                          have HK := Lib.hid hK
                          clear hK
                          simp only [List.map_cons, List.map_nil, Option.getD_some, List.getElem?_toArray, List.getElem?_cons_zero, List.getElem?_cons_succ]
                          have hkA := HkB.out.alloc (.cells #[] 38)
                          have hkBA := (Keeps.refl nowhere wB).alloc (.cells #[] 38)
                          have hrowA := RecT.Row.empty recE wB
                          obtain ⟨wA, hwA⟩ : ∃ wA, wA = wB.alloc (.cells #[] 38) := ⟨_, rfl⟩
                          obtain ⟨qA, hqA⟩ : ∃ qA, qA = wB.heap.size := ⟨_, rfl⟩
                          rw [← hqA] at hrowA
                          rw [show recE.t = 38 from rfl] at hrowA
                          rw [← hwA] at hkA hrowA hkBA
                          have hrdA := Htake.out wA hkA
                          have hjA := Hj.out.same hkBA
                          have hq6l : q6 < qA := by have := Hj.out; obtain ⟨_, _, _, _, _, hu, _⟩ := this; have := hu q6 rfl; omega
                          have hqA4 : w4.heap.size ≤ qA := by have := HkB.out.size; omega
                          clear hkBA Hj
                          have HkA := Lib.hid hkA
                          have HrowA := Lib.hid hrowA
                          have HrdA := Lib.hid hrdA
                          have HwA := Lib.hid hwA
                          have HjA := Lib.hid hjA
                          clear hkA hrowA hrdA hwA hjA
                          go_wp2_with fail
                          rw [← HwA.out]
                          simp only [← hqA]
                          have HqA := Lib.hid hqA
                          clear hqA
                          go_wp2_with fail
                          refine HK.out _ _ (fun h => by cases h) ?_
                          clear HK K
                          refine wpT_es rfl fun K hK => ?_
                          have HK := Lib.hid hK
                          clear hK
                          simp only [List.map_cons, List.map_nil, Option.getD_some, List.getElem?_toArray, List.getElem?_cons_zero, List.getElem?_cons_succ]
                          go_wp2_with (at_builtin; go_must (refine RecT.wpList_append (R := recE) Tryd.underlying22 infoE rfl (by decide) rfl (.tmp 119) (.tmp 122) rfl _ [] rfl HrowA.out _ _ (m.take k) rfl HrdA.out (by have := HM.out; simp; omega) ?_))
                          intro v5 w5 hrow5 hk5 hf5
                          try rw [List.nil_append] at hrow5
                          have hkz5 : Keeps nowhere w4 w5 := HkA.out.trans hk5 (fun b hb e => by simp [Value.ownBlock] at e; have := HqA.out; omega)
                          have hab5 : Above w4.heap.size v5.ownBlock := fun b hb => by
                            rcases hf5 b hb with h | h
                            · simp [Value.ownBlock] at h; have := HqA.out; omega
                            · have := HkA.out.size; omega
                          have hj := HjA.out.keep hk5 (fun b e e2 => by simp [Value.ownBlock] at e2; injection e with e; omega)
                          clear hk5 hf5
                          have hkz := hkz5
                          have Hrow5 := Lib.hid hrow5
                          have Hkz := Lib.hid hkz
                          have Hab5 := Lib.hid hab5
                          have Hj := Lib.hid hj
                          clear hrow5 hkz hab5 hj
                          go_wp2_with fail
                          refine HK.out _ _ (fun h => by cases h) ?_
                          clear HK K
                          refine wpT_es rfl fun K hK => ?_
                          have HK := Lib.hid hK
                          clear hK
                          simp only [List.map_cons, List.map_nil, Option.getD_some, List.getElem?_toArray, List.getElem?_cons_zero, List.getElem?_cons_succ]
                          go_wp2_with (at_builtin; go_must (refine RecT.wpList_append (R := recE) Tryd.underlying22 infoE rfl (by decide) rfl (.tmp 123) (.tmp 126) rfl _ (m.take k) rfl Hrow5.out _ _ [(t, y)] rfl Hj.out (by have := HM.out; simp; omega) ?_))
                          intro v7 w7 hrow7 hk7 hf7
                          have hkz7 : Keeps nowhere w4 w7 := Hkz.out.trans hk7 (fun b hb e => by have := Hab5.out b e; omega)
                          have hab7 : Above w4.heap.size v7.ownBlock := Hab5.out.of_from hf7 Hkz.out.size
                          have hrd7 := Hdrop.out w7 hkz7
                          clear hk7 hf7
                          have Hrow7 := Lib.hid hrow7
                          have Hkz7 := Lib.hid hkz7
                          have Hab7 := Lib.hid hab7
                          have Hrd7 := Lib.hid hrd7
                          clear hrow7 hkz7 hab7 hrd7
                          go_wp2_with (at_builtin; go_must (refine RecT.wpList_append (R := recE) Tryd.underlying22 infoE rfl (by decide) rfl (.tmp 127) (.tmp 130) rfl _ (m.take k ++ [(t, y)]) rfl Hrow7.out _ _ (m.drop k) rfl Hrd7.out (by have := HM.out; simp; omega) ?_))
                          intro v8 w8 hrow8 hk8 hf8
                          have hkz8 : Keeps nowhere w4 w8 := Hkz7.out.trans hk8 (fun b hb e => by have := Hab7.out b e; omega)
                          have hins : m.take k ++ [(t, y)] ++ m.drop k = einsL m k (t, y) := by simp [einsL]
                          have hrow8 : recE.Row w8 v8 (einsL m k (t, y)) := by first | exact hrow8 | (rw [← hins]; exact hrow8)
                          have hr58 := Hr35.out.same hkz8
                          have hkw8 := Hkw5.out.more hkz8
                          clear hk8 hf8
                          have Hrow8 := Lib.hid hrow8
                          have Hr58 := Lib.hid hr58
                          have Hkw8 := Lib.hid hkw8
                          have Hins := Lib.hid hins
                          clear hrow8 hr58 hkw8 hins
                          go_wp2_with fail
                          refine HK.out _ _ (fun h => by cases h) ?_
                          clear HK K
                          refine wpT_done ?_
                          go_wp2_with fail
                          go_meet
                          case rel => exact ⟨einsL m k (t, y), ⟨A3, c3, g3, by rw [← Hpl.out, Hl3.out], by rw [← Hpl.out]; exact Hr58.out, Hkw8.out⟩, RowE.of_row Hrow8.out Hkw8.out, by rw [Hk.out]; exact SortE.ins (x := (t, y)) Hs.out HhF.out, by rw [insL_len _ _ _ (by rw [← HM.out]; exact hkM), ← HM.out]; omega⟩
                · as_aux_lemma =>
                    have hz0 : (E0 == 0) = false := by simp [z0]
                    have hee : (E0 == E0) = true := by simp
                    have hen : (E0 != E0) = false := by simp
                    have hmy : mayE (t, y) = E0 := by unfold mayE; simp only; rw [← hE0, if_neg z0]
                    have hok : putOk m (t, y) = E0 := by unfold putOk; rw [hmy, if_neg z0]
                    have hput := put_any A1 c1 g1 m (t, y) wc (by rw [← HM.out]; exact Hr14.out) (by have := HM.out; omega) (by show t.length ≤ 1000000000; have := Htl.out; omega) (Hs.out.mono _)
                    unfold entV at hput
                    rw [← HM.out] at hput
                    have hnm := fun w => name_ref t (by have := Htl.out; omega) w
                    unfold RNameP at hnm
                    have hsm := fun w3 (hk : Keeps nowhere wc w3) => same_any A1 A9 c1 c9 g1 _ m m w3 (by rw [← HM.out]; exact Hr14.out.same hk) (by rw [← HM.out]; exact Hr94.out.same hk) (by have := HM.out; omega)
                    rw [same_self, ← HM.out] at hsm
                    rw [hok] at hput
                    rw [← hE0] at hnm
                    have HE0 := Lib.hid hE0
                    have Hmy := Lib.hid hmy
                    have Hok := Lib.hid hok
                    clear hE0 hmy hok
                    have Hput := Lib.hid hput
                    have Hnm := Lib.hid hnm
                    have Hsm := Lib.hid hsm
                    clear hput hnm hsm
                    go_wp2_with fail
                    refine Hput.out.mono ?_
                    rintro e w3 ⟨v3, g3, rfl, hr3, ha3, hk3⟩
                    have b1 := (Hbx4.out.keep hk3 (fun h => h)).cell 1
                    have b2 := (Hbx4.out.keep hk3 (fun h => h)).cell 2
                    simp at b1 b2
                    obtain ⟨A3, c3, rfl, -, -⟩ := rdE_form hr3
                    generalize hl3 : (putL m (t, y)).length = l3 at hr3 ⊢
                    clear a0 a1 a2 ha3
                    have Hr3 := Lib.hid hr3
                    have Hk3 := Lib.hid hk3
                    have Hl3 := Lib.hid hl3
                    clear hr3 hk3 hl3
                    go_wp2_with fail
                    refine (Hnm.out w3).mono ?_
                    rintro e w3 ⟨rfl, rfl⟩
                    go_wp2_with fail
                    refine (Hsm.out w3 Hk3.out).mono ?_
                    rintro e w4 ⟨rfl, hk4⟩
                    have hk34 := Hk3.out.more hk4
                    have hr15 := Hr14.out.same hk34
                    have hr25 := Hr24.out.same hk34
                    have hkw5 := Hkw4.out.more hk34
                    clear b1 b2 hk4
                    have Hr15 := Lib.hid hr15
                    have Hr25 := Lib.hid hr25
                    have Hkw5 := Lib.hid hkw5
                    clear hr15 hr25 hkw5
                    go_wp2_with fail
                    go_meet
                    case rel => exact ⟨m, ⟨A1, c1, g1, by rw [HM.out], Hr15.out, Hkw5.out⟩, ⟨A2, c2, g2, by rw [HM.out], Hr25.out, Hkw5.out⟩, Hs.out, by rw [← HM.out]; omega⟩
              | false =>
                cases TH with
                | true =>
                  as_aux_lemma =>
                    have hcu := cut_any A1 c1 g1 m t wc (by rw [← HM.out]; exact Hr14.out) (by have := HM.out; omega) (Hs.out.mono _)
                    rw [← HM.out] at hcu
                    have hhT : hasL m t = true := HTH.out.symm
                    have hok : cutOk m t = 0 := by unfold cutOk; rw [if_pos hhT]
                    have hce : cutE m t = m.eraseIdx k := by unfold cutE; rw [if_pos hhT, ← Hk.out]
                    rw [hok] at hcu
                    have HhT := Lib.hid hhT
                    have Hok := Lib.hid hok
                    have Hce := Lib.hid hce
                    clear hhT hok hce
                    have hsm := fun w3 (hk : Keeps nowhere wc w3) => same_any A1 A9 c1 c9 g1 _ m m w3 (by rw [← HM.out]; exact Hr14.out.same hk) (by rw [← HM.out]; exact Hr94.out.same hk) (by have := HM.out; omega)
                    rw [same_self, ← HM.out] at hsm
                    have Hcu := Lib.hid hcu
                    have Hsm := Lib.hid hsm
                    clear hcu hsm
                    go_wp2_with fail
                    refine Hcu.out.mono ?_
                    rintro e w3 ⟨v3, g3, rfl, hr3, ha3, hk3⟩
                    obtain ⟨A3, c3, rfl, -, -⟩ := rdE_form hr3
                    generalize hl3 : (cutE m t).length = l3 at hr3 ⊢
                    clear a0 a1 a2 ha3
                    have Hr3 := Lib.hid hr3
                    have Hk3 := Lib.hid hk3
                    have Hl3 := Lib.hid hl3
                    clear hr3 hk3 hl3
                    go_wp2_with fail
                    refine (Hsm.out w3 Hk3.out).mono ?_
                    rintro e w4 ⟨rfl, hk4⟩
                    have hk34 := Hk3.out.more hk4
                    have hr35 := Hr3.out.same hk4
                    have hr25 := Hr24.out.same hk34
                    have hkw5 := Hkw4.out.more hk34
                    have hkl : k < m.length := by rw [Hk.out]; exact hasL_lt HhT.out
                    have hkM1 : k + 1 ≤ M := by rw [HM.out]; exact hkl
                    have hdrop := fun w' (hk : Keeps nowhere w4 w') => (hr25.same hk).dropE (k + 1) (by omega)
                    have htake := fun w' (hk : Keeps nowhere w4 w') => (hr25.same hk).take k (by omega)
                    simp only [show (k + 1) * recE.n = (k + 1) * 2 from rfl] at hdrop
                    obtain ⟨VA, hVA⟩ : ∃ VA, VA = (if c2 = k + 1 then A2 else Option.map (fun x => x.add ((k + 1) * 2)) A2) := ⟨_, rfl⟩
                    rw [← hVA] at hdrop
                    have hkI0 : (0 : Int) ≤ k := by omega
                    have hk1I0 : (0 : Int) ≤ (k : Int) + 1 := by omega
                    have hk1w : IntKind.i64.wrap ((k : Int) + 1) = (k : Int) + 1 := IntWalk.i64_in _ (by omega)
                    have hk1n : ((k : Int) + 1).toNat = k + 1 := by omega
                    have hkMI : (k : Int) ≤ M := by omega
                    have hk1MI : (k : Int) + 1 ≤ M := by omega
                    have hMc2 : M ≤ c2 := by
                      obtain ⟨A', c', hv, hle, -⟩ := hr25
                      injection hv with _ e2 e3
                      omega
                    have hkc2 : (k : Int) ≤ c2 := by omega
                    have hk1c2 : (k : Int) + 1 ≤ c2 := by omega
                    clear hk4
                    have Hr35 := Lib.hid hr35
                    have Hr25 := Lib.hid hr25
                    have Hkw5 := Lib.hid hkw5
                    have HVA := Lib.hid hVA
                    have Hdrop := Lib.hid hdrop
                    have Htake := Lib.hid htake
                    have Hkl := Lib.hid hkl
                    clear hr35 hr25 hkw5 hVA hdrop htake hkl
                    go_upto_region 35 with fail
                    refine wp_region_script [1, 2, 3, 5, 6, 7, 8] [] [.ps [1, 2, 3], .ps [5, 6, 7], .ps [8], .es [0, 4, 9, 10] false] (fun _ => True) rfl (by kernel_rfl) ?_
                    refine wpS_ps rfl fun K hK => ?_
                    simp only [List.map_cons, List.map_nil, Option.getD_some, List.getElem?_toArray, List.getElem?_cons_zero, List.getElem?_cons_succ]
                    iterate 3 (first | (apply quietO_cons _ rfl; (intro w' _; go_simp; rfl)) | apply quietO_skip rfl)
                    refine hK _ ?_
                    clear hK K
                    simp only [Act.put, List.setIfInBounds_toArray, List.set_cons_zero, List.set_cons_succ]
                    refine wpS_ps rfl fun K hK => ?_
                    simp only [List.map_cons, List.map_nil, Option.getD_some, List.getElem?_toArray, List.getElem?_cons_zero, List.getElem?_cons_succ]
                    iterate 3 (first | (apply quietO_cons _ rfl; (intro w' _; go_simp; rfl)) | apply quietO_skip rfl)
                    refine hK _ ?_
                    clear hK K
                    simp only [Act.put, List.setIfInBounds_toArray, List.set_cons_zero, List.set_cons_succ]
                    refine wpS_ps rfl fun K hK => ?_
                    simp only [List.map_cons, List.map_nil, Option.getD_some, List.getElem?_toArray, List.getElem?_cons_zero, List.getElem?_cons_succ]
                    iterate 1 (first | (apply quietO_cons _ rfl; (intro w' _; go_simp; rfl)) | apply quietO_skip rfl)
                    refine hK _ ?_
                    clear hK K
                    simp only [Act.put, List.setIfInBounds_toArray, List.set_cons_zero, List.set_cons_succ]
                    rw [← HVA.out]
                    refine wpS_es rfl fun K hK => ?_
                    have HK := Lib.hid hK
                    clear hK
                    simp only [List.map_cons, List.map_nil, Option.getD_some, List.getElem?_toArray, List.getElem?_cons_zero, List.getElem?_cons_succ]
                    have hkA : Keeps nowhere w4 (w4.alloc (.cells #[] 38)).drew := ((Keeps.refl nowhere w4).alloc _).drew
                    have hrowA : recE.Row (w4.alloc (.cells #[] 38)).drew (.slice (some ⟨w4.heap.size, 0, none⟩) 0 0) [] := RecT.Row.empty recE w4.drew
                    have hrdA := Htake.out _ hkA
                    have HkA := Lib.hid hkA
                    have HrowA := Lib.hid hrowA
                    have HrdA := Lib.hid hrdA
                    clear hkA hrowA hrdA
                    go_wp2_with (at_builtin; go_must (refine RecT.wpList_append (R := recE) Tryd.underlying22 infoE rfl (by decide) rfl (.tmp 160) (.tmp 163) rfl _ [] rfl HrowA.out _ _ (m.take k) rfl HrdA.out (by have := HM.out; simp; omega) ?_))
                    intro v5 w5 hrow5 hk5 hf5
                    try rw [List.nil_append] at hrow5
                    have hkz5 : Keeps nowhere w4 w5 := HkA.out.trans hk5 (fun b hb e => by simp [Value.ownBlock] at e; omega)
                    have hab5 : Above w4.heap.size v5.ownBlock := fun b hb => by
                      rcases hf5 b hb with h | h
                      · simp [Value.ownBlock] at h; omega
                      · have := HkA.out.size; omega
                    have hrd5 := Hdrop.out w5 hkz5
                    clear hk5 hf5
                    have Hrow5 := Lib.hid hrow5
                    have Hkz5 := Lib.hid hkz5
                    have Hab5 := Lib.hid hab5
                    have Hrd5 := Lib.hid hrd5
                    clear hrow5 hkz5 hab5 hrd5
                    go_wp2_with (at_builtin; go_must (refine RecT.wpList_append (R := recE) Tryd.underlying22 infoE rfl (by decide) rfl (.tmp 164) (.tmp 168) rfl _ (m.take k) rfl Hrow5.out _ _ (m.drop (k + 1)) rfl Hrd5.out (by have := HM.out; simp; omega) ?_))
                    intro v8 w8 hrow8 hk8 hf8
                    have hkz8 : Keeps nowhere w4 w8 := Hkz5.out.trans hk8 (fun b hb e => by have := Hab5.out b e; omega)
                    have hrow8 : recE.Row w8 v8 (m.eraseIdx k) := by rw [List.eraseIdx_eq_take_drop_succ]; exact hrow8
                    have hr58 := Hr35.out.same hkz8
                    have hkw8 := Hkw5.out.more hkz8
                    have hel : (m.eraseIdx k).length = M - 1 := by rw [List.length_eraseIdx_of_lt Hkl.out, ← HM.out]
                    clear hk8 hf8
                    have Hrow8 := Lib.hid hrow8
                    have Hr58 := Lib.hid hr58
                    have Hkw8 := Lib.hid hkw8
                    have Hel := Lib.hid hel
                    clear hrow8 hr58 hkw8 hel
                    go_wp2_with fail
                    refine HK.out _ _ (fun h => by cases h) ?_
                    clear HK K
                    refine wpS_nil ?_
                    go_wp2_with fail
                    go_meet
                    case rel => exact ⟨m.eraseIdx k, ⟨A3, c3, g3, by rw [← Hce.out, Hl3.out], by rw [← Hce.out]; exact Hr58.out, Hkw8.out⟩, RowE.of_row Hrow8.out Hkw8.out, Hs.out.erase k, by rw [Hel.out]; omega⟩
                | false =>
                  as_aux_lemma =>
                    have hcu := cut_any A1 c1 g1 m t wc (by rw [← HM.out]; exact Hr14.out) (by have := HM.out; omega) (Hs.out.mono _)
                    rw [← HM.out] at hcu
                    have hhF : hasL m t = false := HTH.out.symm
                    have hok : cutOk m t = 6 := by unfold cutOk; rw [if_neg (by rw [hhF]; decide)]
                    rw [hok] at hcu
                    have HhF := Lib.hid hhF
                    have Hok := Lib.hid hok
                    clear hhF hok
                    have hsm := fun w3 (hk : Keeps nowhere wc w3) => same_any A1 A9 c1 c9 g1 _ m m w3 (by rw [← HM.out]; exact Hr14.out.same hk) (by rw [← HM.out]; exact Hr94.out.same hk) (by have := HM.out; omega)
                    rw [same_self, ← HM.out] at hsm
                    have Hcu := Lib.hid hcu
                    have Hsm := Lib.hid hsm
                    clear hcu hsm
                    go_wp2_with fail
                    refine Hcu.out.mono ?_
                    rintro e w3 ⟨v3, g3, rfl, hr3, ha3, hk3⟩
                    obtain ⟨A3, c3, rfl, -, -⟩ := rdE_form hr3
                    generalize hl3 : (cutE m t).length = l3 at hr3 ⊢
                    clear a0 a1 a2 ha3
                    have Hr3 := Lib.hid hr3
                    have Hk3 := Lib.hid hk3
                    have Hl3 := Lib.hid hl3
                    clear hr3 hk3 hl3
                    go_wp2_with fail
                    refine (Hsm.out w3 Hk3.out).mono ?_
                    rintro e w4 ⟨rfl, hk4⟩
                    have hk34 := Hk3.out.more hk4
                    have hr15 := Hr14.out.same hk34
                    have hr25 := Hr24.out.same hk34
                    have hkw5 := Hkw4.out.more hk34
                    clear hk4
                    have Hr15 := Lib.hid hr15
                    have Hr25 := Lib.hid hr25
                    have Hkw5 := Lib.hid hkw5
                    clear hr15 hr25 hkw5
                    go_wp2_with fail
                    go_meet
                    case rel => exact ⟨m, ⟨A1, c1, g1, by rw [HM.out], Hr15.out, Hkw5.out⟩, ⟨A2, c2, g2, by rw [HM.out], Hr25.out, Hkw5.out⟩, Hs.out, by rw [← HM.out]; omega⟩
            case rest =>
              obtain ⟨m2, ⟨A3, c3, g3, rfl, hr3, hk3⟩, ⟨A4, c4, g4, rfl, hr4, -⟩, hs2, hml2⟩ := hcut
              have hsm := same_any A3 A4 c3 c4 g3 g4 m2 m2 wc hr3 hr4 (by omega)
              rw [same_self] at hsm
              obtain ⟨M2, hM2⟩ : ∃ M2, M2 = m2.length := ⟨_, rfl⟩
              rw [← hM2] at hsm hr3 hr4 hml2 ⊢
              clear a0 a1 a2
              have Hr3 := Lib.hid hr3
              have Hr4 := Lib.hid hr4
              have Hk3 := Lib.hid hk3
              have Hs2 := Lib.hid hs2
              have HM2 := Lib.hid hM2
              have Hsm := Lib.hid hsm
              clear hr3 hr4 hk3 hs2 hM2 hsm
              go_wp2_with fail
              refine Hsm.out.mono ?_
              rintro e w5 ⟨rfl, hk5⟩
              have hr35 := Hr3.out.same hk5
              have hr45 := Hr4.out.same hk5
              have hk35 := Hk3.out.more hk5
              clear hk5
              have Hr35 := Lib.hid hr35
              have Hr45 := Lib.hid hr45
              have Hk35 := Lib.hid hk35
              clear hr35 hr45 hk35
              go_wp2_with fail
              go_roundw
              case rel => exact ⟨i + 1, m2, by simp, by omega, ⟨A3, c3, g3, by rw [HM2.out], Hr35.out, Hk35.out⟩, ⟨A4, c4, g4, by rw [HM2.out], Hr45.out, Hk35.out⟩, Hs2.out, by rw [← HM2.out]; exact hml2⟩
              case measure => simp [intOf]; omega
    · obtain rfl : i = n := by omega
      have hiI : ¬ (i : Int) < i := by omega
      have hfi := find_any A1 c1 g1 m name W0 (by rw [← hM]; exact hr1) (by omega) (hs.mono _)
      unfold FindP at hfi
      rw [← hM] at hfi
      obtain ⟨F, hF⟩ : ∃ F, F = findN m name := ⟨_, rfl⟩
      obtain ⟨H, hH⟩ : ∃ H, H = hasL m name := ⟨_, rfl⟩
      rw [← hF, ← hH] at hfi
      have Hr1 := Lib.hid hr1
      have Hr2 := Lib.hid hr2
      have Hk := Lib.hid hk
      have Hs := Lib.hid hs
      have HM := Lib.hid hM
      have Hfi := Lib.hid hfi
      have HF := Lib.hid hF
      have HH := Lib.hid hH
      clear hr1 hr2 hk hs hM hfi hF hH
      go_wp2_with fail
      refine Hfi.out.mono ?_
      rintro e w2 ⟨rfl, hk2⟩
      have hr22 := Hr2.out.same hk2
      have hk02 := Hk.out.more hk2
      clear hk2
      have Hr22 := Lib.hid hr22
      have Hk02 := Lib.hid hk02
      clear hr22 hk02
      go_wp2_with fail
      go_loopw [19] (fun kv wx => ∃ k : Nat, kv = .int .i64 k ∧ k ≤ M ∧ Keeps nowhere w2 wx ∧ ∀ (j : Nat) (x : EntV), j < k → m[j]? = some x → x.1 ≠ name) (fun kv _ => M - (intOf kv).toNat)
      case atStart => exact ⟨0, rfl, Nat.zero_le _, Keeps.refl _ _, fun j x hj => absurd hj (by omega)⟩
      case round =>
        obtain ⟨k, rfl, hkM, hkx, hno⟩ := hrel
        have hk0 : (0 : Int) ≤ (k : Int) := by omega
        by_cases hkl : k < M
        · have hkI : (k : Int) < M := by omega
          have hk1 : IntKind.i64.wrap ((k : Int) + 1) = k + 1 := IntWalk.i64_in _ (by omega)
          obtain ⟨x, hxx⟩ : ∃ x, m[k]? = some x := ⟨_, List.getElem?_eq_getElem (by rw [← HM.out]; exact hkl)⟩
          obtain ⟨b4, o4, hA4, hb4, hc4⟩ := rdE_cells Hr22.out (by rw [← HM.out]; omega)
          obtain ⟨e0, e1⟩ := hc4 wr hkx k x hxx
          subst hA4
          clear hc4
          by_cases he : x.1 = name
          · obtain ⟨h1, h2⟩ := findN_at Hs.out hxx he
            have hH1 : H = true := by rw [HH.out, h1]
            have hF1 : F = x.2 := by rw [HF.out, h2]
            have heI : (x.1 == name) = true := by simp [he]
            subst hH1
            have hFI : ((F : Int) == (x.2 : Int)) = true := by rw [hF1]; simp
            clear h1 h2
            have Hxx := Lib.hid hxx
            have He := Lib.hid he
            have HF1 := Lib.hid hF1
            have Hno := Lib.hid hno
            have Hkx := Lib.hid hkx
            clear hxx he hF1 hno hkx
            go_wp2_with fail
            go_ret
            exact ⟨rfl, Hk02.out.more Hkx.out⟩
          · have heI : (x.1 == name) = false := by rw [beq_eq_false_iff_ne]; exact he
            have hno' : ∀ (j : Nat) (x : EntV), j < k + 1 → m[j]? = some x → x.1 ≠ name := fun j u hj hu => by
              by_cases e : j = k
              · subst e; rw [hxx] at hu; injection hu with hu; rw [← hu]; exact he
              · exact hno j u (by omega) hu
            clear hno
            have Hxx := Lib.hid hxx
            have He := Lib.hid he
            have Hno' := Lib.hid hno'
            have Hkx := Lib.hid hkx
            clear hxx he hno' hkx
            go_wp2_with fail
            go_roundw
            case rel => exact ⟨k + 1, by simp, by omega, Hkx.out, Hno'.out⟩
            case measure => simp [intOf]; omega
        · obtain rfl : k = M := by omega
          have hkI : ¬ (k : Int) < k := by omega
          have hH0 : hasL m name = false := by
            cases hh : hasL m name with
            | false => rfl
            | true =>
              obtain ⟨x, hx, he⟩ := (hasL_iff Hs.out name).1 hh
              obtain ⟨j, hj⟩ := List.getElem?_of_mem hx
              exact absurd he (hno j x (by rw [HM.out]; exact (List.getElem?_eq_some_iff.1 hj).1) hj)
          have hF0 : F = 0 := by rw [HF.out]; unfold findN; rw [if_neg (by rw [hH0]; decide)]
          have hHf : H = false := by rw [HH.out, hH0]
          subst hHf hF0
          clear hno hH0
          have Hkx := Lib.hid hkx
          clear hkx
          go_wp2_with fail
          go_ret
          exact ⟨rfl, Hk02.out.more Hkx.out⟩
end Go.Proofs.YtnlmdfbjmhcilaaDoor
/-
  Strings among a law's arguments: a slice of them.
-/
namespace Go.Proofs.YtnlmdfbjmhcilaaDoor
open Go.RowKit Go.ChangeShapes Go.WideShapes Go.ChangeAt Go.Deep
set_option maxRecDepth 20000
section
variable {H : Type} {enc : TypeId × Value → H} {w : World} {base : Nat} {spare : Nat → Bool} {held : Bool}
theorem open_names {v : Value} {d : DataW H} {p : List MemPlace} {r : Reach} {b0 : Nat} (hv : Value.okWide Tryd.prog w r b0 47 v) (h : DataW.Trod enc Tryd.prog w base spare held 47 v d p) :
    ∃ (A : Option Addr) (l : List (List UInt8)) (c : Nat) (g : Option Nat), v = .slice A l.length c ∧ recStr.Rd w v g l := by
  obtain ⟨a0, len, cap, rfl⟩ := okWide_slice Tryd.underlying47 hv
  obtain ⟨fuel, hf⟩ := h
  rcases open_slice Tryd.underlying47 hf with ⟨hcs, _⟩ | ⟨a, l, c, m, n, D, Pl, hcs, _, hl, hm, hmm, _, hi⟩
  · simp [Value.cells] at hcs
    obtain ⟨rfl, rfl, rfl⟩ := hcs
    exact ⟨none, [], 0, none, rfl, RecT.Rd.nil _ _⟩
  · simp [Value.cells] at hcs
    obtain ⟨rfl, rfl, rfl⟩ := hcs
    have hlm : len ≤ m := by rw [hmm]; split <;> omega
    have hC : Tryd.prog.cellsOf 9 = 1 := by kernel_rfl
    rw [hC] at hi
    obtain ⟨its, hql, hq⟩ := list_of_forall (P := fun i (t : List UInt8) => w.cell? (a.add i) = some (.string (strOf t))) len (fun i hilt => by
      obtain ⟨cs', hc, ht'⟩ := hi i (by omega)
      obtain ⟨_, hcl, hat⟩ := World.cells?_some hc
      obtain ⟨o0, e0, -, -⟩ := DataW.trod_string Tryd.underlying9 ht'
      subst e0
      obtain ⟨L, rfl⟩ := strOf_self o0
      refine ⟨L, ?_⟩
      have := hat 0 (by omega)
      rw [Go.Deep.add_add, Nat.mul_one, Nat.add_zero] at this
      exact this)
    subst hql
    by_cases h0 : its.length = 0
    · exact ⟨some a, its, cap, none, rfl, some a, cap, rfl, hl, hm, Under.none _, fun h => by omega, fun h => by cases h⟩
    · have hc0 := hq 0 _ (List.getElem?_eq_getElem (by omega))
      have ha := plain_addr hc0
      have hb := block_lt_of_cell hc0
      rw [add_block] at hb
      refine ⟨some a, its, cap, some a.block, rfl, some a, cap, rfl, hl, hm, fun b hb' => (by injection hb' with hb'; omega), fun _ => ⟨a.block, a.off, by rw [← ha], rfl, fun i t hit k hk => ?_⟩, fun h => by cases h⟩
      have hk0 : k = 0 := by have : k < 1 := hk; omega
      subst hk0
      have := hq i t hit
      rw [ha] at this
      simp only [add_plain] at this
      rw [show a.off + i * recStr.n + 0 = a.off + i by show a.off + i * 1 + 0 = a.off + i; omega]
      exact this
end
end Go.Proofs.YtnlmdfbjmhcilaaDoor
/-
  The calls of layer 13's play: a slice of them that came in.
-/
namespace Go.Proofs.YtnlmdfbjmhcilaaDoor
open Go.RowKit Go.ChangeShapes Go.WideShapes Go.ChangeAt Go.Deep
set_option maxRecDepth 20000
section
variable {H : Type} {enc : TypeId × Value → H} {w : World} {base : Nat} {spare : Nat → Bool} {held : Bool}
theorem open_act13 {fuel : Nat} {cs : List Value} {x : DataW H × List MemPlace} (h : DataW.trod enc Tryd.prog w base spare held fuel 40 cs = some x) (hl : cs.length = 3) : ∃ y : ActE, cs = recA.cs y := by
  have hCi : Tryd.prog.cellsOf 3 = 1 := by kernel_rfl
  have hCe : Tryd.prog.cellsOf 38 = 2 := by kernel_rfl
  obtain ⟨x0, x1, x2, rfl⟩ : ∃ x0 x1 x2, cs = [x0, x1, x2] := by
    match cs, hl with
    | [x0, x1, x2], _ => exact ⟨x0, x1, x2, rfl⟩
  obtain ⟨_, _, f0⟩ := trod_fldE (i := 0) Tryd.underlying40 h rfl hCi
  obtain ⟨_, _, f1⟩ := trod_fldE (i := 1) Tryd.underlying40 h rfl hCe
  obtain ⟨o0, e0, -, -⟩ := DataW.trod_int Tryd.underlying3 f0
  obtain ⟨y, e1, -⟩ := open_entry f1 (by simp)
  simp at e0
  have e1' : [x1, x2] = recE.cs y := e1
  subst e0
  refine ⟨(o0, y), ?_⟩
  rw [e1']
  rfl
theorem open_acts13 {v : Value} {d : DataW H} {p : List MemPlace} {r : Reach} {b0 : Nat} (hv : Value.okWide Tryd.prog w r b0 35 v) (h : DataW.Trod enc Tryd.prog w base spare held 35 v d p) :
    ∃ (A : Option Addr) (l : List ActE) (c : Nat) (g : Option Nat), v = .slice A l.length c ∧ recA.Rd w v g l := by
  obtain ⟨a0, len, cap, rfl⟩ := okWide_slice Tryd.underlying35 hv
  obtain ⟨fuel, hf⟩ := h
  rcases open_slice Tryd.underlying35 hf with ⟨hcs, _⟩ | ⟨a, l, c, m, n, D, Pl, hcs, _, hl, hm, hmm, _, hi⟩
  · simp [Value.cells] at hcs
    obtain ⟨rfl, rfl, rfl⟩ := hcs
    exact ⟨none, [], 0, none, rfl, RecT.Rd.nil _ _⟩
  · simp [Value.cells] at hcs
    obtain ⟨rfl, rfl, rfl⟩ := hcs
    have hlm : len ≤ m := by rw [hmm]; split <;> omega
    have hC : Tryd.prog.cellsOf 40 = 3 := by kernel_rfl
    rw [hC] at hi
    obtain ⟨its, hql, hq⟩ := list_of_forall (P := fun i (t : ActE) => ∀ k, k < 3 → w.cell? (a.add (i * 3 + k)) = (recA.cs t)[k]?) len (fun i hilt => by
      obtain ⟨cs', hc, ht'⟩ := hi i (by omega)
      obtain ⟨_, hcl, hat⟩ := World.cells?_some hc
      obtain ⟨y, rfl⟩ := open_act13 ht' hcl
      refine ⟨y, fun k hk => ?_⟩
      have := hat k hk
      rw [Go.Deep.add_add] at this
      exact this)
    subst hql
    by_cases h0 : its.length = 0
    · exact ⟨some a, its, cap, none, rfl, some a, cap, rfl, hl, hm, Under.none _, fun h => by omega, fun h => by cases h⟩
    · have hc0 := hq 0 _ (List.getElem?_eq_getElem (by omega)) 0 (by omega)
      have ha := plain_addr (a := a) (v := .int .i64 (its[0]'(by omega)).1) (by simpa [recA] using hc0)
      have hb := block_lt_of_cell (a := a.add 0) (v := .int .i64 (its[0]'(by omega)).1) (by simpa [recA] using hc0)
      rw [add_block] at hb
      refine ⟨some a, its, cap, some a.block, rfl, some a, cap, rfl, hl, hm, fun b hb' => (by injection hb' with hb'; omega), fun _ => ⟨a.block, a.off, by rw [← ha], rfl, fun i t hit k hk => ?_⟩, fun h => by cases h⟩
      have := hq i t hit k hk
      rw [ha] at this
      simp only [add_plain] at this
      rw [Nat.add_assoc]
      exact this
end
end Go.Proofs.YtnlmdfbjmhcilaaDoor
