/- Texts joined by a program (merge.py). -/
import Derived.Test.YtcdfhagcchmnhaaGreatDoorMch
import Derived.KernelRfl
import Derived.Test.YtcdfhagcchmnhaaGreatDoorMcb
import Derived.ProofKit
import Derived.SliceStrings
import Derived.Test.YtcdfhagcchmnhaaGreatDoorRows
import Derived.Test.YtcdfhagcchmnhaaGreatDoorMcc
set_option linter.unusedSimpArgs false
set_option linter.unusedVariables false
namespace Go.Proofs.YtcdfhagcchmnhaaGreatDoor
open Go Go.Eng
def at0 (s : List Int) (i : Int) : Int := s.getD i.toNat 0
def bCond (s : List Int) (j b : Int) : Bool := cond (decide (at0 s j ≥ 0)) (cond (decide (b < 0)) true (decide (at0 s j < at0 s b))) false
def bst (s : List Int) : List Int → Int → Int
  | [], b => b
  | j :: r, b => bst s r (cond (bCond s j b) j b)
/-- Steps that lead to an end. -/
structure StpOk (row : Nat → List Int) (n : Nat) (start : Int) (s : List Int) : Prop where
  len : s.length = n
  bd : ∀ x ∈ s, -1 ≤ x ∧ x ≤ (n : Int)
  dec : ∀ i : Int, 0 ≤ i → i < (n : Int) → i ≠ start → 0 ≤ at0 s i → ∃ j ∈ row i.toNat, 0 ≤ at0 s j ∧ at0 s j < at0 s i
theorem bst_spec (s : List Int) : ∀ (r : List Int) (b : Int), (∀ j ∈ r, 0 ≤ j) → (b < 0 ∨ 0 ≤ at0 s b) →
    (bst s r b < 0 → bst s r b = b ∧ ∀ j ∈ r, at0 s j < 0) ∧ (0 ≤ bst s r b → (bst s r b = b ∨ bst s r b ∈ r) ∧ 0 ≤ at0 s (bst s r b) ∧ (0 ≤ b → at0 s (bst s r b) ≤ at0 s b) ∧ ∀ j ∈ r, 0 ≤ at0 s j → at0 s (bst s r b) ≤ at0 s j)
  | [], b, _, hb => ⟨fun _ => ⟨rfl, fun j hj => by cases hj⟩, fun h => by
      have h : 0 ≤ b := h
      refine ⟨.inl rfl, ?_, fun _ => Int.le_refl _, fun j hj => by cases hj⟩
      show 0 ≤ at0 s b
      omega⟩
  | j :: r, b, hr, hb => by
    have hj := hr j (by simp)
    have hr' : ∀ k ∈ r, 0 ≤ k := fun k hk => hr k (by simp [hk])
    rw [bst]
    cases hc : bCond s j b with
    | false =>
      rw [cond_false]
      obtain ⟨h1, h2⟩ := bst_spec s r b hr' hb
      have hcc : at0 s j < 0 ∨ (0 ≤ b ∧ at0 s b ≤ at0 s j) := by
        unfold bCond at hc
        by_cases q1 : at0 s j ≥ 0
        · rw [dT q1, cond_true] at hc
          by_cases q2 : b < 0
          · rw [dT q2] at hc; cases hc
          · rw [dF q2, cond_false] at hc
            have := of_decide_eq_false hc
            exact .inr ⟨by omega, by omega⟩
        · exact .inl (by omega)
      refine ⟨fun h => ?_, fun h => ?_⟩
      · obtain ⟨g1, g2⟩ := h1 h
        refine ⟨g1, fun k hk => ?_⟩
        rcases List.mem_cons.1 hk with rfl | hk
        · rcases hcc with q | q
          · exact q
          · omega
        · exact g2 k hk
      · obtain ⟨g1, g2, g3, g4⟩ := h2 h
        refine ⟨?_, g2, g3, fun k hk hks => ?_⟩
        · rcases g1 with q | q
          · exact .inl q
          · exact .inr (List.mem_cons_of_mem _ q)
        · rcases List.mem_cons.1 hk with rfl | hk
          · rcases hcc with q | q
            · omega
            · have := g3 q.1; omega
          · exact g4 k hk hks
    | true =>
      rw [cond_true]
      have hcc : at0 s j ≥ 0 ∧ (b < 0 ∨ at0 s j < at0 s b) := by
        unfold bCond at hc
        obtain ⟨q1, q2⟩ := cond_ff hc
        refine ⟨of_decide_eq_true q1, ?_⟩
        by_cases q3 : b < 0
        · exact .inl q3
        · rw [dF q3, cond_false] at q2
          exact .inr (of_decide_eq_true q2)
      obtain ⟨h1, h2⟩ := bst_spec s r j hr' (.inr hcc.1)
      refine ⟨fun h => ?_, fun h => ?_⟩
      · obtain ⟨g1, g2⟩ := h1 h
        omega
      · obtain ⟨g1, g2, g3, g4⟩ := h2 h
        have g5 := g3 hj
        refine ⟨?_, g2, fun hb0 => ?_, fun k hk hks => ?_⟩
        · rcases g1 with q | q
          · rw [q]; exact .inr (by simp)
          · exact .inr (List.mem_cons_of_mem _ q)
        · rcases hcc.2 with q | q
          · omega
          · omega
        · rcases List.mem_cons.1 hk with rfl | hk
          · exact g5
          · exact g4 k hk hks
def folP (row : Nat → List Int) (nm : Nat → ByteArray) (s : List Int) (start : Int) : Nat → Int → List ByteArray → List ByteArray
  | 0, _, c => c
  | n + 1, i, c => cond (cond (decide (bst s (row i.toNat) (-1) < 0)) true (bst s (row i.toNat) (-1) == start)) (c ++ [nm i.toNat]) (folP row nm s start n (bst s (row i.toNat) (-1)) (c ++ [nm i.toNat]))
def nmAt (ms : List DMacro) (i : Nat) : ByteArray := (el ms i).fName
def skipP (ms : List DMacro) (v : Nat) : Bool := cond (((lenM vI (el (nxt ms) v) : Nat) : Int) == 0) true (!retM (nxt ms) (v : Int))
def cycP (ms : List DMacro) : List Nat → List ByteArray × Bool
  | [] => ([], false)
  | v :: vs => cond (skipP ms v) (cycP ms vs) (folP (el (nxt ms)) (nmAt ms) (distM (nxt ms) (v : Int)) (v : Int) (ms.length + 2) (v : Int) [], true)
def encC (r : List ByteArray × Bool) : SV := .av (.tup [.sl (r.1.map strAV), .val (.bool r.2)])
set_option maxRecDepth 100000 in
set_option maxHeartbeats 4000000 in
theorem cycP_to (ms : List DMacro) (hok : MOk ms) (hst : ∀ v, v < ms.length → StpOk (el (nxt ms)) ms.length (v : Int) (distM (nxt ms) (v : Int))) : CallTo Tryz.prog 15 [jL (ms.map aMacro)] [] [] (encC (cycP ms (List.range ms.length))) [] [] := by
  have hlm := lenM_eq aMacro ms
  have hlen := hok.1
  have hnl := nxt_len ms
  have hno := nxt_ok hok
  have hnc := needs_to ms hok
  refine BEG encC (cycP ms (List.range ms.length)) Tryz.func15 (by kernel_rfl) ?_
  refine GO (tn 3 (kc hnc (tn 4 z))) (by kernel_rfl) ?_
  refine LP (n := ms.length + 1) (fun N M S => ∃ (v : Nat), (v ≤ ms.length) ∧ (ms.length - v < N) ∧ M = cycP ms ((List.range ms.length).drop v) ∧ S = (sx 84 [(0, jL (ms.map aMacro)), (4, .av (.sl ((nxt ms).map aRow))), (15, jI ((lenM aMacro ms : Nat) : Int)), (16, jI ((v : Nat) : Int))] [] [])) (by kernel_rfl)
    ⟨0, by omega, by omega, rfl, rfl⟩ (WK (by kernel_rfl)) ?_
  rintro n0 M S ⟨v, hv, hF0, rfl, rfl⟩
  obtain ⟨n0, rfl⟩ : ∃ k, n0 = k + 1 := ⟨n0 - 1, by omega⟩
  refine GO (tn 1 z) (by kernel_rfl) ?_
  by_cases h1 : v < ms.length
  · have hd : decide ((((v : Nat) : Int) : Int) < ((lenM aMacro ms : Nat) : Int)) = true := dT (by omega)
    have hw1 := wrE (((v : Nat) : Int) + 1) (((v + 1 : Nat) : Int)) (by omega)
    have hel := el_aRow (nxt ms) ((v : Nat) : Int) (by omega) (by omega)
    rw [Int.toNat_natCast] at hel
    have hrc := ret_to (nxt ms) ((v : Nat) : Int) hno (by omega) (by omega)
    have hdc := dist_to (nxt ms) ((v : Nat) : Int) hno (by omega) (by omega)
    obtain ⟨s, hs⟩ : ∃ s, distM (nxt ms) ((v : Nat) : Int) = s := ⟨_, rfl⟩
    have hso := hst v h1
    rw [range_drop h1, cycP]
    rw [hs] at hso hdc ⊢
    refine GO (kb hd (tn 4 (ke hel (tn 4 (kj (((lenM vI (el (nxt ms) v) : Nat) : Int) == 0) z (tn 2 (hc (fun _ => hrc) (tn 1 z))) z))))) (by kernel_rfl) ?_
    rcases Bool.eq_false_or_eq_true (skipP ms v) with hb | hb
    · rw [hb, cond_true]
      refine GO (kb hb (kn hw1 (tn 1 z))) (by kernel_rfl) ?_
      exact AG ⟨v + 1, by omega, by omega, rfl, rfl⟩ (WK (by kernel_rfl)) (by kernel_rfl) (Nat.lt_succ_self _)
    · rw [hb, cond_false]
      refine GO (kb hb (tn 2 (kc hdc (tn 4 z)))) (by kernel_rfl) ?_
      have hsl := hso.len
      refine LP (n := ms.length + 2) (fun N M S => ∃ (g : Nat) (c : List ByteArray) (i : Int) (f : Nat), (0 ≤ i) ∧ (i < (ms.length : Int)) ∧ (i = (v : Int) → ms.length + 1 ≤ f) ∧ (i ≠ (v : Int) → 0 ≤ at0 s i ∧ at0 s i ≤ (f : Int)) ∧ (c.length + f ≤ ms.length + 1) ∧ (f < N) ∧ M = (folP (el (nxt ms)) (nmAt ms) s (v : Int) N i c, true) ∧ S = (sx 84 [(0, jL (ms.map aMacro)), (4, .av (.sl ((nxt ms).map aRow))), (5, jI ((v : Nat) : Int)), (6, jL (s.map vI)), (7, .own (207, 10) g 1 (c.map strAV)), (8, jI i)] [] [((207, 10), g)])) (by kernel_rfl)
        ⟨0, [], (v : Int), ms.length + 1, by omega, by omega, fun _ => Nat.le_refl _, fun h => absurd rfl h, by simp, by omega, rfl, rfl⟩ (WKf [(7, (.own (207, 10) 0 1 (([] : List ByteArray).map strAV)))] (ac (show ((([] : List ByteArray).map strAV) : List AV) = [] ∧ 0 < 10 ∧ ((0) : Nat) = (0) from ⟨rfl, by decide, rfl⟩) an) (by kernel_rfl)) ?_
      rintro n1 M S ⟨g, c, i, f, hi0, hi1, hf1, hf2, hf3, hF1, rfl, rfl⟩
      obtain ⟨n1, rfl⟩ : ∃ k, n1 = k + 1 := ⟨n1 - 1, by omega⟩
      have helm := elI_aMacro ms i hi0 hi1
      have helr := el_aRow (nxt ms) i hi0 (by omega)
      obtain ⟨row, hrw⟩ : ∃ row, el (nxt ms) i.toNat = row := ⟨_, rfl⟩
      obtain ⟨hr1, hr2⟩ := hno.1 row (by rw [← hrw]; exact el_mem (by omega))
      rw [hrw] at helr
      have hlr := lenM_eq vI row
      have hu1 : Uni 1 [vS (nmAt ms i.toNat)] := uni_one rfl rfl
      refine UF (M' := (cond (cond (decide (bst s row (-1) < 0)) true (bst s row (-1) == (v : Int))) (c ++ [nmAt ms i.toNat]) (folP (el (nxt ms)) (nmAt ms) s (v : Int) n1 (bst s row (-1)) (c ++ [nmAt ms i.toNat])), true)) (by rw [folP, hrw]) ?_
      refine GO (tn 3 (ke helm (tn 2 (kp hu1 (kp (show (g : Nat) = g ∧ Uni 1 [vS (nmAt ms i.toNat)] ∧ (((c.map strAV) : List AV).length + ([vS (nmAt ms i.toNat)] : List AV).length) * 16 ≤ 140737488355328 from ⟨rfl, hu1, by simp; omega⟩) (kw (ap1 strAV c (nmAt ms i.toNat)) (tn 4 (ke helr (tn 3 z))))))))) (by kernel_rfl) ?_
      refine LP (n := row.length + 1) (fun N M S => ∃ (k : Nat) (b : Int), (k ≤ row.length) ∧ (b < 0 ∨ 0 ≤ at0 s b) ∧ (b < (ms.length : Int)) ∧ (row.length - k < N) ∧ bst s (row.drop k) b = bst s row (-1) ∧ M = (cond (cond (decide (bst s row (-1) < 0)) true (bst s row (-1) == (v : Int))) (c ++ [nmAt ms i.toNat]) (folP (el (nxt ms)) (nmAt ms) s (v : Int) n1 (bst s row (-1)) (c ++ [nmAt ms i.toNat])), true) ∧ S = (sx 84 [(0, jL (ms.map aMacro)), (4, .av (.sl ((nxt ms).map aRow))), (5, jI ((v : Nat) : Int)), (6, jL (s.map vI)), (7, .own (207, 10) (g + 1) 1 ((c ++ [nmAt ms i.toNat]).map strAV)), (9, jI b), (46, jL (row.map vI)), (47, jI ((lenM vI row : Nat) : Int)), (48, jI ((k : Nat) : Int))] [] [((207, 10), g + 1)])) (by kernel_rfl)
        ⟨0, -1, by omega, .inl (by omega), by omega, by omega, rfl, rfl, rfl⟩ (WK (by kernel_rfl)) ?_
      rintro n2 M S ⟨k, b, hk, hb0, hb1, hF2, hbq, rfl, rfl⟩
      obtain ⟨n2, rfl⟩ : ∃ k, n2 = k + 1 := ⟨n2 - 1, by omega⟩
      refine GO (tn 1 z) (by kernel_rfl) ?_
      by_cases h2 : k < row.length
      · have hd : decide ((((k : Nat) : Int) : Int) < ((lenM vI row : Nat) : Int)) = true := dT (by omega)
        have hw2 := wrE (((k : Nat) : Int) + 1) (((k + 1 : Nat) : Int)) (by omega)
        obtain ⟨j, hj⟩ : ∃ j, el row k = j := ⟨_, rfl⟩
        obtain ⟨hj0, hj1⟩ := hr2 _ (el_mem h2)
        have hke := el_vI' row ((k : Nat) : Int) k rfl h2
        rw [drop_consI h2, bst] at hbq
        rw [hj] at hke hj0 hj1 hbq
        have hkj := el_vIg s j hj0 (by omega)
        refine GO (kb hd (ke hke (tn 2 z))) (by kernel_rfl) ?_
        by_cases h3 : at0 s j ≥ 0
        · have h3d : decide (at0 s j ≥ 0) = true := dT h3
          by_cases h4 : b < 0
          · have h4d : decide (b < 0) = true := dT h4
            have hcc : bCond s j b = true := by rw [bCond, h3d, h4d]; rfl
            rw [hcc, cond_true] at hbq
            refine DR3 (tn 2 (ko (eO hkj) (kp hkj (tn 3 (ko (.b true) (kp h3d (tn 1 (ko (.b true) (kp h3d (tn 1 (ko (.b true) (kp h3d (tn 1 (ko (.b true) (kp h4d (ko (.b true) (kp h4d (ko (.b true) (kp h4d (ko (.b true) (kp h4d (ko (.b true) (kp h4d (ko (.b true) (kp h4d (ko (.b true) (kp h4d (ko (.b true) (kp h4d (ko (.b true) (kp h4d (ko (.b true) (kp h3d (ko (.b true) (kp h4d (ko (.b true) (kp h3d z))))))))))))))))))))))))))))))))))))) (by kernel_rfl) (by kernel_rfl) (by kernel_rfl) ?_
            refine GO (kb (show true = true from rfl) (tn 2 (kn hw2 (tn 1 z)))) (by kernel_rfl) ?_
            exact AG ⟨k + 1, j, by omega, .inr h3, by omega, by omega, hbq, rfl, rfl⟩ (WK (by kernel_rfl)) (by kernel_rfl) (Nat.lt_succ_self _)
          · have h4d : decide (b < 0) = false := dF h4
            have hkb := el_vIg s b (by omega) (by omega)
            have hcc : bCond s j b = decide (at0 s j < at0 s b) := by rw [bCond, h3d, h4d]; rfl
            refine DR3 (tn 2 (ko (eO hkj) (kp hkj (tn 3 (ko (.b true) (kp h3d (tn 1 (ko (.b true) (kp h3d (tn 1 (ko (.b true) (kp h3d (tn 1 (ko (.b false) (kp h4d (tn 1 (ko (.b false) (kp h4d (tn 1 (ko (.b false) (kp h4d (ko (eO hkj) (kp hkj (ko (.b false) (kp h4d (tn 1 (ko (.b false) (kp h4d (tn 1 (ko (.b false) (kp h4d (tn 1 (ko (.b false) (kp h4d (ko (eO hkb) (kp hkb (ko (.b false) (kp h4d (tn 1 (ko (.b false) (kp h4d (tn 1 (ko (.b true) (kp h3d (ko (.b false) (kp h4d (ko (.b true) (kp h3d z)))))))))))))))))))))))))))))))))))))))))))))))) (by kernel_rfl) (by kernel_rfl) (by kernel_rfl) ?_
            by_cases h5 : at0 s j < at0 s b
            · have h5d : decide (at0 s j < at0 s b) = true := dT h5
              rw [hcc, h5d, cond_true] at hbq
              refine GO (kb h5d (tn 2 (kn hw2 (tn 1 z)))) (by kernel_rfl) ?_
              exact AG ⟨k + 1, j, by omega, .inr h3, by omega, by omega, hbq, rfl, rfl⟩ (WK (by kernel_rfl)) (by kernel_rfl) (Nat.lt_succ_self _)
            · have h5d : decide (at0 s j < at0 s b) = false := dF h5
              rw [hcc, h5d, cond_false] at hbq
              refine GO (kb h5d (kn hw2 (tn 1 z))) (by kernel_rfl) ?_
              exact AG ⟨k + 1, b, by omega, hb0, hb1, by omega, hbq, rfl, rfl⟩ (WK (by kernel_rfl)) (by kernel_rfl) (Nat.lt_succ_self _)
        · have h3d : decide (at0 s j ≥ 0) = false := dF h3
          have hcc : bCond s j b = false := by rw [bCond, h3d]; rfl
          rw [hcc, cond_false] at hbq
          refine DR3 (tn 2 (ko (eO hkj) (kp hkj (tn 3 (ko (.b false) (kp h3d (ko (.b false) (kp h3d (ko (.b false) (kp h3d (ko (.b false) (kp h3d (ko (.b false) (kp h3d z)))))))))))))) (by kernel_rfl) (by kernel_rfl) (by kernel_rfl) ?_
          refine GO (kb (show false = false from rfl) (kn hw2 (tn 1 z))) (by kernel_rfl) ?_
          exact AG ⟨k + 1, b, by omega, hb0, hb1, by omega, hbq, rfl, rfl⟩ (WK (by kernel_rfl)) (by kernel_rfl) (Nat.lt_succ_self _)
      · have hd : decide ((((k : Nat) : Int) : Int) < ((lenM vI row : Nat) : Int)) = false := dF (by omega)
        rw [show row.drop k = [] from List.drop_eq_nil_of_le (by omega), bst] at hbq
        subst hbq
        refine GO (kb hd z) (by kernel_rfl) ?_
        refine OUT (tn 3 (kj (decide (bst s row (-1) < 0)) z (tn 3 z) z)) (by kernel_rfl) ?_
        rcases Bool.eq_false_or_eq_true (cond (decide (bst s row (-1) < 0)) true (bst s row (-1) == (v : Int))) with hc | hc
        · rw [hc, cond_true]
          refine GO (kb hc (tn 3 z)) (by kernel_rfl) ?_
          refine OUT z (by kernel_rfl) ?_
          refine OUT z (by kernel_rfl) ?_
          exact EN (by kernel_rfl)
        · obtain ⟨hc1, hc2⟩ := cond_tt hc
          have hB0 := of_decide_eq_false hc1
          have hBv : bst s row (-1) ≠ (v : Int) := by simpa using hc2
          obtain ⟨hBm, hBs, _, hBmin⟩ := (bst_spec s row (-1) (fun j hj => (hr2 j hj).1) (.inl (by omega))).2 (by omega)
          have hBr : bst s row (-1) ∈ row := by
            rcases hBm with q | q
            · omega
            · exact q
          obtain ⟨hb2, hb3⟩ := hr2 _ hBr
          have hbd := hso.bd (at0 s (bst s row (-1))) (by
            have hlt : (bst s row (-1)).toNat < s.length := by omega
            have : at0 s (bst s row (-1)) = s[(bst s row (-1)).toNat] := by simp [at0, hlt]
            rw [this]; exact List.getElem_mem hlt)
          have hlt : (at0 s (bst s row (-1))).toNat < f := by
            by_cases hiv : i = (v : Int)
            · have := hf1 hiv; omega
            · obtain ⟨q1, q2⟩ := hf2 hiv
              obtain ⟨j, hj1, hj2, hj3⟩ := hso.dec i hi0 hi1 hiv q1
              rw [hrw] at hj1
              have := hBmin j hj1 hj2
              omega
          rw [hc, cond_false]
          refine GO (kb hc (tn 2 z)) (by kernel_rfl) ?_
          exact AG ⟨g + 1, c ++ [nmAt ms i.toNat], bst s row (-1), (at0 s (bst s row (-1))).toNat, by omega, by omega, fun h => absurd h hBv, fun _ => ⟨hBs, by omega⟩, by simp; omega, by omega, rfl, rfl⟩ (WK (by kernel_rfl)) (by kernel_rfl) (Nat.lt_succ_self _)
  · have hd : decide ((((v : Nat) : Int) : Int) < ((lenM aMacro ms : Nat) : Int)) = false := dF (by omega)
    rw [show (List.range ms.length).drop v = [] from List.drop_eq_nil_of_le (by simp; omega), cycP]
    refine GO (kb hd z) (by kernel_rfl) ?_
    refine OUT (tn 2 z) (by kernel_rfl) ?_
    exact EN (by kernel_rfl)
end Go.Proofs.YtcdfhagcchmnhaaGreatDoor
namespace Go.Proofs.YtcdfhagcchmnhaaGreatDoor
open Go Go.Eng
def rowR (ms : List DMacro) (i : Nat) : List Int := nrw (names ms) (el ms i)
def folR (row : Nat → List Int) (nm : Nat → ByteArray) (s : List Int) (start : Int) (k : List ByteArray × Bool) : Nat → Int → List ByteArray → List ByteArray × Bool
  | 0, _, _ => k
  | n + 1, i, c => cond (decide (i ≥ 0)) (cond (bst s (row i.toNat) (-1) == start) (c ++ [nm i.toNat], true) (folR row nm s start k n (bst s (row i.toNat) (-1)) (c ++ [nm i.toNat]))) k
def cycR (ms : List DMacro) : List Nat → List ByteArray × Bool
  | [] => ([], false)
  | v :: vs => cond (fndI ms (nmAt ms v) != (v : Int)) (cycR ms vs) (folR (rowR ms) (nmAt ms) (stpM ms (v : Int)) (v : Int) (cycR ms vs) (ms.length + 3) (v : Int) [])
set_option maxRecDepth 100000 in
set_option maxHeartbeats 4000000 in
theorem cycR_to (ms : List DMacro) (hok : MOk ms) (hst : ∀ v, v < ms.length → fndI ms (nmAt ms v) = (v : Int) → StpOk (rowR ms) ms.length (v : Int) (stpM ms (v : Int))) : CallTo Tryz.prog 16 [jL (ms.map aMacro)] [] [] (encC (cycR ms (List.range ms.length))) [] [] := by
  have hlm := lenM_eq aMacro ms
  have hlen := hok.1
  refine BEG encC (cycR ms (List.range ms.length)) Tryz.func16 (by kernel_rfl) ?_
  refine GO (tn 3 z) (by kernel_rfl) ?_
  refine LP (n := ms.length + 1) (fun N M S => ∃ (v g0 : Nat), (v ≤ ms.length) ∧ (ms.length - v < N) ∧ M = cycR ms ((List.range ms.length).drop v) ∧ S = (sx 75 [(0, jL (ms.map aMacro)), (4, jI ((v : Nat) : Int))] [] [((206, 10), g0)])) (by kernel_rfl)
    ⟨0, 0, by omega, by omega, rfl, rfl⟩ (WK (by kernel_rfl)) ?_
  rintro n0 M S ⟨v, g0, hv, hF0, rfl, rfl⟩
  obtain ⟨n0, rfl⟩ : ∃ k, n0 = k + 1 := ⟨n0 - 1, by omega⟩
  refine GO (tn 4 z) (by kernel_rfl) ?_
  by_cases h1 : v < ms.length
  · have hd : decide ((((v : Nat) : Int) : Int) < ((lenM aMacro ms : Nat) : Int)) = true := dT (by omega)
    have hw1 := wrE (((v : Nat) : Int) + 1) (((v + 1 : Nat) : Int)) (by omega)
    have hel := el_aMacro ms v h1
    have hfc := fnd_to ms (nmAt ms v) hlen
    have hsc := stp_to ms ((v : Nat) : Int) hok (by omega) (by omega)
    have hst := hst v h1
    obtain ⟨s, hs⟩ : ∃ s, stpM ms ((v : Nat) : Int) = s := ⟨_, rfl⟩
    rw [range_drop h1, cycR]
    rw [hs] at hst hsc ⊢
    refine GO (kb hd (tn 3 (ke hel (tn 2 (kc hfc (tn 2 z)))))) (by kernel_rfl) ?_
    refine CSn (fun h2p h2 => ?_) (fun h2p h2 => ?_)
    · refine GO (kb h2 (tn 1 (kn hw1 (tn 1 z)))) (by kernel_rfl) ?_
      exact AG ⟨v + 1, g0, by omega, by omega, rfl, rfl⟩ (WK (by kernel_rfl)) (by kernel_rfl) (Nat.lt_succ_self _)
    · have hso := hst h2p
      have hsl := hso.len
      refine GO (kb h2 (tn 2 (kc hsc (tn 4 z)))) (by kernel_rfl) ?_
      refine LP (n := ms.length + 3) (fun N M S => ∃ (g : Nat) (c : List ByteArray) (i : Int) (f : Nat), (i < (ms.length : Int)) ∧ (i = (v : Int) → ms.length + 1 ≤ f) ∧ (0 ≤ i → i ≠ (v : Int) → 0 ≤ at0 s i ∧ at0 s i ≤ (f : Int)) ∧ (c.length + f ≤ ms.length + 1) ∧ (f < N) ∧ M = folR (rowR ms) (nmAt ms) s (v : Int) (cycR ms ((List.range ms.length).drop (v + 1))) N i c ∧ S = (sx 75 [(0, jL (ms.map aMacro)), (4, jI ((v : Nat) : Int)), (5, jL (s.map vI)), (6, .own (206, 10) g 1 (c.map strAV)), (7, jI i)] [] [((206, 10), g)])) (by kernel_rfl)
        ⟨g0, [], (v : Int), ms.length + 1, by omega, fun _ => Nat.le_refl _, fun _ h => absurd rfl h, by simp, by omega, rfl, rfl⟩ (WKf [(6, (.own (206, 10) g0 1 (([] : List ByteArray).map strAV)))] (ac (show ((([] : List ByteArray).map strAV) : List AV) = [] ∧ 0 < 10 ∧ (g0 : Nat) = g0 from ⟨rfl, by decide, rfl⟩) an) (by kernel_rfl)) ?_
      rintro n1 M S ⟨g, c, i, f, hi1, hf1, hf2, hf3, hF1, rfl, rfl⟩
      obtain ⟨n1, rfl⟩ : ∃ k, n1 = k + 1 := ⟨n1 - 1, by omega⟩
      refine UF (folR.eq_2 ..) ?_
      refine GO (tn 2 z) (by kernel_rfl) ?_
      refine CSd (fun hi0 h6 => ?_) (fun hi0 h6 => ?_)
      · have hi0 : 0 ≤ i := hi0
        have helm := elI_aMacro ms i hi0 hi1
        have hnc := nds_to ms i hok hi0 hi1
        obtain ⟨row, hrw⟩ : ∃ row, nrw (names ms) (el ms i.toNat) = row := ⟨_, rfl⟩
        have hr1 := nrw_len hok (el_mem (l := ms) (i := i.toNat) (by omega))
        have hr2 := nrw_mem ms (el ms i.toNat)
        have hrr : rowR ms i.toNat = row := hrw
        rw [hrw] at hnc hr1 hr2
        rw [hrr]
        have hlr := lenM_eq vI row
        have hu1 : Uni 1 [vS (nmAt ms i.toNat)] := uni_one rfl rfl
        refine GO (kb h6 (tn 3 (ke helm (tn 2 (kp hu1 (kp (show (g : Nat) = g ∧ Uni 1 [vS (nmAt ms i.toNat)] ∧ (((c.map strAV) : List AV).length + ([vS (nmAt ms i.toNat)] : List AV).length) * 16 ≤ 140737488355328 from ⟨rfl, hu1, by simp; omega⟩) (kw (ap1 strAV c (nmAt ms i.toNat)) (tn 4 (kc hnc (tn 2 z)))))))))) (by kernel_rfl) ?_
        refine LP (n := row.length + 1) (fun N M S => ∃ (k : Nat) (b : Int), (k ≤ row.length) ∧ (b < 0 ∨ 0 ≤ at0 s b) ∧ (b < (ms.length : Int)) ∧ (row.length - k < N) ∧ bst s (row.drop k) b = bst s row (-1) ∧ M = cond (bst s row (-1) == (v : Int)) (c ++ [nmAt ms i.toNat], true) (folR (rowR ms) (nmAt ms) s (v : Int) (cycR ms ((List.range ms.length).drop (v + 1))) n1 (bst s row (-1)) (c ++ [nmAt ms i.toNat])) ∧ S = (sx 75 [(0, jL (ms.map aMacro)), (4, jI ((v : Nat) : Int)), (5, jL (s.map vI)), (6, .own (206, 10) (g + 1) 1 ((c ++ [nmAt ms i.toNat]).map strAV)), (8, jI b), (42, jL (row.map vI)), (43, jI ((lenM vI row : Nat) : Int)), (44, jI ((k : Nat) : Int))] [] [((206, 10), g + 1)])) (by kernel_rfl)
          ⟨0, -1, by omega, .inl (by omega), by omega, by omega, rfl, rfl, rfl⟩ (WK (by kernel_rfl)) ?_
        rintro n2 M S ⟨k, b, hk, hb0, hb1, hF2, hbq, rfl, rfl⟩
        obtain ⟨n2, rfl⟩ : ∃ k, n2 = k + 1 := ⟨n2 - 1, by omega⟩
        refine GO (tn 1 z) (by kernel_rfl) ?_
        by_cases h2 : k < row.length
        · have hd : decide ((((k : Nat) : Int) : Int) < ((lenM vI row : Nat) : Int)) = true := dT (by omega)
          have hw2 := wrE (((k : Nat) : Int) + 1) (((k + 1 : Nat) : Int)) (by omega)
          obtain ⟨j, hj⟩ : ∃ j, el row k = j := ⟨_, rfl⟩
          obtain ⟨hj0, hj1⟩ := hr2 _ (el_mem h2)
          have hke := el_vI' row ((k : Nat) : Int) k rfl h2
          rw [drop_consI h2, bst] at hbq
          rw [hj] at hke hj0 hj1 hbq
          have hkj := el_vIg s j hj0 (by omega)
          refine GO (kb hd (ke hke (tn 2 z))) (by kernel_rfl) ?_
          by_cases h3 : at0 s j ≥ 0
          · have h3d : decide (at0 s j ≥ 0) = true := dT h3
            by_cases h4 : b < 0
            · have h4d : decide (b < 0) = true := dT h4
              have hcc : bCond s j b = true := by rw [bCond, h3d, h4d]; rfl
              rw [hcc, cond_true] at hbq
              refine DR3 (tn 2 (ko (eO hkj) (kp hkj (tn 3 (ko (.b true) (kp h3d (tn 1 (ko (.b true) (kp h3d (tn 1 (ko (.b true) (kp h3d (tn 1 (ko (.b true) (kp h4d (ko (.b true) (kp h4d (ko (.b true) (kp h4d (ko (.b true) (kp h4d (ko (.b true) (kp h4d (ko (.b true) (kp h4d (ko (.b true) (kp h4d (ko (.b true) (kp h4d (ko (.b true) (kp h4d (ko (.b true) (kp h3d (ko (.b true) (kp h4d (ko (.b true) (kp h3d z))))))))))))))))))))))))))))))))))))) (by kernel_rfl) (by kernel_rfl) (by kernel_rfl) ?_
              refine GO (kb (show true = true from rfl) (tn 2 (kn hw2 (tn 1 z)))) (by kernel_rfl) ?_
              exact AG ⟨k + 1, j, by omega, .inr h3, by omega, by omega, hbq, rfl, rfl⟩ (WK (by kernel_rfl)) (by kernel_rfl) (Nat.lt_succ_self _)
            · have h4d : decide (b < 0) = false := dF h4
              have hkb := el_vIg s b (by omega) (by omega)
              have hcc : bCond s j b = decide (at0 s j < at0 s b) := by rw [bCond, h3d, h4d]; rfl
              refine DR3 (tn 2 (ko (eO hkj) (kp hkj (tn 3 (ko (.b true) (kp h3d (tn 1 (ko (.b true) (kp h3d (tn 1 (ko (.b true) (kp h3d (tn 1 (ko (.b false) (kp h4d (tn 1 (ko (.b false) (kp h4d (tn 1 (ko (.b false) (kp h4d (ko (eO hkj) (kp hkj (ko (.b false) (kp h4d (tn 1 (ko (.b false) (kp h4d (tn 1 (ko (.b false) (kp h4d (tn 1 (ko (.b false) (kp h4d (ko (eO hkb) (kp hkb (ko (.b false) (kp h4d (tn 1 (ko (.b false) (kp h4d (tn 1 (ko (.b true) (kp h3d (ko (.b false) (kp h4d (ko (.b true) (kp h3d z)))))))))))))))))))))))))))))))))))))))))))))))) (by kernel_rfl) (by kernel_rfl) (by kernel_rfl) ?_
              by_cases h5 : at0 s j < at0 s b
              · have h5d : decide (at0 s j < at0 s b) = true := dT h5
                rw [hcc, h5d, cond_true] at hbq
                refine GO (kb h5d (tn 2 (kn hw2 (tn 1 z)))) (by kernel_rfl) ?_
                exact AG ⟨k + 1, j, by omega, .inr h3, by omega, by omega, hbq, rfl, rfl⟩ (WK (by kernel_rfl)) (by kernel_rfl) (Nat.lt_succ_self _)
              · have h5d : decide (at0 s j < at0 s b) = false := dF h5
                rw [hcc, h5d, cond_false] at hbq
                refine GO (kb h5d (kn hw2 (tn 1 z))) (by kernel_rfl) ?_
                exact AG ⟨k + 1, b, by omega, hb0, hb1, by omega, hbq, rfl, rfl⟩ (WK (by kernel_rfl)) (by kernel_rfl) (Nat.lt_succ_self _)
          · have h3d : decide (at0 s j ≥ 0) = false := dF h3
            have hcc : bCond s j b = false := by rw [bCond, h3d]; rfl
            rw [hcc, cond_false] at hbq
            refine DR3 (tn 2 (ko (eO hkj) (kp hkj (tn 3 (ko (.b false) (kp h3d (ko (.b false) (kp h3d (ko (.b false) (kp h3d (ko (.b false) (kp h3d (ko (.b false) (kp h3d z)))))))))))))) (by kernel_rfl) (by kernel_rfl) (by kernel_rfl) ?_
            refine GO (kb (show false = false from rfl) (kn hw2 (tn 1 z))) (by kernel_rfl) ?_
            exact AG ⟨k + 1, b, by omega, hb0, hb1, by omega, hbq, rfl, rfl⟩ (WK (by kernel_rfl)) (by kernel_rfl) (Nat.lt_succ_self _)
        · have hd : decide ((((k : Nat) : Int) : Int) < ((lenM vI row : Nat) : Int)) = false := dF (by omega)
          rw [show row.drop k = [] from List.drop_eq_nil_of_le (by omega), bst] at hbq
          subst hbq
          refine GO (kb hd z) (by kernel_rfl) ?_
          refine OUT (tn 3 z) (by kernel_rfl) ?_
          refine CSe (fun hcp hc => ?_) (fun hcp hc => ?_)
          · refine GO (kb hc (tn 3 z)) (by kernel_rfl) ?_
            refine OUT z (by kernel_rfl) ?_
            refine OUT z (by kernel_rfl) ?_
            exact EN (by kernel_rfl)
          · refine GO (kb hc (tn 2 z)) (by kernel_rfl) ?_
            have hf1' : 1 ≤ f := by
              by_cases hiv : i = (v : Int)
              · have := hf1 hiv; omega
              · obtain ⟨q1, q2⟩ := hf2 hi0 hiv
                obtain ⟨j, _, hj2, hj3⟩ := hso.dec i hi0 hi1 hiv q1
                omega
            by_cases hB0 : 0 ≤ bst s row (-1)
            · obtain ⟨hBm, hBs, _, hBmin⟩ := (bst_spec s row (-1) (fun j hj => (hr2 j hj).1) (.inl (by omega))).2 hB0
              have hBr : bst s row (-1) ∈ row := by
                rcases hBm with q | q
                · omega
                · exact q
              obtain ⟨hb2, hb3⟩ := hr2 _ hBr
              have hbd := hso.bd (at0 s (bst s row (-1))) (by
                have hlt : (bst s row (-1)).toNat < s.length := by omega
                have : at0 s (bst s row (-1)) = s[(bst s row (-1)).toNat] := by simp [at0, hlt]
                rw [this]; exact List.getElem_mem hlt)
              have hlt : (at0 s (bst s row (-1))).toNat < f := by
                by_cases hiv : i = (v : Int)
                · have := hf1 hiv; omega
                · obtain ⟨q1, q2⟩ := hf2 hi0 hiv
                  obtain ⟨j, hj1, hj2, hj3⟩ := hso.dec i hi0 hi1 hiv q1
                  rw [hrr] at hj1
                  have := hBmin j hj1 hj2
                  omega
              exact AG ⟨g + 1, c ++ [nmAt ms i.toNat], bst s row (-1), (at0 s (bst s row (-1))).toNat, by omega, fun h => absurd h hcp, fun _ _ => ⟨hBs, by omega⟩, by simp; omega, by omega, rfl, rfl⟩ (WK (by kernel_rfl)) (by kernel_rfl) (Nat.lt_succ_self _)
            · exact AG ⟨g + 1, c ++ [nmAt ms i.toNat], bst s row (-1), 0, by omega, fun h => absurd h hcp, fun h => absurd h hB0, by simp; omega, by omega, rfl, rfl⟩ (WK (by kernel_rfl)) (by kernel_rfl) (Nat.lt_succ_self _)
      · refine GO (kb h6 z) (by kernel_rfl) ?_
        refine OUT (tn 1 (kn hw1 (tn 1 z))) (by kernel_rfl) ?_
        exact AG ⟨v + 1, g, by omega, by omega, rfl, rfl⟩ (WK (by kernel_rfl)) (by kernel_rfl) (Nat.lt_succ_self _)
  · have hd : decide ((((v : Nat) : Int) : Int) < ((lenM aMacro ms : Nat) : Int)) = false := dF (by omega)
    rw [show (List.range ms.length).drop v = [] from List.drop_eq_nil_of_le (by simp; omega), cycR]
    refine GO (kb hd z) (by kernel_rfl) ?_
    refine OUT (tn 2 z) (by kernel_rfl) ?_
    exact EN (by kernel_rfl)
end Go.Proofs.YtcdfhagcchmnhaaGreatDoor
namespace Go.Proofs.YtcdfhagcchmnhaaGreatDoor
open Go Go.Eng
def Ix (n : Nat) (i : Int) : Prop := 0 ≤ i ∧ i < (n : Int)
def Rch (nb : Int → List Int) (to : Int) : Nat → Int → Prop
  | 0, i => i = to
  | d + 1, i => ∃ j ∈ nb i, Rch nb to d j
theorem at0_set {s : List Int} {n : Nat} (hs : s.length = n) {k i : Int} (hk : Ix n k) (hi : Ix n i) (y : Int) : at0 (s.set k.toNat y) i = if i = k then y else at0 s i := by
  obtain ⟨k0, k1⟩ := hk
  obtain ⟨i0, i1⟩ := hi
  by_cases h : i = k
  · subst h
    rw [if_pos rfl]
    have : i.toNat < s.length := by omega
    simp [at0, this]
  · rw [if_neg h]
    have : ¬ k.toNat = i.toNat := by omega
    simp only [at0, List.getD_eq_getElem?_getD]
    rw [List.getElem?_set_ne this]
structure BI (nb : Int → List Int) (to : Int) (n : Nat) (s t : List Int) : Prop where
  len : s.length = n
  rch : ∀ i, Ix n i → 0 ≤ at0 s i → Rch nb to (at0 s i).toNat i
  lo : ∀ i, Ix n i → -1 ≤ at0 s i
  to0 : at0 s to = 0
  tq : ∀ x ∈ t, Ix n x ∧ 0 ≤ at0 s x
  pr : t.Pairwise (fun a b => at0 s a ≤ at0 s b)
  cl : ∀ i, Ix n i → 0 ≤ at0 s i → i ∉ t → ∀ k, Ix n k → i ∈ nb k → 0 ≤ at0 s k ∧ at0 s k ≤ at0 s i + 1
  bd : ∀ h t', t = h :: t' → ∀ k, Ix n k → at0 s k ≤ at0 s h + 1
  bn : ∀ i, Ix n i → at0 s i + ((neg s : Nat) : Int) ≤ (n : Int)
theorem BI_in {nb : Int → List Int} {to : Int} {n : Nat} (hto : Ix n to) {i : Int} (hi : Ix n i) : ∀ (r s t P : List Int), (∀ k ∈ r, Ix n k ∧ i ∈ nb k) → BI nb to n s (i :: t) → (∀ p ∈ P, Ix n p ∧ 0 ≤ at0 s p) →
    ∃ s' t', bInn i r s (i :: t) = (s', i :: t') ∧ BI nb to n s' (i :: t') ∧ (∀ p ∈ P, Ix n p ∧ 0 ≤ at0 s' p) ∧ (∀ p ∈ r, 0 ≤ at0 s' p) ∧ (i :: t').length + neg s' = (i :: t).length + neg s
  | [], s, t, P, _, hb, hp => ⟨s, t, rfl, hb, hp, (fun p h => by cases h), rfl⟩
  | k :: r, s, t, P, hr, hb, hp => by
    obtain ⟨hk, hik⟩ := hr k (by simp)
    have hr' : ∀ k ∈ r, Ix n k ∧ i ∈ nb k := fun q hq => hr q (by simp [hq])
    obtain ⟨hiI, hi0⟩ := hb.tq i (by simp)
    rw [bInn]
    by_cases hneg : at0 s k < 0
    · have hd : decide (s.getD k.toNat 0 < 0) = true := dT hneg
      rw [hd, cond_true]
      have hset := fun (j : Int) (hj : Ix n j) => at0_set hb.len hk hj (at0 s i + 1)
      have hne : ∀ x, 0 ≤ at0 s x → x ≠ k := fun x hx e => by subst e; omega
      have hsame : ∀ x, Ix n x → 0 ≤ at0 s x → at0 (s.set k.toNat (at0 s i + 1)) x = at0 s x := fun x hx h0 => by rw [hset x hx, if_neg (hne x h0)]
      have hkk : at0 (s.set k.toNat (at0 s i + 1)) k = at0 s i + 1 := by rw [hset k hk, if_pos rfl]
      have hmono : ∀ x, Ix n x → 0 ≤ at0 s x → 0 ≤ at0 (s.set k.toNat (at0 s i + 1)) x := fun x hx h0 => by rw [hsame x hx h0]; exact h0
      have hng := neg_set s k.toNat (at0 s i + 1) (by rw [hb.len]; have := hk.2; have := hk.1; omega) hneg (by omega)
      have hb' : BI nb to n (s.set k.toNat (at0 s i + 1)) (i :: (t ++ [k])) := by
        refine ⟨by rw [List.length_set]; exact hb.len, fun j hj h0 => ?_, fun j hj => ?_, ?_, fun x hx => ?_, ?_, fun j hj h0 hjt p hp hjp => ?_, fun h t' e p hp => ?_, fun j hj => ?_⟩
        · rw [hset j hj] at h0 ⊢
          by_cases e : j = k
          · rw [if_pos e]
            have h1 := hb.rch i hi hi0
            rw [show (at0 s i + 1).toNat = (at0 s i).toNat + 1 by omega]
            exact ⟨i, by rw [e]; exact hik, h1⟩
          · rw [if_neg e] at h0 ⊢
            exact hb.rch j hj h0
        · rw [hset j hj]
          split
          · omega
          · exact hb.lo j hj
        · rw [hsame to hto (by rw [hb.to0]; omega)]; exact hb.to0
        · rw [← List.cons_append] at hx
          rcases List.mem_append.1 hx with hx | hx
          · obtain ⟨q1, q2⟩ := hb.tq x hx
            exact ⟨q1, hmono x q1 q2⟩
          · rw [List.mem_singleton] at hx; subst hx
            exact ⟨hk, by rw [hkk]; omega⟩
        · rw [← List.cons_append, List.pairwise_append]
          refine ⟨?_, List.pairwise_singleton _ _, fun x hx y hy => ?_⟩
          · refine hb.pr.imp_of_mem ?_
            intro a b ha hb2 hab
            obtain ⟨a1, a2⟩ := hb.tq a ha
            obtain ⟨b1, b2⟩ := hb.tq b hb2
            rw [hsame a a1 a2, hsame b b1 b2]; exact hab
          · rw [List.mem_singleton] at hy; subst hy
            obtain ⟨q1, q2⟩ := hb.tq x hx
            rw [hsame x q1 q2, hkk]
            exact hb.bd i t rfl x q1
        · have hjk : j ≠ k := fun e => hjt (by rw [e]; simp)
          rw [hset j hj, if_neg hjk] at h0 ⊢
          have hjt' : j ∉ i :: t := fun h => hjt (by rw [← List.cons_append]; exact List.mem_append.2 (.inl h))
          obtain ⟨q1, q2⟩ := hb.cl j hj h0 hjt' p hp hjp
          rw [hsame p hp q1]
          exact ⟨q1, q2⟩
        · simp only [List.cons.injEq] at e
          obtain ⟨e, _⟩ := e
          subst e
          rw [hset p hp, hsame i hi hi0]
          split
          · omega
          · exact hb.bd i t rfl p hp
        · rw [hset j hj]
          have q1 := hb.bn i hi
          have q2 := hb.bn j hj
          split <;> omega
      obtain ⟨s', t', e1, e2, e3, e4, e5⟩ := BI_in hto hi r (s.set k.toNat (at0 s i + 1)) (t ++ [k]) (k :: P) hr' hb' (fun p hpp => by
        rcases List.mem_cons.1 hpp with rfl | hpp
        · exact ⟨hk, by rw [hkk]; omega⟩
        · obtain ⟨q1, q2⟩ := hp p hpp
          exact ⟨q1, hmono p q1 q2⟩)
      refine ⟨s', t', e1, e2, fun p hpp => e3 p (by simp [hpp]), fun p hpp => ?_, ?_⟩
      · rcases List.mem_cons.1 hpp with rfl | hpp
        · exact (e3 p (by simp)).2
        · exact e4 p hpp
      · have := neg_set s k.toNat (at0 s i + 1) (by rw [hb.len]; have := hk.2; have := hk.1; omega) hneg (by omega)
        rw [e5]
        simp only [List.length_cons, List.length_append, List.length_nil]
        omega
    · have hd : decide (s.getD k.toNat 0 < 0) = false := dF hneg
      rw [hd, cond_false]
      have hk0 : 0 ≤ at0 s k := by
        have : ¬ at0 s k < 0 := hneg
        omega
      obtain ⟨s', t', e1, e2, e3, e4, e5⟩ := BI_in hto hi r s t (k :: P) hr' hb (fun p hpp => by
        rcases List.mem_cons.1 hpp with rfl | hpp
        · exact ⟨hk, hk0⟩
        · exact hp p hpp)
      refine ⟨s', t', e1, e2, fun p hpp => e3 p (by simp [hpp]), fun p hpp => ?_, e5⟩
      rcases List.mem_cons.1 hpp with rfl | hpp
      · exact (e3 p (by simp)).2
      · exact e4 p hpp
theorem BI_bfs {nb : Int → List Int} {to : Int} {n : Nat} (hto : Ix n to) {B : List (List Int)} (hB : ∀ i, Ix n i → ∀ k, k ∈ el B i.toNat ↔ Ix n k ∧ i ∈ nb k) : ∀ (N : Nat) (s t : List Int), BI nb to n s t → t.length + neg s < N → BI nb to n (bfs B N s t) []
  | 0, s, t, _, h => by omega
  | N + 1, s, [], hb, h => hb
  | N + 1, s, i :: t, hb, h => by
    obtain ⟨hi, hi0⟩ := hb.tq i (by simp)
    obtain ⟨s', t', e1, e2, _, e4, e5⟩ := BI_in hto hi (el B i.toNat) s t [] (fun k hk => (hB i hi k).1 hk) hb (fun p hp => by cases hp)
    rw [bfs, e1]
    show BI nb to n (bfs B N s' t') []
    obtain ⟨_, hi0'⟩ := e2.tq i (by simp)
    refine BI_bfs hto hB N s' t' ⟨e2.len, e2.rch, e2.lo, e2.to0, fun x hx => e2.tq x (by simp [hx]), (List.pairwise_cons.1 e2.pr).2, fun j hj h0 hjt k hk hjk => ?_, fun hh t2 e k hk => ?_, e2.bn⟩ (by simp only [List.length_cons] at e5 h; omega)
    · by_cases hji : j = i
      · subst hji
        exact ⟨e4 k ((hB j hj k).2 ⟨hk, hjk⟩), e2.bd j t' rfl k hk⟩
      · exact e2.cl j hj h0 (by simp [hji, hjt]) k hk hjk
    · have h1 := e2.bd i t' rfl k hk
      have h2 := (List.pairwise_cons.1 e2.pr).1 hh (by rw [e]; simp)
      omega
/-- Shortest ways. -/
structure Good (nb : Int → List Int) (to : Int) (n : Nat) (s : List Int) : Prop where
  len : s.length = n
  rch : ∀ i, Ix n i → 0 ≤ at0 s i → Rch nb to (at0 s i).toNat i
  lo : ∀ i, Ix n i → -1 ≤ at0 s i
  mn : ∀ d i, Ix n i → Rch nb to d i → 0 ≤ at0 s i ∧ at0 s i ≤ (d : Int)
theorem Good_of_BI {nb : Int → List Int} {to : Int} {n : Nat} (hnb : ∀ i, ∀ j ∈ nb i, Ix n j) {s : List Int} (h : BI nb to n s []) : Good nb to n s := by
  refine ⟨h.len, h.rch, h.lo, fun d => ?_⟩
  induction d with
  | zero =>
    intro i hi hr
    have hr : i = to := hr
    subst hr
    rw [h.to0]; exact ⟨by omega, by omega⟩
  | succ d ih =>
    intro i hi hr
    obtain ⟨j, hj, hr⟩ := hr
    obtain ⟨q1, q2⟩ := ih j (hnb i j hj) hr
    obtain ⟨q3, q4⟩ := h.cl j (hnb i j hj) q1 (by simp) i hi hj
    exact ⟨q3, by omega⟩
theorem Good_eq {nb : Int → List Int} {to : Int} {n : Nat} {s s' : List Int} (h : Good nb to n s) (h' : Good nb to n s') : s = s' := by
  have key : ∀ i, Ix n i → at0 s i = at0 s' i := fun i hi => by
    have a := h.lo i hi
    have b := h'.lo i hi
    by_cases q : 0 ≤ at0 s i
    · obtain ⟨q1, q2⟩ := h'.mn _ i hi (h.rch i hi q)
      obtain ⟨q3, q4⟩ := h.mn _ i hi (h'.rch i hi q1)
      omega
    · by_cases q' : 0 ≤ at0 s' i
      · obtain ⟨q1, q2⟩ := h.mn _ i hi (h'.rch i hi q')
        omega
      · omega
  apply List.ext_getElem
  · rw [h.len, h'.len]
  · intro i h1 h2
    have := key (i : Int) ⟨by omega, by rw [h.len] at h1; omega⟩
    simpa [at0, h1, h2] using this
theorem Good_stp {nb : Int → List Int} {to : Int} {n : Nat} (hnb : ∀ i, ∀ j ∈ nb i, Ix n j) {row : Nat → List Int} {s : List Int} (h : Good nb to n s) (hrow : ∀ i, Ix n i → ∀ j ∈ nb i, j ∈ row i.toNat) (hbd : ∀ i, Ix n i → at0 s i ≤ (n : Int)) : StpOk row n to s := by
  refine ⟨h.len, fun x hx => ?_, fun i h0 h1 hne hs => ?_⟩
  · obtain ⟨i, hi, rfl⟩ := List.getElem_of_mem hx
    have hI : Ix n (i : Int) := ⟨by omega, by rw [h.len] at hi; omega⟩
    have e : at0 s (i : Int) = s[i] := by simp [at0, hi]
    rw [← e]
    exact ⟨h.lo _ hI, hbd _ hI⟩
  · have hr := h.rch i ⟨h0, h1⟩ hs
    cases hd : (at0 s i).toNat with
    | zero => rw [hd] at hr; exact absurd hr hne
    | succ d =>
      rw [hd] at hr
      obtain ⟨j, hj, hr⟩ := hr
      obtain ⟨q1, q2⟩ := h.mn d j (hnb i j hj) hr
      exact ⟨j, hrow i ⟨h0, h1⟩ j hj, q1, by omega⟩
end Go.Proofs.YtcdfhagcchmnhaaGreatDoor
namespace Go.Proofs.YtcdfhagcchmnhaaGreatDoor
open Go Go.Eng
theorem upQ_mem (Q : Nat → List Int) (j : Nat) (x y : Int) (i : Nat) : y ∈ upQ Q j x i ↔ y ∈ Q i ∨ (y = x ∧ j = i) := by
  unfold upQ
  by_cases h : i = j
  · subst h; simp
  · rw [if_neg h]
    constructor
    · exact .inl
    · rintro (q | ⟨_, q⟩)
      · exact q
      · exact absurd q.symm h
theorem bkRow_mem (i : Int) : ∀ (r : List Int) (Q : Nat → List Int) (x : Int) (j : Nat), x ∈ bkRow i r Q j ↔ x ∈ Q j ∨ (x = i ∧ ∃ y ∈ r, y.toNat = j)
  | [], Q, x, j => by simp [bkRow]
  | y :: r, Q, x, j => by
    rw [bkRow, bkRow_mem i r, upQ_mem]
    constructor
    · rintro ((h | ⟨h1, h2⟩) | ⟨h1, z, h2, h3⟩)
      · exact .inl h
      · exact .inr ⟨h1, y, by simp, h2⟩
      · exact .inr ⟨h1, z, by simp [h2], h3⟩
    · rintro (h | ⟨h1, z, h2, h3⟩)
      · exact .inl (.inl h)
      · rcases List.mem_cons.1 h2 with rfl | h2
        · exact .inl (.inr ⟨h1, h3⟩)
        · exact .inr ⟨h1, z, h2, h3⟩
theorem bkAll_mem : ∀ (rs : List (List Int)) (v : Nat) (Q : Nat → List Int) (x : Int) (j : Nat), x ∈ bkAll v rs Q j ↔ x ∈ Q j ∨ ∃ k, k < rs.length ∧ x = ((v + k : Nat) : Int) ∧ ∃ y ∈ el rs k, y.toNat = j
  | [], v, Q, x, j => by simp [bkAll]
  | r :: rs, v, Q, x, j => by
    rw [bkAll, bkAll_mem rs (v + 1), bkRow_mem]
    constructor
    · rintro ((h | ⟨h1, h2⟩) | ⟨k, h1, h2, h3⟩)
      · exact .inl h
      · exact .inr ⟨0, by simp, by simpa using h1, h2⟩
      · exact .inr ⟨k + 1, by simpa using h1, by rw [h2]; congr 1; omega, h3⟩
    · rintro (h | ⟨k, h1, h2, h3⟩)
      · exact .inl (.inl h)
      · cases k with
        | zero => exact .inl (.inr ⟨by simpa using h2, h3⟩)
        | succ k => exact .inr ⟨k, by simpa using h1, by rw [h2]; congr 1; omega, h3⟩
def nbr (next : List (List Int)) (i : Int) : List Int := el next i.toNat
theorem nbr_ix {next : List (List Int)} (hok : OkN next) : ∀ i, ∀ j ∈ nbr next i, Ix next.length j := fun i j hj => by
  unfold nbr at hj
  by_cases h : i.toNat < next.length
  · exact (hok.1 _ (el_mem h)).2 j hj
  · have : el next i.toNat = [] := by
      unfold el
      rw [List.getElem?_eq_none (by omega)]; rfl
    rw [this] at hj; cases hj
theorem dist_B {next : List (List Int)} (hok : OkN next) : ∀ i, Ix next.length i → ∀ k, k ∈ el ((List.range next.length).map (bkAll 0 next (fun _ => []))) i.toNat ↔ Ix next.length k ∧ i ∈ nbr next k := fun i hi k => by
  obtain ⟨i0, i1⟩ := hi
  have hlt : i.toNat < next.length := by omega
  have e : el ((List.range next.length).map (bkAll 0 next (fun _ => []))) i.toNat = bkAll 0 next (fun _ => []) i.toNat := by simp [el, hlt]
  rw [e, bkAll_mem]
  constructor
  · rintro (h | ⟨m, h1, h2, y, h3, h4⟩)
    · cases h
    · have hy := (hok.1 _ (el_mem h1)).2 y h3
      have : y = i := by omega
      subst this
      refine ⟨⟨by omega, by omega⟩, ?_⟩
      unfold nbr
      rw [h2]
      simpa using h3
  · rintro ⟨⟨k0, k1⟩, h⟩
    exact .inr ⟨k.toNat, by omega, by omega, i, h, rfl⟩
theorem at0_init {n : Nat} {to i : Int} (hto : Ix n to) (hi : Ix n i) : at0 ((List.replicate n (-1)).set to.toNat 0) i = if i = to then 0 else -1 := by
  rw [at0_set (by simp) hto hi]
  split
  · rfl
  · obtain ⟨i0, i1⟩ := hi
    have : i.toNat < n := by omega
    simp [at0, this]
theorem neg_init {n : Nat} {to : Int} (hto : Ix n to) : neg ((List.replicate n (-1)).set to.toNat 0) + 1 = n := by
  obtain ⟨i0, i1⟩ := hto
  have hlt : to.toNat < n := by omega
  have := neg_set (List.replicate n (-1)) to.toNat 0 (by simpa using hlt) (by simp [hlt]) (by omega)
  rw [neg_rep] at this
  exact this
theorem dist_BI {next : List (List Int)} (hok : OkN next) {to : Int} (hto : Ix next.length to) : BI (nbr next) to next.length (distM next to) [] := by
  have hng := neg_init hto
  refine BI_bfs hto (dist_B hok) _ _ _ ⟨by simp, fun i hi h0 => ?_, fun i hi => ?_, ?_, fun x hx => ?_, List.pairwise_singleton _ _, fun i hi h0 hit k hk hik => ?_, fun h t' e k hk => ?_, fun i hi => ?_⟩ (by simp only [List.length_singleton]; omega)
  · rw [at0_init hto hi] at h0 ⊢
    by_cases e : i = to
    · rw [if_pos e]; exact e
    · rw [if_neg e] at h0; omega
  · rw [at0_init hto hi]; split <;> omega
  · rw [at0_init hto hto, if_pos rfl]
  · rw [List.mem_singleton] at hx; subst hx
    exact ⟨hto, by rw [at0_init hto hto, if_pos rfl]; omega⟩
  · rw [at0_init hto hi] at h0
    by_cases e : i = to
    · exact absurd (by rw [e]; simp) hit
    · rw [if_neg e] at h0; omega
  · simp only [List.cons.injEq] at e
    obtain ⟨rfl, _⟩ := e
    rw [at0_init hto hk, at0_init hto hto, if_pos rfl]
    split <;> omega
  · rw [at0_init hto hi]; split <;> omega
theorem dist_good {next : List (List Int)} (hok : OkN next) {to : Int} (hto : Ix next.length to) : Good (nbr next) to next.length (distM next to) := Good_of_BI (nbr_ix hok) (dist_BI hok hto)
theorem sInn_spec {n : Nat} {R : Int} (hR : 1 ≤ R) {v : Int} (hv : Ix n v) (c : Bool) : ∀ (ks s : List Int), s.length = n → (∀ k ∈ ks, Ix n k) →
    (sInn R v c ks s = s ∨ (sInn R v c ks s = s.set v.toNat R ∧ c = true ∧ at0 s v < 0 ∧ ∃ k ∈ ks, at0 s k = R - 1)) ∧ (c = true → (∃ k ∈ ks, at0 s k = R - 1) → 0 ≤ at0 (sInn R v c ks s) v)
  | [], s, _, _ => ⟨.inl rfl, fun _ h => by obtain ⟨k, h, _⟩ := h; cases h⟩
  | k :: ks, s, hs, hks => by
    have hk := hks k (by simp)
    have hks' : ∀ k ∈ ks, Ix n k := fun q hq => hks q (by simp [hq])
    rw [sInn]
    cases hc : sCond R v c k s with
    | false =>
      rw [cond_false]
      obtain ⟨h1, h2⟩ := sInn_spec hR hv c ks s hs hks'
      refine ⟨?_, fun hct hex => ?_⟩
      · rcases h1 with h1 | ⟨a1, a2, a3, q, a4, a5⟩
        · exact .inl h1
        · exact .inr ⟨a1, a2, a3, q, by simp [a4], a5⟩
      · obtain ⟨q, hq, hqe⟩ := hex
        rcases List.mem_cons.1 hq with rfl | hq
        · unfold sCond at hc
          rw [hct, cond_true] at hc
          have hke : (s.getD q.toNat 0 == R - 1) = true := by rw [beq_iff_eq]; exact hqe
          rw [hke] at hc
          have hnn : ¬ s.getD v.toNat 0 < 0 := fun h => by rw [dT h] at hc; cases hc
          rcases h1 with h1 | ⟨a1, a2, a3, _⟩
          · rw [h1]
            have : ¬ at0 s v < 0 := hnn
            omega
          · exact absurd a3 hnn
        · exact h2 hct ⟨q, hq, hqe⟩
    | true =>
      rw [cond_true]
      unfold sCond at hc
      obtain ⟨c1, c2⟩ := cond_ff hc
      obtain ⟨c3, c4⟩ := cond_ff c1
      have c4 : at0 s v < 0 := of_decide_eq_true c4
      have c2 : at0 s k = R - 1 := eq_of_beq c2
      have hset : at0 (s.set v.toNat R) v = R := by rw [at0_set hs hv hv, if_pos rfl]
      obtain ⟨h1, h2⟩ := sInn_spec hR hv c ks (s.set v.toNat R) (by rw [List.length_set]; exact hs) hks'
      rcases h1 with h1 | ⟨_, _, a3, _⟩
      · rw [h1]
        exact ⟨.inr ⟨rfl, c3, c4, k, by simp, c2⟩, fun _ _ => by rw [hset]; omega⟩
      · rw [hset] at a3; omega
structure Mid (nb : Int → List Int) (to : Int) (n r v : Nat) (s : List Int) : Prop where
  len : s.length = n
  a : ∀ i, Ix n i → at0 s i = -1 ∨ (0 ≤ at0 s i ∧ at0 s i ≤ (r : Int) + 1 ∧ Rch nb to (at0 s i).toNat i)
  b : ∀ i, Ix n i → ∀ d, d ≤ r → Rch nb to d i → 0 ≤ at0 s i ∧ at0 s i ≤ (d : Int)
  c : ∀ i, Ix n i → i < (v : Int) → Rch nb to (r + 1) i → 0 ≤ at0 s i ∧ at0 s i ≤ (r : Int) + 1
theorem Mid_step {nb : Int → List Int} {to : Int} {n r v : Nat} (hnb : ∀ i, ∀ j ∈ nb i, Ix n j) (hv : v < n) {c : Bool} {ks : List Int} (hks : ∀ k ∈ ks, Ix n k) (h1 : c = true → nb (v : Int) = ks) (h2 : c = false → nb (v : Int) = []) {s : List Int} (h : Mid nb to n r v s) : Mid nb to n r (v + 1) (sInn ((r + 1 : Nat) : Int) (v : Int) c ks s) := by
  have hvI : Ix n (v : Int) := ⟨by omega, by omega⟩
  obtain ⟨q1, q2⟩ := sInn_spec (R := ((r + 1 : Nat) : Int)) (by omega) hvI c ks s h.len hks
  have key : ∀ s', (s' = s ∨ (s' = s.set (v : Int).toNat ((r + 1 : Nat) : Int) ∧ c = true ∧ at0 s (v : Int) < 0 ∧ ∃ k ∈ ks, at0 s k = ((r + 1 : Nat) : Int) - 1)) → (c = true → (∃ k ∈ ks, at0 s k = ((r + 1 : Nat) : Int) - 1) → 0 ≤ at0 s' (v : Int)) → Mid nb to n r (v + 1) s' := by
    intro s' q1 q2
    have hlast : Rch nb to (r + 1) (v : Int) → 0 ≤ at0 s (v : Int) ∧ at0 s (v : Int) ≤ (r : Int) + 1 ∨ (c = true ∧ ∃ k ∈ ks, at0 s k = ((r + 1 : Nat) : Int) - 1) := fun hr => by
      obtain ⟨j, hj, hr⟩ := hr
      have hct : c = true := by
        cases c with
        | true => rfl
        | false => rw [h2 rfl] at hj; cases hj
      have hjI := hnb _ j hj
      obtain ⟨e1, e2⟩ := h.b j hjI r (Nat.le_refl _) hr
      by_cases e3 : at0 s j = (r : Int)
      · exact .inr ⟨hct, j, by rw [← h1 hct]; exact hj, by omega⟩
      · rcases h.a j hjI with e4 | ⟨_, _, e5⟩
        · omega
        · obtain ⟨e6, e7⟩ := h.b (v : Int) hvI ((at0 s j).toNat + 1) (by omega) ⟨j, hj, e5⟩
          exact .inl ⟨e6, by omega⟩
    rcases q1 with rfl | ⟨rfl, c1, c2, k, c3, c4⟩
    · refine ⟨h.len, h.a, h.b, fun i hi hlt hr => ?_⟩
      by_cases e : i = (v : Int)
      · subst e
        rcases hlast hr with g | ⟨g1, g2⟩
        · exact g
        · have := q2 g1 g2
          rcases h.a _ hvI with e4 | ⟨e4, e5, _⟩
          · omega
          · exact ⟨e4, e5⟩
      · exact h.c i hi (by omega) hr
    · have hset := fun (i : Int) (hi : Ix n i) => at0_set h.len hvI hi ((r + 1 : Nat) : Int)
      have hkI := hks k c3
      have hrv : Rch nb to (r + 1) (v : Int) := by
        rcases h.a k hkI with e4 | ⟨e4, e5, e6⟩
        · omega
        · rw [show (at0 s k).toNat = r by omega] at e6
          exact ⟨k, by rw [h1 c1]; exact c3, e6⟩
      refine ⟨by rw [List.length_set]; exact h.len, fun i hi => ?_, fun i hi d hd hr => ?_, fun i hi hlt hr => ?_⟩
      · rw [hset i hi]
        by_cases e : i = (v : Int)
        · rw [if_pos e]
          exact .inr ⟨by omega, by omega, by rw [show (((r + 1 : Nat) : Int)).toNat = r + 1 by omega, e]; exact hrv⟩
        · rw [if_neg e]; exact h.a i hi
      · rw [hset i hi]
        by_cases e : i = (v : Int)
        · subst e
          have := h.b _ hvI d hd hr
          omega
        · rw [if_neg e]; exact h.b i hi d hd hr
      · rw [hset i hi]
        by_cases e : i = (v : Int)
        · rw [if_pos e]; exact ⟨by omega, by omega⟩
        · rw [if_neg e]; exact h.c i hi (by omega) hr
  exact key _ q1 q2
end Go.Proofs.YtcdfhagcchmnhaaGreatDoor
namespace Go.Proofs.YtcdfhagcchmnhaaGreatDoor
open Go Go.Eng
theorem nm_some (ms : List DMacro) {v : Nat} (h : v < ms.length) : (ix (names ms) (el ms v).fName).isSome = true := by
  unfold ix
  rw [List.findIdx?_isSome, List.any_eq_true]
  exact ⟨(el ms v).fName, by rw [names]; exact List.mem_map.2 ⟨el ms v, el_mem h, rfl⟩, by simp [eqs]⟩
theorem isF_nx (ms : List DMacro) {v : Nat} (h : v < ms.length) : nbr (nxt ms) (v : Int) = if isF ms v = true then rowR ms v else [] := by
  have e : el (nxt ms) v = nx ms v := by simp [el, nxt, h]
  have h2 := fndI_ix (nm_some ms h)
  unfold nbr
  rw [Int.toNat_natCast, e, nx, isF, h2]
  simp only [beq_iff_eq]
  rfl
theorem nb_v (ms : List DMacro) {i : Int} (h : Ix ms.length i) : nbr (nxt ms) i = if isF ms i.toNat = true then rowR ms i.toNat else [] := by
  obtain ⟨h0, h1⟩ := h
  have := isF_nx ms (v := i.toNat) (by omega)
  rwa [show ((i.toNat : Nat) : Int) = i by omega] at this
theorem rowR_ix (ms : List DMacro) (v : Nat) : ∀ k ∈ rowR ms v, Ix ms.length k := fun k hk => nrw_mem ms _ k hk
theorem nb_ix {ms : List DMacro} (hok : MOk ms) : ∀ i, ∀ j ∈ nbr (nxt ms) i, Ix ms.length j := by
  have := nbr_ix (nxt_ok hok)
  rwa [nxt_len] at this
theorem sRow_mid {ms : List DMacro} (hok : MOk ms) {to : Int} {r : Nat} : ∀ (k v : Nat) (s : List Int), v + k = ms.length → Mid (nbr (nxt ms)) to ms.length r v s → Mid (nbr (nxt ms)) to ms.length r ms.length (sRow ms ((r + 1 : Nat) : Int) ((List.range ms.length).drop v) s)
  | 0, v, s, hv, h => by
    rw [show (List.range ms.length).drop v = [] from List.drop_eq_nil_of_le (by simp; omega), sRow]
    rw [show v = ms.length by omega] at h
    exact h
  | k + 1, v, s, hv, h => by
    have hlt : v < ms.length := by omega
    have hn := isF_nx ms hlt
    rw [range_drop hlt, sRow]
    refine sRow_mid hok k (v + 1) _ (by omega) ?_
    refine Mid_step (nb_ix hok) hlt (rowR_ix ms v) (fun hc => ?_) (fun hc => ?_) h
    · rw [hn, if_pos hc]
    · rw [hn, if_neg (by rw [hc]; decide)]
structure Inv (nb : Int → List Int) (to : Int) (n r : Nat) (s : List Int) : Prop where
  len : s.length = n
  a : ∀ i, Ix n i → at0 s i = -1 ∨ (0 ≤ at0 s i ∧ at0 s i ≤ (r : Int) ∧ Rch nb to (at0 s i).toNat i)
  b : ∀ i, Ix n i → ∀ d, d ≤ r → Rch nb to d i → 0 ≤ at0 s i ∧ at0 s i ≤ (d : Int)
theorem Mid_of_Inv {nb : Int → List Int} {to : Int} {n r : Nat} {s : List Int} (h : Inv nb to n r s) : Mid nb to n r 0 s := by
  refine ⟨h.len, fun i hi => ?_, h.b, fun i hi hlt => ?_⟩
  · rcases h.a i hi with q | ⟨q1, q2, q3⟩
    · exact .inl q
    · exact .inr ⟨q1, by omega, q3⟩
  · have := hi.1; omega
theorem Inv_of_Mid {nb : Int → List Int} {to : Int} {n r : Nat} {s : List Int} (h : Mid nb to n r n s) : Inv nb to n (r + 1) s := by
  refine ⟨h.len, fun i hi => ?_, fun i hi d hd hr => ?_⟩
  · rcases h.a i hi with q | ⟨q1, q2, q3⟩
    · exact .inl q
    · exact .inr ⟨q1, by omega, q3⟩
  · by_cases e : d = r + 1
    · subst e
      obtain ⟨q1, q2⟩ := h.c i hi hi.2 hr
      exact ⟨q1, by omega⟩
    · exact h.b i hi d (by omega) hr
theorem sRnd_inv {ms : List DMacro} (hok : MOk ms) {to : Int} : ∀ (k r : Nat) (s : List Int), r + k = ms.length → Inv (nbr (nxt ms)) to ms.length r s → Inv (nbr (nxt ms)) to ms.length ms.length (sRnd ms ((List.range' 1 ms.length).drop r) s)
  | 0, r, s, hr, h => by
    rw [show (List.range' 1 ms.length).drop r = [] from List.drop_eq_nil_of_le (by simp; omega), sRnd]
    rw [show r = ms.length by omega] at h
    exact h
  | k + 1, r, s, hr, h => by
    have hlt : r < ms.length := by omega
    rw [range1_drop hlt, sRnd]
    refine sRnd_inv hok k (r + 1) _ (by omega) ?_
    have := sRow_mid hok (r := r) ms.length 0 s (by omega) (Mid_of_Inv h)
    rw [List.drop_zero] at this
    exact Inv_of_Mid this
theorem dist_ix {ms : List DMacro} (hok : MOk ms) {to : Int} (hto : Ix ms.length to) : Good (nbr (nxt ms)) to ms.length (distM (nxt ms) to) ∧ ∀ i, Ix ms.length i → at0 (distM (nxt ms) to) i ≤ (ms.length : Int) := by
  have h1 := dist_good (nxt_ok hok) (to := to) (by rw [nxt_len]; exact hto)
  have h2 := (dist_BI (nxt_ok hok) (to := to) (by rw [nxt_len]; exact hto)).bn
  rw [nxt_len] at h1 h2
  exact ⟨h1, fun i hi => by have := h2 i hi; omega⟩
theorem stp_good {ms : List DMacro} (hok : MOk ms) {to : Int} (hto : Ix ms.length to) : Good (nbr (nxt ms)) to ms.length (stpM ms to) := by
  have h0 : Inv (nbr (nxt ms)) to ms.length 0 ((List.replicate ms.length (-1)).set to.toNat 0) := by
    refine ⟨by simp, fun i hi => ?_, fun i hi d hd hr => ?_⟩
    · rw [at0_init hto hi]
      by_cases e : i = to
      · rw [if_pos e]; exact .inr ⟨by omega, by omega, e⟩
      · rw [if_neg e]; exact .inl rfl
    · obtain rfl : d = 0 := by omega
      have e : i = to := hr
      rw [at0_init hto hi, if_pos e]
      exact ⟨by omega, by omega⟩
  have h := sRnd_inv hok ms.length 0 _ (by omega) h0
  rw [List.drop_zero] at h
  have h : Inv (nbr (nxt ms)) to ms.length ms.length (stpM ms to) := h
  obtain ⟨g, gb⟩ := dist_ix hok hto
  refine ⟨h.len, fun i hi hs => ?_, fun i hi => ?_, fun d i hi hr => ?_⟩
  · rcases h.a i hi with q | ⟨_, _, q⟩
    · omega
    · exact q
  · rcases h.a i hi with q | ⟨q, _⟩ <;> omega
  · obtain ⟨q1, q2⟩ := g.mn d i hi hr
    have q3 := gb i hi
    obtain ⟨q4, q5⟩ := h.b i hi (at0 (distM (nxt ms) to) i).toNat (by omega) (g.rch i hi q1)
    exact ⟨q4, by omega⟩
theorem stp_eq {ms : List DMacro} (hok : MOk ms) {to : Int} (hto : Ix ms.length to) : stpM ms to = distM (nxt ms) to := Good_eq (stp_good hok hto) (dist_ix hok hto).1
theorem dist_ok {ms : List DMacro} (hok : MOk ms) {to : Int} (hto : Ix ms.length to) : StpOk (el (nxt ms)) ms.length to (distM (nxt ms) to) :=
  Good_stp (nb_ix hok) (dist_ix hok hto).1 (fun _ _ _ h => h) (dist_ix hok hto).2
theorem stp_ok {ms : List DMacro} (hok : MOk ms) {to : Int} (hto : Ix ms.length to) : StpOk (rowR ms) ms.length to (stpM ms to) := by
  rw [stp_eq hok hto]
  refine Good_stp (nb_ix hok) (dist_ix hok hto).1 (fun i hi j hj => ?_) (dist_ix hok hto).2
  rw [nb_v ms hi] at hj
  split at hj
  · exact hj
  · cases hj
end Go.Proofs.YtcdfhagcchmnhaaGreatDoor
namespace Go.Proofs.YtcdfhagcchmnhaaGreatDoor
open Go Go.Eng
def Tw (nb : Int → List Int) (start x : Int) : Prop := (∃ d, Rch nb start (d + 1) x) → ∃ d, Rch nb start (d + 1) start
theorem innK_true {nb : Int → List Int} {start i : Int} (hi : Tw nb start i) {k : List Bool → List Int → Bool} (hk : ∀ s t, (∀ x ∈ t, Tw nb start x) → k s t = true → ∃ d, Rch nb start (d + 1) start) : ∀ (r : List Int) (s : List Bool) (t : List Int), (∀ j ∈ r, j ∈ nb i) → (∀ x ∈ t, Tw nb start x) → innK k start r s t = true → ∃ d, Rch nb start (d + 1) start
  | [], s, t, _, ht, h => hk s t ht h
  | j :: r, s, t, hr, ht, h => by
    have hj := hr j (by simp)
    have hr' : ∀ q ∈ r, q ∈ nb i := fun q hq => hr q (by simp [hq])
    rw [innK] at h
    rcases Bool.eq_false_or_eq_true (j == start) with hb | hb
    · have e : j = start := by simpa using hb
      exact hi ⟨0, j, hj, e⟩
    · rw [hb, cond_false] at h
      cases hs : (!s.getD j.toNat false) with
      | true =>
        rw [hs, cond_true] at h
        refine innK_true hi hk r _ _ hr' (fun x hx => ?_) h
        rcases List.mem_append.1 hx with hx | hx
        · exact ht x hx
        · rw [List.mem_singleton] at hx; subst hx
          rintro ⟨d, hd⟩
          exact hi ⟨d + 1, x, hj, hd⟩
      | false =>
        rw [hs, cond_false] at h
        exact innK_true hi hk r s t hr' ht h
theorem ret_true {next : List (List Int)} {start : Int} : ∀ (N : Nat) (s : List Bool) (t : List Int), (∀ x ∈ t, Tw (nbr next) start x) → ret next start N s t = true → ∃ d, Rch (nbr next) start (d + 1) start
  | 0, s, t, _, h => by cases h
  | N + 1, s, t, ht, h => by
    rcases List.eq_nil_or_concat t with rfl | ⟨l, i, rfl⟩
    · cases h
    · rw [List.concat_eq_append] at ht h
      rw [ret_snoc] at h
      exact innK_true (nb := nbr next) (i := i) (ht i (by simp)) (fun s t => ret_true N s t) _ s l (fun j hj => hj) (fun x hx => ht x (by simp [hx])) h
def Sn (s : List Bool) (j : Int) : Prop := s.getD j.toNat false = true
theorem Sn_set {s : List Bool} {k : Int} (hk : k.toNat < s.length) (j : Int) : Sn (s.set k.toNat true) j ↔ j.toNat = k.toNat ∨ Sn s j := by
  unfold Sn
  by_cases h : k.toNat = j.toNat
  · have hj : j.toNat < s.length := by omega
    simp [h, hj]
  · simp only [List.getD_eq_getElem?_getD]
    rw [List.getElem?_set_ne h]
    constructor
    · exact .inr
    · rintro (q | q)
      · exact absurd q.symm h
      · exact q
theorem innK_false {n : Nat} {start : Int} {k : List Bool → List Int → Bool} : ∀ (r : List Int) (s : List Bool) (t : List Int), (∀ j ∈ r, Ix n j) → s.length = n → innK k start r s t = false →
    ∃ s' t', k s' t' = false ∧ s'.length = n ∧ (∀ j, Sn s j → Sn s' j) ∧ (∀ j ∈ r, j ≠ start ∧ Sn s' j) ∧ (∀ x ∈ t, x ∈ t') ∧ (∀ x ∈ t', x ∈ t ∨ (Ix n x ∧ Sn s' x)) ∧ (∀ j, Ix n j → Sn s' j → Sn s j ∨ j ∈ t') ∧ t'.length + s'.count false = t.length + s.count false
  | [], s, t, _, hs, h => ⟨s, t, h, hs, fun _ q => q, (fun j hj => by cases hj), fun _ q => q, fun _ q => .inl q, fun _ _ q => .inl q, rfl⟩
  | j :: r, s, t, hr, hs, h => by
    obtain ⟨j0, j1⟩ := hr j (by simp)
    have hr' : ∀ q ∈ r, Ix n q := fun q hq => hr q (by simp [hq])
    rw [innK] at h
    rcases Bool.eq_false_or_eq_true (j == start) with hb | hb
    · rw [hb, cond_true] at h; cases h
    · have hne : j ≠ start := by simpa using hb
      rw [hb, cond_false] at h
      cases hc : (s.getD j.toNat false) with
      | false =>
        rw [hc] at h
        have hlt : j.toNat < s.length := by omega
        have hcn := cnt_set s j.toNat hlt hc
        obtain ⟨s', t', e1, e2, e3, e4, e5, e6, e7, e8⟩ := innK_false r (s.set j.toNat true) (t ++ [j]) hr' (by rw [List.length_set]; exact hs) h
        have hsj : Sn s' j := e3 j ((Sn_set hlt j).2 (.inl rfl))
        refine ⟨s', t', e1, e2, fun q hq => e3 q ((Sn_set hlt q).2 (.inr hq)), fun q hq => ?_, fun x hx => e5 x (by simp [hx]), fun x hx => ?_, fun q hq hs2 => ?_, ?_⟩
        · rcases List.mem_cons.1 hq with rfl | hq
          · exact ⟨hne, hsj⟩
          · exact e4 q hq
        · rcases e6 x hx with q | q
          · rcases List.mem_append.1 q with q | q
            · exact .inl q
            · rw [List.mem_singleton] at q; subst q
              exact .inr ⟨⟨j0, j1⟩, hsj⟩
          · exact .inr q
        · rcases e7 q hq hs2 with g | g
          · rcases (Sn_set hlt q).1 g with g | g
            · have : q = j := by have := hq.1; omega
              subst this
              exact .inr (e5 q (by simp))
            · exact .inl g
          · exact .inr g
        · rw [e8]
          simp only [List.length_append, List.length_cons, List.length_nil]
          omega
      | true =>
        rw [hc] at h
        obtain ⟨s', t', e1, e2, e3, e4, e5, e6, e7, e8⟩ := innK_false r s t hr' hs h
        refine ⟨s', t', e1, e2, e3, fun q hq => ?_, e5, e6, e7, e8⟩
        rcases List.mem_cons.1 hq with rfl | hq
        · exact ⟨hne, e3 q hc⟩
        · exact e4 q hq
theorem ret_false {next : List (List Int)} (hok : OkN next) {start : Int} : ∀ (N : Nat) (s : List Bool) (t : List Int), s.length = next.length → t.length + s.count false < N → (∀ x ∈ t, Ix next.length x ∧ (Sn s x ∨ x = start)) →
    (∀ i, Ix next.length i → (Sn s i ∨ i = start) → i ∈ t ∨ ∀ j ∈ nbr next i, j ≠ start ∧ Sn s j) → ret next start N s t = false → ∃ s', ∀ i, Ix next.length i → (Sn s' i ∨ i = start) → ∀ j ∈ nbr next i, j ≠ start ∧ Sn s' j
  | 0, s, t, _, h, _, _, _ => by omega
  | N + 1, s, t, hs, hN, ht, hc, h => by
    rcases List.eq_nil_or_concat t with rfl | ⟨l, i, rfl⟩
    · refine ⟨s, fun i hi hs => ?_⟩
      rcases hc i hi hs with q | q
      · cases q
      · exact q
    · rw [List.concat_eq_append] at ht h hN hc
      rw [ret_snoc] at h
      obtain ⟨hi, hi2⟩ := ht i (by simp)
      obtain ⟨s', t', e1, e2, e3, e4, e5, e6, e7, e8⟩ := innK_false (n := next.length) (el next i.toNat) s l (fun j hj => nbr_ix hok i j hj) hs h
      refine ret_false hok N s' t' e2 (by simp only [List.length_append, List.length_cons, List.length_nil] at hN; omega) (fun x hx => ?_) (fun q hq hqs => ?_) e1
      · rcases e6 x hx with g | ⟨g1, g2⟩
        · obtain ⟨q1, q2⟩ := ht x (by simp [g])
          refine ⟨q1, ?_⟩
          rcases q2 with q2 | q2
          · exact .inl (e3 x q2)
          · exact .inr q2
        · exact ⟨g1, .inl g2⟩
      · have old : (Sn s q ∨ q = start) → q ∈ t' ∨ ∀ j ∈ nbr next q, j ≠ start ∧ Sn s' j := fun ho => by
          rcases hc q hq ho with g | g
          · rcases List.mem_append.1 g with g | g
            · exact .inl (e5 q g)
            · rw [List.mem_singleton] at g; subst g
              exact .inr e4
          · exact .inr fun j hj => ⟨(g j hj).1, e3 j (g j hj).2⟩
        rcases hqs with g | g
        · rcases e7 q hq g with g | g
          · exact old (.inl g)
          · exact .inl g
        · exact old (.inr g)
theorem ret_iff {next : List (List Int)} (hok : OkN next) {start : Int} (hst : Ix next.length start) : retM next start = true ↔ ∃ d, Rch (nbr next) start (d + 1) start := by
  constructor
  · intro h
    refine ret_true _ _ _ (fun x hx => ?_) h
    rw [List.mem_singleton] at hx; subst hx
    exact id
  · rintro ⟨d, hd⟩
    rcases Bool.eq_false_or_eq_true (retM next start) with h | h
    · exact h
    · exfalso
      have hns : ∀ i, ¬ Sn (List.replicate next.length false) i := fun i hi => by
        unfold Sn at hi
        rw [List.getD_eq_getElem?_getD, List.getElem?_replicate] at hi
        split at hi <;> cases hi
      obtain ⟨s', hs'⟩ := ret_false hok (start := start) _ _ _ (by simp) (by simp only [List.length_singleton, List.count_replicate_self]; omega) (fun x hx => by
        rw [List.mem_singleton] at hx; subst hx
        exact ⟨hst, .inr rfl⟩) (fun i hi hs => by
        rcases hs with q | q
        · exact absurd q (hns i)
        · exact .inl (by rw [q]; simp)) h
      have key : ∀ (d : Nat) (i : Int), Ix next.length i → (Sn s' i ∨ i = start) → ¬ Rch (nbr next) start (d + 1) i := by
        intro d
        induction d with
        | zero =>
          rintro i hi hs ⟨j, hj, hr⟩
          exact (hs' i hi hs j hj).1 hr
        | succ d ih =>
          rintro i hi hs ⟨j, hj, hr⟩
          exact ih j (nbr_ix hok i j hj) (.inl (hs' i hi hs j hj).2) hr
      exact key d start hst (.inr rfl) hd
end Go.Proofs.YtcdfhagcchmnhaaGreatDoor
namespace Go.Proofs.YtcdfhagcchmnhaaGreatDoor
open Go Go.Eng
def paraB (l : List DInline) : DBlock := DBlock.mk 1 0 (⟨#[]⟩) (⟨#[]⟩) (⟨#[]⟩) (⟨#[]⟩) (DAttr.mk (⟨#[]⟩) ([]) ([])) l ([])
set_option maxRecDepth 100000 in
set_option maxHeartbeats 4000000 in
theorem paraB_to (l : List DInline) (hl : l.length ≤ 1073741824) : CallTo Tryz.prog 13 [(jL (l.map aInline))] [] [] (.av (cBlock (paraB l))) [] [] := by
  refine BEG (fun r : DBlock => (.av (cBlock r))) (paraB l) Tryz.func13 (by kernel_rfl) ?_
  refine UF (paraB.eq_1 ..) ?_
  refine GO (tn 4 z) (by kernel_rfl) ?_
  exact EN (by kernel_rfl)
def useI (name : ByteArray) (args : List ByteArray) : DInline := DInline.mk 15 name (⟨#[]⟩) (⟨#[]⟩) (DAttr.mk (⟨#[]⟩) ([]) ([])) args ([]) ([])
set_option maxRecDepth 100000 in
set_option maxHeartbeats 4000000 in
theorem useI_to (name : ByteArray) (args : List ByteArray) (ha : args.length ≤ 1073741824) : CallTo Tryz.prog 14 [(jS (name)), (jL (args.map strAV))] [] [] (.av (cInline (useI name args))) [] [] := by
  refine BEG (fun r : DInline => (.av (cInline r))) (useI name args) Tryz.func14 (by kernel_rfl) ?_
  refine UF (useI.eq_1 ..) ?_
  refine GO (tn 5 z) (by kernel_rfl) ?_
  exact EN (by kernel_rfl)
end Go.Proofs.YtcdfhagcchmnhaaGreatDoor
namespace Go.Eng
variable {P : Program}
def strZ : Value := .agg #[.string ⟨#[]⟩, .slice none 0 0, .slice none 0 0]
theorem WO_str {ops : Array Oper} {o1 o2 o3 : Oper} {rest : List Oper} {Q : St → Prop} {S : St} {t m d1 d2 bt : Nat} {nm : ByteArray}
    (ho1 : o1.op = .build t #[(0, .tmp m)]) (hd1 : o1.dst = some d1) (hg1 : o1.guard = none) (ho2 : o2.op = .alloc t) (hd2 : o2.dst = some d2) (hg2 : o2.guard = none) (ho3 : o3.op = .store t (.tmp d2) (.tmp d1)) (hd3 : o3.dst = none) (hg3 : o3.guard = none)
    (hi : tInfo P t = some (3, bt, some strZ)) (hpl : tPlaces P t = some [(0, 1), (1, 1), (2, 1)]) (hm : S.fr[m]? = some (jS nm)) (hm1 : m ≠ d1) (hm2 : m ≠ d2) (h12 : d1 ≠ d2) (hl1 : d1 < S.fr.length) (hl2 : d2 < S.fr.length) (hid : d2 < 1000) (hn : (S.put (some d1) .junk).names d2 = false)
    (h : WO P ops rest Q ((((S.put (some d1) .junk).addBox d2 (.cells t (zeroCells strZ))).put (some d2) (.ptr d2 0)).setBox d2 (.cells t [jS nm, .nil, .nil]))) : WO P ops (o1 :: o2 :: o3 :: rest) Q S := by
  intro more Q' G w a hr hq
  have hsz : a.tmps.size = S.fr.length := hr.size.symm
  have em : a.eval (.tmp m) = .string nm := (hr.fr m _ hm).1
  have x1 : (execOp a.eval o1).run P w = .ok (.value (.agg #[.string nm, .slice none 0 0, .slice none 0 0])) w := by
    unfold tPlaces at hpl
    split at hpl
    · rename_i fs hu
      have hmm := run_places w fs.toList _ hpl
      have hm2 : (fs.mapM (fun f => do pure (f.offset, ← sizeOf f.type)) : Sem (Array (Nat × Nat))).run P w = .ok #[(0, 1), (1, 1), (2, 1)] w := by
        rw [Array.mapM_eq_mapM_toList]
        simp only [Sem.run_map, hmm, Result.andThen_ok]
      simp only [bind_pure_comp] at hm2
      have hf : Instr.fill (fun i : Nat => (#[(0, 1), (1, 1), (2, 1)] : Array (Nat × Nat))[i]?) #[.string ⟨#[]⟩, .slice none 0 0, .slice none 0 0] [(0, .string nm)] = some #[.string nm, .slice none 0 0, .slice none 0 0] := rfl
      simp [execOp, ho1, Instr.build, run_zeroValue' hi, run_underlying' hu, hm2, em, strZ]
      rfl
    · simp at hpl
  simp only [List.cons_append, wpList]
  rw [if_pos (wanted_none hg1 a)]
  refine .inl ?_
  unfold Oper.wp
  rw [x1, Oper.upon_value, hd1]
  have hr1 : Rel G w (S.put (some d1) .junk) (a.put (some d1) (.agg #[.string nm, .slice none 0 0, .slice none 0 0])) := hr.put (some d1) trivial
  have em1 : (a.put (some d1) (.agg #[.string nm, .slice none 0 0, .slice none 0 0])).eval (.tmp m) = .string nm := by rw [ev_other hm1, em]
  have ed1 : (a.put (some d1) (.agg #[.string nm, .slice none 0 0, .slice none 0 0])).eval (.tmp d1) = .agg #[.string nm, .slice none 0 0, .slice none 0 0] := ev_same (by omega)
  have hs1 : (a.put (some d1) (.agg #[.string nm, .slice none 0 0, .slice none 0 0])).tmps.size = S.fr.length := by simp [Act.put, hsz]
  generalize a.put (some d1) (.agg #[.string nm, .slice none 0 0, .slice none 0 0]) = a1 at hr1 em1 ed1 hs1 ⊢
  rw [if_pos (wanted_none hg2 _)]
  refine .inl ?_
  try unfold Oper.wp
  obtain ⟨e1, e2, e3⟩ := hr1.newBox hn t (RepSs_const strZ.cells.toList) (fun s hs => by simp only [List.mem_map] at hs; obtain ⟨v, _, rfl⟩ := hs; exact const_names d2 v) (by intro x hx; simp [strZ, Value.cells] at hx; rcases hx with rfl | rfl | rfl <;> rfl)
  have x2 : (execOp a1.eval o2).run P w = .ok (.value (.pointer (some ⟨w.heap.size, 0, none⟩))) (w.alloc (.cells strZ.cells.toList.toArray t)) := by
    simp [execOp, ho2, Instr.alloc, run_zeroValue' hi, newVar, newRow]
  rw [x2, Oper.upon_value, hd2]
  have hr2 := e2.put (some d2) e3
  have em2 : (a1.put (some d2) (.pointer (some ⟨w.heap.size, 0, none⟩))).eval (.tmp m) = .string nm := by rw [ev_other hm2, em1]
  have ed2 : (a1.put (some d2) (.pointer (some ⟨w.heap.size, 0, none⟩))).eval (.tmp d1) = .agg #[.string nm, .slice none 0 0, .slice none 0 0] := by rw [ev_other h12, ed1]
  have ep2 : (a1.put (some d2) (.pointer (some ⟨w.heap.size, 0, none⟩))).eval (.tmp d2) = .pointer (some ⟨w.heap.size, 0, none⟩) := ev_same (by omega)
  generalize a1.put (some d2) (.pointer (some ⟨w.heap.size, 0, none⟩)) = a2 at hr2 em2 ed2 ep2 ⊢
  have hlk : (((S.put (some d1) .junk).addBox d2 (.cells t (zeroCells strZ))).put (some d2) (.ptr d2 0)).bx.lookup d2 = some (.cells t (zeroCells strZ)) := by
    simp [St.put, St.addBox, List.lookup]
  obtain ⟨w3, q1, q2, q3⟩ := hr2.storeBox hlk (blk := w.heap.size) (by simp [Gh.bind]) 0 (xs := [jS nm, .nil, .nil]) (vs := [.string nm, .slice none 0 0, .slice none 0 0]) ⟨_, _, rfl, ⟨rfl, rfl⟩, _, _, rfl, rfl, _, _, rfl, rfl, rfl⟩ (by intro x hx; simp at hx; rcases hx with rfl | rfl | rfl <;> rfl) (by simp [zeroCells, strZ, Value.cells])
  rw [if_pos (wanted_none hg3 _)]
  refine .inl ?_
  try unfold Oper.wp
  have x3 : (execOp a2.eval o3).run P (w.alloc (.cells strZ.cells.toList.toArray t)) = .ok .skip w3 := by
    have hW : ∀ W : World, (storeCells ⟨w.heap.size, 0, none⟩ [.string nm, .slice none 0 0, .slice none 0 0]).run P W = .ok () w3 → (execOp a2.eval o3).run P W = .ok .skip w3 := fun W hW => by
      simp [execOp, ho3, ep2, ed2, Instr.storeAt, Instr.sureAddr, storeVar, run_sizeOf' hi, Value.cells, hW]
    exact hW _ (q1 P)
  rw [x3, Oper.upon_skip, hd3]
  exact h more Q' _ w3 _ q3 (fun S' G2 a2 w4 p1 p2 p3 p4 => hq S' G2 a2 w4 p1 ((e1.trans q2).trans p2) p3 (fun i hi' => (p4 i hi').trans (by simp only [Gh.bind]; rw [if_neg (by intro h; simp only [Prod.mk.injEq] at h; omega)])))
end Go.Eng
namespace Go.Proofs.YtcdfhagcchmnhaaGreatDoor
open Go Go.Eng
def nms : List ByteArray := [⟨#[97]⟩, ⟨#[98]⟩, ⟨#[99]⟩, ⟨#[100]⟩, ⟨#[101]⟩, ⟨#[102]⟩, ⟨#[103]⟩, ⟨#[104]⟩, ⟨#[105]⟩, ⟨#[106]⟩, ⟨#[107]⟩, ⟨#[108]⟩]
def nmB' (b : UInt8) : ByteArray := el nms (b.toNat % 12)
def aByt (b : UInt8) : AV := .val (.int .u8 (b.toNat : Int))
def aRowB (r : List UInt8) : AV := .sl (r.map aByt)
def addB (x : DMacro) (b : UInt8) : DMacro := cond (decide (((b.toNat : Nat) : Int) > 200)) (DMacro.mk x.fName (x.fArgs ++ [nmB' b]) x.fBody) (DMacro.mk x.fName x.fArgs (x.fBody ++ [paraB [useI (nmB' b) []]]))
def x0 (v : Nat) : DMacro := DMacro.mk (el nms v) [] []
def xk (v : Nat) (r : List UInt8) (k : Nat) : DMacro := (r.take k).foldl addB (x0 v)
def mkX (v : Nat) (r : List UInt8) : DMacro := cond (cond (decide (((v : Nat) : Int) > 0)) (decide (((lenM aByt r : Nat) : Int) > 6)) false) (DMacro.mk (nmB' (el r 6)) (xk v r 6).fArgs (xk v r 6).fBody) (xk v r 6)
def mkMs (l : List (List UInt8)) (n : Nat) : List DMacro := (List.range n).map (fun i => mkX i (el l i))
theorem take_succU {r : List UInt8} {k : Nat} (h : k < r.length) : r.take (k + 1) = r.take k ++ [el r k] := take_succ_el h
theorem xk_succ {v : Nat} {r : List UInt8} {k : Nat} (h : k < r.length) : xk v r (k + 1) = addB (xk v r k) (el r k) := by
  rw [xk, take_succU h, List.foldl_append]; rfl
theorem addB_sz (x : DMacro) (b : UInt8) : (addB x b).fArgs.length ≤ x.fArgs.length + 1 ∧ (addB x b).fBody.length ≤ x.fBody.length + 1 := by
  unfold addB
  cases decide (((b.toNat : Nat) : Int) > 200) <;> simp
theorem fold_sz : ∀ (r : List UInt8) (x : DMacro), (r.foldl addB x).fArgs.length ≤ x.fArgs.length + r.length ∧ (r.foldl addB x).fBody.length ≤ x.fBody.length + r.length
  | [], x => by simp
  | b :: r, x => by
    have h1 := fold_sz r (addB x b)
    have h2 := addB_sz x b
    simp only [List.foldl_cons, List.length_cons]; omega
theorem xk_sz (v : Nat) (r : List UInt8) (k : Nat) : (xk v r k).fArgs.length ≤ k ∧ (xk v r k).fBody.length ≤ k := by
  have h := fold_sz (r.take k) (x0 v)
  have h2 : (r.take k).length ≤ k := by simp; omega
  have e1 : (x0 v).fArgs.length = 0 := rfl
  have e2 : (x0 v).fBody.length = 0 := rfl
  exact ⟨by unfold xk; omega, by unfold xk; omega⟩
theorem el_aRowB (xs : List (List UInt8)) (i : Nat) (h : i < xs.length) : 0 ≤ ((i : Nat) : Int) ∧ (xs.map aRowB)[i]? = some (aRowB (el xs i)) := elx rfl h rfl
theorem el_aByt (xs : List UInt8) (i : Nat) (h : i < xs.length) : 0 ≤ ((i : Nat) : Int) ∧ (xs.map aByt)[i]? = some (aByt (el xs i)) := elx rfl h rfl
theorem rem_eq (b : UInt8) : (IntKind.i64.wrap ((b.toNat : Nat) : Int)).tmod 12 = ((b.toNat % 12 : Nat) : Int) := by
  have hb := b.toNat_lt
  rw [wrap_i64 (by omega) (by omega)]
  rfl
theorem el_rem (b : UInt8) : 0 ≤ (IntKind.i64.wrap ((b.toNat : Nat) : Int)).tmod 12 ∧ (nms.map strAV)[((IntKind.i64.wrap ((b.toNat : Nat) : Int)).tmod 12).toNat]? = some (strAV (nmB' b)) := by
  rw [rem_eq]
  exact elx rfl (show b.toNat % 12 < nms.length from Nat.mod_lt _ (by decide)) rfl
theorem weak_cells {n : Nat} {sl : List (Nat × SV)} {gn : List (Key × Nat)} {b t : Nat} {l l' : List SV} {r : List (Nat × ABox)} (h : l = l') : Weak (sx n sl ((b, .cells t l) :: r) gn) (sx n sl ((b, .cells t l') :: r) gn) := by subst h; exact fun _ _ _ h => h
def cX (x : DMacro) (gA gB : Nat) : List SV := [jS x.fName, .own (500, 10) gA 1 (x.fArgs.map strAV), .own (501, 45) gB 11 (x.fBody.map aBlock)]
noncomputable def c8A : Array Oper := (regAt 8 (bodyOf Tryz.f4)).getD #[]
noncomputable def c8o (i : Nat) : Oper := c8A.getD i (c8A.getD 0 default)
def gnC (g gA gB : Nat) : List (Key × Nat) := [((204, 39), g), ((500, 10), gA), ((501, 45), gB)]
def Ca (l : List (List UInt8)) (v g gA gB : Nat) : St := sx 133 [(0, .av (.sl (l.map aRowB))), (3, jL (nms.map strAV)), (4, .own (204, 39) g 3 ((mkMs l v).map aMacro)), (5, jI ((v : Nat) : Int))] [] (gnC g gA gB)
def Cb (l : List (List UInt8)) (v g gA gB : Nat) : St := sx 133 [(0, .av (.sl (l.map aRowB))), (3, jL (nms.map strAV)), (4, .own (204, 39) g 3 ((mkMs l v).map aMacro)), (5, jI ((v : Nat) : Int)), (6, .ptr 6 0)] [(6, .cells 38 [jS (el nms v), .nil, .nil])] (gnC g gA gB)
set_option maxRecDepth 100000 in
set_option maxHeartbeats 4000000 in
theorem c8w (l : List (List UInt8)) (v g gA gB : Nat) (hv : v < 12) : W Tryz.prog (.region 8 c8A false) (fun e S1 => e = .normal ∧ Weak S1 (Cb l v g gA gB)) (Ca l v g gA gB) := by
  have hvn : v < nms.length := hv
  have hgd : (nms.map strAV).getD v (.val undef) = strAV (el nms v) := by simp [el, hvn]
  refine W_regionO ?_
  rw [show c8A.toList = [c8o 0, c8o 1, c8o 2, c8o 3, c8o 4, c8o 5, c8o 6] by kernel_rfl]
  refine WO_pure (jL (nms.map strAV)) 23 (by kernel_rfl) (by kernel_rfl) ?_
  refine WO_pure (jI ((v : Nat) : Int)) 24 (by kernel_rfl) (by kernel_rfl) ?_
  refine WO_pureP (p := 0 ≤ ((v : Nat) : Int) ∧ ((v : Nat) : Int) < (((nms.map strAV).length : Nat) : Int) ∧ ((nms.map strAV).getD v (.val undef)).cells.length = 1 ∧ ((nms.map strAV).getD v (.val undef)).isTup = false) (.av (.ro ((nms.map strAV).getD v (.val undef)).cells 0)) 25 ⟨by omega, by rw [List.length_map]; omega, by rw [hgd]; rfl, by rw [hgd]; rfl⟩ (by kernel_rfl) (by kernel_rfl) ?_
  rw [hgd]
  refine WO_pure (jS (el nms v)) 26 (by kernel_rfl) (by kernel_rfl) ?_
  refine WO_str (t := 38) (m := 26) (d1 := 27) (d2 := 6) (bt := 64) (nm := el nms v) (by kernel_rfl) (by kernel_rfl) (by kernel_rfl) (by kernel_rfl) (by kernel_rfl) (by kernel_rfl) (by kernel_rfl) (by kernel_rfl) (by kernel_rfl) (by kernel_rfl) (by kernel_rfl) (by kernel_rfl) (by decide) (by decide) (by decide) (of_decide_eq_true (by kernel_rfl)) (of_decide_eq_true (by kernel_rfl)) (by decide) (by kernel_rfl) ?_
  refine WO_nil rfl ⟨rfl, WK (by kernel_rfl)⟩
/-- What the law asks of its macros. -/
def CycOk (ms : List DMacro) : Prop := MOk ms ∧ (∀ v, v < ms.length → StpOk (el (nxt ms)) ms.length (v : Int) (distM (nxt ms) (v : Int))) ∧ (∀ v, v < ms.length → fndI ms (nmAt ms v) = (v : Int) → StpOk (rowR ms) ms.length (v : Int) (stpM ms (v : Int))) ∧ cycP ms (List.range ms.length) = cycR ms (List.range ms.length) ∧ (cycP ms (List.range ms.length)).1.length ≤ 1073741824
theorem samS_self' (a : List ByteArray) : samS a a = true := by
  have key : ∀ (n i : Nat), a.length - i < n → samS_L0 a a n i = true := by
    intro n
    induction n with
    | zero => intro i h; omega
    | succ n ih =>
      intro i h
      have hl := lenM_eq strAV a
      rw [samS_L0]
      by_cases hi : i < a.length
      · rw [dT (p := ((i : Nat) : Int) < _) (by omega), cond_true, ih _ (by omega)]
        simp [eqs]
      · rw [dF (p := ((i : Nat) : Int) < _) (by omega)]; rfl
  unfold samS
  rw [show ((((lenM strAV a : Nat) : Int)) != ((lenM strAV a : Nat) : Int)) = false by simp, cond_false]
  exact key _ _ (by omega)
set_option maxRecDepth 100000 in
set_option maxHeartbeats 4000000 in
theorem mcy_to (l : List (List UInt8)) (hlen : l.length ≤ 1073741824) (hrow : ∀ r ∈ l, r.length ≤ 1073741824) (hcy : l.length ≤ 12 → CycOk (mkMs l l.length)) : CallTo Tryz.prog 4 [.av (.sl (l.map aRowB))] [] [] (jB true) [] [] := by
  have hlm := lenM_eq aRowB l
  refine BEG (fun r : Bool => jB r) true Tryz.func4 (by kernel_rfl) ?_
  refine GO (tn 4 z) (by kernel_rfl) ?_
  by_cases h12 : l.length > 12
  · have hd : decide (((lenM aRowB l : Nat) : Int) > 12) = true := dT (by omega)
    refine GO (kb hd (kc awake_to (tn 1 z))) (by kernel_rfl) ?_
    exact EN (by kernel_rfl)
  · have hd : decide (((lenM aRowB l : Nat) : Int) > 12) = false := dF (by omega)
    have hcy := hcy (by omega)
    have hu : Uni 1 (nms.map strAV) := uni_strAV _
    refine GO (kb hd (kp hu (tn 3 z))) (by kernel_rfl) ?_
    refine LP (n := l.length + 1) (fun N M S => ∃ (v g gA gB : Nat), (v ≤ l.length) ∧ (l.length - v < N) ∧ M = true ∧ S = Ca l v g gA gB) (by kernel_rfl)
      ⟨0, 0, 0, 0, by omega, by omega, rfl, rfl⟩ (WKf [(4, (.own (204, 39) 0 3 (([] : List DMacro).map aMacro)))] (ac (show ((([] : List DMacro).map aMacro) : List AV) = [] ∧ 0 < 39 ∧ ((0) : Nat) = (0) from ⟨rfl, by decide, rfl⟩) an) (by kernel_rfl)) ?_
    rintro n0 M S ⟨v, g, gA, gB, hv, hF0, rfl, rfl⟩
    obtain ⟨n0, rfl⟩ : ∃ k, n0 = k + 1 := ⟨n0 - 1, by omega⟩
    refine GO (tn 4 z) (by kernel_rfl) ?_
    by_cases h1 : v < l.length
    · have hd : decide ((((v : Nat) : Int) : Int) < ((lenM aRowB l : Nat) : Int)) = true := dT (by omega)
      have hw1 := wrE (((v : Nat) : Int) + 1) (((v + 1 : Nat) : Int)) (by omega)
      have hel := el_aRowB l v h1
      obtain ⟨r, hr⟩ : ∃ r, el l v = r := ⟨_, rfl⟩
      have hrl := hrow r (by rw [← hr]; exact el_mem h1)
      have hmx : mkMs l (v + 1) = mkMs l v ++ [mkX v r] := by rw [mkMs, mkMs, List.range_succ, List.map_append, ← hr]; rfl
      rw [hr] at hel
      have hlr := lenM_eq aByt r
      refine GO (kb hd (kq 8 z)) (by kernel_rfl) ?_
      refine NXW (Cb l v g gA gB) (kq 9 z) (by kernel_rfl) ?_ (by kernel_rfl) ?_
      · refine W_weak (S' := Ca l v g gA gB) (WK (by kernel_rfl)) ?_
        exact W_code (c' := .region 8 c8A false) (by kernel_rfl) (c8w l v g gA gB (by omega))
      refine RT [(6, 1, .own (500, 10) gA 1 []), (6, 2, .own (501, 45) gB 11 [])] (ac (show (([] : List AV) = [] ∧ 0 < 10 ∧ gA = gA) from ⟨rfl, by decide, rfl⟩) (ac (show (([] : List AV) = [] ∧ 0 < 45 ∧ gB = gB) from ⟨rfl, by decide, rfl⟩) an)) (by kernel_rfl) ?_
      refine GO (tn 1 z) (by kernel_rfl) ?_
      refine LP (n := 7) (fun N M S => ∃ (k gA gB : Nat), (k ≤ r.length) ∧ (k ≤ 6) ∧ (6 - k < N) ∧ M = true ∧ S = (sx 133 [(0, .av (.sl (l.map aRowB))), (3, jL (nms.map strAV)), (4, .own (204, 39) g 3 ((mkMs l v).map aMacro)), (5, jI ((v : Nat) : Int)), (6, .ptr 6 0), (7, jI ((k : Nat) : Int))] ((6, .cells 38 (cX (xk v r k) gA gB)) :: []) (gnC g gA gB))) (by kernel_rfl)
        ⟨0, gA, gB, by omega, by omega, by omega, rfl, rfl⟩ (WK (by kernel_rfl)) ?_
      rintro n1 M S ⟨k, gA, gB, hk, hk6, hF1, rfl, rfl⟩
      obtain ⟨n1, rfl⟩ : ∃ k, n1 = k + 1 := ⟨n1 - 1, by omega⟩
      have hxs := xk_sz v r k
      refine GO (tn 3 (ke hel (tn 4 (kj (decide ((((k : Nat) : Int) : Int) < ((lenM aByt r : Nat) : Int))) (tn 2 z) z z)))) (by kernel_rfl) ?_
      by_cases h2 : k < r.length ∧ k < 6
      · have hd : cond (decide ((((k : Nat) : Int) : Int) < ((lenM aByt r : Nat) : Int))) (decide ((((k : Nat) : Int) : Int) < 6)) false = true := by rw [dT (by omega), cond_true]; exact dT (by omega)
        have hw2 := wrE (((k : Nat) : Int) + 1) (((k + 1 : Nat) : Int)) (by omega)
        have hby := el_aByt r k h2.1
        obtain ⟨b, hb⟩ : ∃ b, el r k = b := ⟨_, rfl⟩
        have hxs2 := xk_succ (v := v) (r := r) h2.1
        rw [hb] at hby hxs2
        have hnm := el_rem b
        have h12' : (12 : Int) ≠ 0 := by decide
        refine GO (kb hd (tn 2 (ke hel (tn 2 (ke hby (tn 2 z)))))) (by kernel_rfl) ?_
        by_cases h3 : ((b.toNat : Nat) : Int) > 200
        · have h3d : decide (((b.toNat : Nat) : Int) > 200) = true := dT h3
          have hu1 : Uni 1 [vS (nmB' b)] := uni_one rfl rfl
          have e1 : [jS (xk v r k).fName, .own (500, 10) (gA + 1) 1 ((xk v r k).fArgs.map strAV ++ [vS (nmB' b)]), .own (501, 45) gB 11 ((xk v r k).fBody.map aBlock)] = cX (xk v r (k + 1)) (gA + 1) gB := by
            rw [hxs2, addB, h3d]
            simp only [cX, cond_true, List.map_append, List.map_cons, List.map_nil]
            rfl
          refine GO (kb h3d z) (by kernel_rfl) ?_
          refine DR3 (tn 5 (ko (eO hel) (kp hel (tn 2 (ko (eO hby) (kp hby (tn 2 (kp h12' (ko (eO hnm) (kp hnm (tn 1 (kp hu1 (kp (show gA = gA ∧ Uni 1 [vS (nmB' b)] ∧ (((xk v r k).fArgs.map strAV : List AV).length + ([vS (nmB' b)] : List AV).length) * 16 ≤ 140737488355328 from ⟨rfl, hu1, by simp; omega⟩) (tn 3 (kn hw2 (tn 1 z)))))))))))))))) (by kernel_rfl) (by kernel_rfl) (by kernel_rfl) ?_
          exact AG ⟨k + 1, gA + 1, gB, by omega, by omega, by omega, rfl, rfl⟩ (wtr (WK (bx := (6, .cells 38 [jS (xk v r k).fName, .own (500, 10) (gA + 1) 1 ((xk v r k).fArgs.map strAV ++ [vS (nmB' b)]), .own (501, 45) gB 11 ((xk v r k).fBody.map aBlock)]) :: []) (by kernel_rfl)) (weak_cells e1)) (by kernel_rfl) (Nat.lt_succ_self _)
        · have h3d : decide (((b.toNat : Nat) : Int) > 200) = false := dF h3
          have hu1 : Uni 10 [cInline (useI (nmB' b) [])] := uni_one rfl rfl
          have hu2 : Uni 11 [cBlock (paraB [useI (nmB' b) []])] := uni_one rfl rfl
          have hc1 := useI_to (nmB' b) [] (by simp)
          have hc2 := paraB_to [useI (nmB' b) []] (by simp)
          have e1 : [jS (xk v r k).fName, .own (500, 10) gA 1 ((xk v r k).fArgs.map strAV), .own (501, 45) (gB + 1) 11 ((xk v r k).fBody.map aBlock ++ [cBlock (paraB [useI (nmB' b) []])])] = cX (xk v r (k + 1)) gA (gB + 1) := by
            rw [hxs2, addB, h3d, ap1_aBlock]
            rfl
          refine GO (kb h3d z) (by kernel_rfl) ?_
          refine DR3 (tn 5 (ko (eO hel) (kp hel (tn 2 (ko (eO hby) (kp hby (tn 2 (kp h12' (ko (eO hnm) (kp hnm (tn 1 (ko (cO hc1) (kp hc1 (tn 1 (kp hu1 (ko (cO hc2) (kp hc2 (tn 1 (kp hu2 (kp (show gB = gB ∧ Uni 11 [cBlock (paraB [useI (nmB' b) []])] ∧ (((xk v r k).fBody.map aBlock : List AV).length + ([cBlock (paraB [useI (nmB' b) []])] : List AV).length) * 192 ≤ 140737488355328 from ⟨rfl, hu2, by simp; omega⟩) (tn 3 (kn hw2 (tn 1 z))))))))))))))))))))))) (by kernel_rfl) (by kernel_rfl) (by kernel_rfl) ?_
          exact AG ⟨k + 1, gA, gB + 1, by omega, by omega, by omega, rfl, rfl⟩ (wtr (WK (bx := (6, .cells 38 [jS (xk v r k).fName, .own (500, 10) gA 1 ((xk v r k).fArgs.map strAV), .own (501, 45) (gB + 1) 11 ((xk v r k).fBody.map aBlock ++ [cBlock (paraB [useI (nmB' b) []])])]) :: []) (by kernel_rfl)) (weak_cells e1)) (by kernel_rfl) (Nat.lt_succ_self _)
      · have hd : cond (decide ((((k : Nat) : Int) : Int) < ((lenM aByt r : Nat) : Int))) (decide ((((k : Nat) : Int) : Int) < 6)) false = false := by
          by_cases q : k < r.length
          · rw [dT (by omega), cond_true]; exact dF (by omega)
          · rw [dF (by omega)]; rfl
        have hk6' : xk v r k = xk v r 6 := by
          by_cases q : k = 6
          · rw [q]
          · have hkr : k = r.length := by omega
            rw [xk, xk, hkr, List.take_length, List.take_of_length_le (by omega)]
        have h12' : (12 : Int) ≠ 0 := by decide
        have hml : (mkMs l v).length ≤ 12 := by simp [mkMs]; omega
        refine GO (kb hd z) (by kernel_rfl) ?_
        refine OUT (tn 3 (kj (decide (((v : Nat) : Int) > 0)) (tn 2 (he (fun _ => hel) (tn 3 z))) z z)) (by kernel_rfl) ?_
        rcases Bool.eq_false_or_eq_true (cond (decide (((v : Nat) : Int) > 0)) (decide (((lenM aByt r : Nat) : Int) > 6)) false) with hc | hc
        · have hr6 : 6 < r.length := by have := of_decide_eq_true (cond_ff hc).2; omega
          have hby : 0 ≤ (6 : Int) ∧ (r.map aByt)[(6 : Int).toNat]? = some (aByt (el r 6)) := el_aByt r 6 hr6
          have hnm := el_rem (el r 6)
          obtain ⟨xx, hxx⟩ : ∃ xx, xx = DMacro.mk (nmB' (el r 6)) (xk v r k).fArgs (xk v r k).fBody := ⟨_, rfl⟩
          have hmx' : mkMs l (v + 1) = mkMs l v ++ [xx] := by rw [hmx, mkX, hc, cond_true, hxx, hk6']
          have hCa : Ca l (v + 1) (g + 1) gA gB = sx 133 [(0, .av (.sl (l.map aRowB))), (3, jL (nms.map strAV)), (4, .own (204, 39) (g + 1) 3 ((mkMs l v ++ [xx]).map aMacro)), (5, jI ((v + 1 : Nat) : Int))] [] (gnC (g + 1) gA gB) := by rw [Ca, hmx']
          subst hxx
          have hu3 : Uni 3 [aMacro (DMacro.mk (nmB' (el r 6)) (xk v r k).fArgs (xk v r k).fBody)] := uni_one rfl rfl
          refine GO (kb hc (tn 3 (ke hel (tn 1 (ke hby (tn 2 (kp h12' (ke hnm (tn 5 (kp hu3 (kp (show (g : Nat) = g ∧ Uni 3 [aMacro (DMacro.mk (nmB' (el r 6)) (xk v r k).fArgs (xk v r k).fBody)] ∧ (((mkMs l v).map aMacro : List AV).length + ([aMacro (DMacro.mk (nmB' (el r 6)) (xk v r k).fArgs (xk v r k).fBody)] : List AV).length) * 64 ≤ 140737488355328 from ⟨rfl, hu3, by simp; omega⟩) (kw (ap1 aMacro (mkMs l v) (DMacro.mk (nmB' (el r 6)) (xk v r k).fArgs (xk v r k).fBody)) (tn 2 (kn hw1 (tn 1 z))))))))))))))) (by kernel_rfl) ?_
          exact AG ⟨v + 1, g + 1, gA, gB, by omega, by omega, rfl, hCa.symm⟩ (WK (by kernel_rfl)) (by kernel_rfl) (Nat.lt_succ_self _)
        · obtain ⟨xx, hxx⟩ : ∃ xx, xx = xk v r k := ⟨_, rfl⟩
          have hmx' : mkMs l (v + 1) = mkMs l v ++ [xx] := by rw [hmx, mkX, hc, cond_false, hxx, hk6']
          have hCa : Ca l (v + 1) (g + 1) gA gB = sx 133 [(0, .av (.sl (l.map aRowB))), (3, jL (nms.map strAV)), (4, .own (204, 39) (g + 1) 3 ((mkMs l v ++ [xx]).map aMacro)), (5, jI ((v + 1 : Nat) : Int))] [] (gnC (g + 1) gA gB) := by rw [Ca, hmx']
          subst hxx
          have hu3 : Uni 3 [aMacro (xk v r k)] := uni_one rfl rfl
          refine GO (kb hc (tn 2 (kp hu3 (kp (show (g : Nat) = g ∧ Uni 3 [aMacro (xk v r k)] ∧ (((mkMs l v).map aMacro : List AV).length + ([aMacro (xk v r k)] : List AV).length) * 64 ≤ 140737488355328 from ⟨rfl, hu3, by simp; omega⟩) (kw (ap1 aMacro (mkMs l v) (xk v r k)) (tn 2 (kn hw1 (tn 1 z)))))))) (by kernel_rfl) ?_
          exact AG ⟨v + 1, g + 1, gA, gB, by omega, by omega, rfl, hCa.symm⟩ (WK (by kernel_rfl)) (by kernel_rfl) (Nat.lt_succ_self _)
    · have hd : decide ((((v : Nat) : Int) : Int) < ((lenM aRowB l : Nat) : Int)) = false := dF (by omega)
      obtain rfl : v = l.length := by omega
      obtain ⟨hok, hs1, hs2, heq, hle⟩ := hcy
      have hcp := cycP_to (mkMs l l.length) hok hs1
      have hcr := cycR_to (mkMs l l.length) hok hs2
      rw [← heq] at hcr
      obtain ⟨rr, hrr⟩ : ∃ rr, cycP (mkMs l l.length) (List.range (mkMs l l.length).length) = rr := ⟨_, rfl⟩
      rw [hrr] at hcp hcr hle
      have hsm := samS_to rr.1 rr.1 hle hle
      rw [samS_self'] at hsm
      refine GO (kb hd z) (by kernel_rfl) ?_
      refine OUT (tn 1 (kc hcp (tn 6 (kc hcr (tn 9 (kj (rr.2 == rr.2) (tn 2 (hc (fun _ => hsm) z)) z (tn 1 (kj (cond (rr.2 == rr.2) true false) (hc (fun _ => awake_to) z) z (tn 1 z))))))))) (by kernel_rfl) ?_
      exact ENw (r := jB (cond (cond (rr.2 == rr.2) true false) true false)) (by simp) (by kernel_rfl)
end Go.Proofs.YtcdfhagcchmnhaaGreatDoor
namespace Go.Proofs.YtcdfhagcchmnhaaGreatDoor
open Go Go.Eng
theorem folP_len (row : Nat → List Int) (nm : Nat → ByteArray) (s : List Int) (start : Int) : ∀ (N : Nat) (i : Int) (c : List ByteArray), (folP row nm s start N i c).length ≤ c.length + N
  | 0, i, c => by rw [folP]; omega
  | N + 1, i, c => by
    have h := folP_len row nm s start N (bst s (row i.toNat) (-1)) (c ++ [nm i.toNat])
    rw [folP]
    simp only [List.length_append, List.length_cons, List.length_nil] at h
    cases (cond (decide (bst s (row i.toNat) (-1) < 0)) true (bst s (row i.toNat) (-1) == start)) with
    | true => rw [cond_true]; simp only [List.length_append, List.length_cons, List.length_nil]; omega
    | false => rw [cond_false]; omega
theorem cycP_len (ms : List DMacro) : ∀ l, (cycP ms l).1.length ≤ ms.length + 2
  | [] => by rw [cycP]; simp
  | v :: vs => by
    rw [cycP]
    cases skipP ms v with
    | true => rw [cond_true]; exact cycP_len ms vs
    | false =>
      rw [cond_false]
      have := folP_len (el (nxt ms)) (nmAt ms) (distM (nxt ms) (v : Int)) (v : Int) (ms.length + 2) (v : Int) []
      simpa using this
theorem skip_iff {ms : List DMacro} (hok : MOk ms) {v : Nat} (hv : v < ms.length) : skipP ms v = false ↔ ∃ d, Rch (nbr (nxt ms)) (v : Int) (d + 1) (v : Int) := by
  have hr := ret_iff (nxt_ok hok) (start := (v : Int)) (by rw [nxt_len]; exact ⟨by omega, by omega⟩)
  have hlr := lenM_eq vI (el (nxt ms) v)
  unfold skipP
  rw [← hr]
  constructor
  · intro h
    obtain ⟨_, h2⟩ := cond_tt h
    simpa using h2
  · intro h
    rw [h]
    obtain ⟨d, j, hj, _⟩ := hr.1 h
    have hne : el (nxt ms) v ≠ [] := fun e => by
      have hj : j ∈ el (nxt ms) ((v : Int)).toNat := hj
      rw [Int.toNat_natCast, e] at hj; cases hj
    have hl : (((lenM vI (el (nxt ms) v) : Nat) : Int) == 0) = false := by
      rw [hlr]
      have := List.length_pos_iff.2 hne
      rw [beq_eq_false_iff_ne]
      omega
    rw [hl]; rfl
theorem row_eq (ms : List DMacro) {i : Int} (hi : Ix ms.length i) {j : Int} (hj : j ∈ nbr (nxt ms) i) : isF ms i.toNat = true ∧ rowR ms i.toNat = el (nxt ms) i.toNat := by
  have h := nb_v ms hi
  rw [h] at hj
  split at hj
  · rename_i hf
    rw [if_pos hf] at h
    exact ⟨hf, h.symm⟩
  · cases hj
theorem fol_same {ms : List DMacro} (hok : MOk ms) {v : Nat} (hv : v < ms.length) {s : List Int} (hg : Good (nbr (nxt ms)) (v : Int) ms.length s) (hs : StpOk (el (nxt ms)) ms.length (v : Int) s) (k : List ByteArray × Bool) :
    ∀ (N f : Nat) (i : Int) (c : List ByteArray), Ix ms.length i → f < N → (i = (v : Int) → ms.length + 1 ≤ f) → (i ≠ (v : Int) → 0 ≤ at0 s i ∧ at0 s i ≤ (f : Int)) → (∃ d, Rch (nbr (nxt ms)) (v : Int) (d + 1) i) →
      folR (rowR ms) (nmAt ms) s (v : Int) k (N + 1) i c = (folP (el (nxt ms)) (nmAt ms) s (v : Int) N i c, true)
  | 0, f, i, c, _, h, _, _, _ => by omega
  | N + 1, f, i, c, hi, hF, hf1, hf2, hr => by
    obtain ⟨d, j, hj, hrj⟩ := hr
    obtain ⟨hfi, hrow⟩ := row_eq ms hi hj
    have hj : j ∈ el (nxt ms) i.toNat := hj
    have hjI := nb_ix hok i j hj
    have hrI : ∀ j ∈ el (nxt ms) i.toNat, Ix ms.length j := nb_ix hok i
    obtain ⟨q1, q2⟩ := hg.mn d j hjI hrj
    obtain ⟨b1, b2⟩ := bst_spec s (el (nxt ms) i.toNat) (-1) (fun j hj => (hrI j hj).1) (.inl (by omega))
    have hB0 : 0 ≤ bst s (el (nxt ms) i.toNat) (-1) := by
      by_cases h : bst s (el (nxt ms) i.toNat) (-1) < 0
      · have := (b1 h).2 j hj; omega
      · omega
    obtain ⟨b3, b4, _, b5⟩ := b2 hB0
    have hBr : bst s (el (nxt ms) i.toNat) (-1) ∈ el (nxt ms) i.toNat := by
      rcases b3 with q | q
      · omega
      · exact q
    have hBI := hrI _ hBr
    have hi0 : decide (i ≥ 0) = true := dT hi.1
    rw [folR, folP, hrow, hi0, cond_true]
    obtain ⟨B, hB⟩ : ∃ B, bst s (el (nxt ms) i.toNat) (-1) = B := ⟨_, rfl⟩
    rw [hB] at hB0 hBI b4 b5 ⊢
    rw [dF (p := B < 0) (by omega), cond_false]
    rcases Bool.eq_false_or_eq_true (B == (v : Int)) with hc | hc
    · rw [hc]; rfl
    · rw [hc, cond_false, cond_false]
      have hBv : B ≠ (v : Int) := by simpa using hc
      have hbd := hs.bd (at0 s B) (by
        obtain ⟨u1, u2⟩ := hBI
        have hlt : B.toNat < s.length := by rw [hs.len]; omega
        have : at0 s B = s[B.toNat] := by simp [at0, hlt]
        rw [this]; exact List.getElem_mem hlt)
      have hlt : (at0 s B).toNat < f := by
        by_cases hiv : i = (v : Int)
        · have := hf1 hiv; omega
        · obtain ⟨g1, g2⟩ := hf2 hiv
          obtain ⟨j2, hj1, hj2, hj3⟩ := hs.dec i hi.1 hi.2 hiv g1
          have := b5 j2 hj1 hj2
          omega
      refine fol_same hok hv hg hs k N (at0 s B).toNat B _ hBI (by omega) (fun h => absurd h hBv) (fun _ => ⟨b4, by omega⟩) ?_
      have hrB := hg.rch B hBI b4
      cases hd : (at0 s B).toNat with
      | zero => rw [hd] at hrB; exact absurd hrB hBv
      | succ d => rw [hd] at hrB; exact ⟨d, hrB⟩
theorem cyc_same {ms : List DMacro} (hok : MOk ms) : ∀ (l : List Nat), (∀ v ∈ l, v < ms.length) → cycP ms l = cycR ms l
  | [], _ => rfl
  | v :: vs, h => by
    have hv := h v (by simp)
    have ih := cyc_same hok vs (fun q hq => h q (by simp [hq]))
    have hvI : Ix ms.length (v : Int) := ⟨by omega, by omega⟩
    have hsk := skip_iff hok hv
    obtain ⟨hg, hb⟩ := dist_ix hok hvI
    have hso := dist_ok hok hvI
    have hse := stp_eq hok hvI
    rw [cycP, cycR, hse, ih]
    rcases Bool.eq_false_or_eq_true (skipP ms v) with hs | hs
    · rw [hs, cond_true]
      have hno : ¬ ∃ d, Rch (nbr (nxt ms)) (v : Int) (d + 1) (v : Int) := fun e => by
        rw [hsk.2 e] at hs; cases hs
      rcases Bool.eq_false_or_eq_true (fndI ms (nmAt ms v) != (v : Int)) with hf | hf
      · rw [hf, cond_true]
      · rw [hf, cond_false]
        have hF : isF ms v = true := by
          simp only [bne_eq_false_iff_eq] at hf
          unfold isF
          rw [beq_iff_eq]
          exact hf
        have hnb := isF_nx ms hv
        rw [if_pos hF] at hnb
        have hi0 : decide ((v : Int) ≥ 0) = true := dT (by omega)
        rw [folR, hi0, cond_true, Int.toNat_natCast]
        obtain ⟨b1, b2⟩ := bst_spec (distM (nxt ms) (v : Int)) (rowR ms v) (-1) (fun j hj => (rowR_ix ms v j hj).1) (.inl (by omega))
        have hB : bst (distM (nxt ms) (v : Int)) (rowR ms v) (-1) < 0 := by
          by_cases q : bst (distM (nxt ms) (v : Int)) (rowR ms v) (-1) < 0
          · exact q
          · exfalso
            obtain ⟨b3, b4, _, _⟩ := b2 (by omega)
            have hBr : bst (distM (nxt ms) (v : Int)) (rowR ms v) (-1) ∈ rowR ms v := by
              rcases b3 with g | g
              · omega
              · exact g
            exact hno ⟨_, _, by rw [hnb]; exact hBr, hg.rch _ (rowR_ix ms v _ hBr) b4⟩
        have hBv : (bst (distM (nxt ms) (v : Int)) (rowR ms v) (-1) == (v : Int)) = false := by
          rw [beq_eq_false_iff_ne]; omega
        rw [hBv, cond_false, folR, dF (p := bst (distM (nxt ms) (v : Int)) (rowR ms v) (-1) ≥ 0) (by omega), cond_false]
    · rw [hs, cond_false]
      have hex := hsk.1 hs
      obtain ⟨d, j, hj, hrj⟩ := hex
      obtain ⟨hfi, _⟩ := row_eq ms hvI hj
      rw [Int.toNat_natCast] at hfi
      have hf : (fndI ms (nmAt ms v) != (v : Int)) = false := by
        unfold isF at hfi
        rw [beq_iff_eq] at hfi
        rw [bne_eq_false_iff_eq]
        exact hfi
      rw [hf, cond_false]
      exact (fol_same hok hv hg hso _ (ms.length + 2) (ms.length + 1) (v : Int) [] hvI (by omega) (fun _ => Nat.le_refl _) (fun h => absurd rfl h) ⟨d, j, hj, hrj⟩).symm
theorem cyc_ok {ms : List DMacro} (hok : MOk ms) : CycOk ms := by
  refine ⟨hok, fun v hv => dist_ok hok ⟨by omega, by omega⟩, fun v hv _ => stp_ok hok ⟨by omega, by omega⟩, cyc_same hok _ (fun v hv => by simpa using hv), ?_⟩
  have h1 := cycP_len ms (List.range ms.length)
  have h2 := hok.1
  omega
theorem nm_size (b : UInt8) : (nmB' b).size = 1 := by
  have key : ∀ m, m < 12 → (el nms m).size = 1 := by decide
  exact key _ (Nat.mod_lt _ (by decide))
theorem addB_wl (x : DMacro) (b : UInt8) : wl wBlock (addB x b).fBody ≤ wl wBlock x.fBody + 100 := by
  unfold addB
  cases decide (((b.toNat : Nat) : Int) > 200) with
  | true => rw [cond_true]; show wl wBlock x.fBody ≤ _; omega
  | false =>
    rw [cond_false]
    have h := nm_size b
    have e : wl wBlock [paraB [useI (nmB' b) []]] ≤ 100 := by
      simp only [wl, paraB, useI, wBlock, wBlocks, wInline, wInlines, w1, wStr, wAttr, h]
      decide
    rw [wl_append]
    omega
theorem fold_wl : ∀ (r : List UInt8) (x : DMacro), wl wBlock (r.foldl addB x).fBody ≤ wl wBlock x.fBody + 100 * r.length
  | [], x => by simp
  | b :: r, x => by
    have h1 := fold_wl r (addB x b)
    have h2 := addB_wl x b
    simp only [List.foldl_cons, List.length_cons]; omega
theorem xk_wl (v : Nat) (r : List UInt8) (k : Nat) : wl wBlock (xk v r k).fBody ≤ 100 * k := by
  have h := fold_wl (r.take k) (x0 v)
  have h2 : (r.take k).length ≤ k := by simp; omega
  have e : wl wBlock (x0 v).fBody = 0 := rfl
  unfold xk; omega
theorem mk_ok (l : List (List UInt8)) (hl : l.length ≤ 12) : MOk (mkMs l l.length) := by
  refine ⟨by simp [mkMs]; omega, fun m hm => ?_⟩
  rw [mkMs, List.mem_map] at hm
  obtain ⟨i, _, rfl⟩ := hm
  have h1 := (xk_sz i (el l i) 6).1
  have h2 := xk_wl i (el l i) 6
  unfold mkX
  cases cond (decide (((i : Nat) : Int) > 0)) (decide (((lenM aByt (el l i) : Nat) : Int) > 6)) false with
  | true => rw [cond_true]; exact ⟨by show (xk i (el l i) 6).fArgs.length ≤ _; omega, by show wl wBlock (xk i (el l i) 6).fBody ≤ _; omega⟩
  | false => rw [cond_false]; exact ⟨by omega, by omega⟩
theorem cyc_all (l : List (List UInt8)) (hl : l.length ≤ 1073741824) (hrow : ∀ r ∈ l, r.length ≤ 1073741824) : CallTo Tryz.prog 4 [.av (.sl (l.map aRowB))] [] [] (jB true) [] [] :=
  mcy_to l hl hrow (fun h => cyc_ok (mk_ok l h))
end Go.Proofs.YtcdfhagcchmnhaaGreatDoor
namespace Go.Eng
open Go.ChangeShapes Go.WideShapes Go.ChangeAt Go.RowKit
/-- All that lies in memory stays. -/
def U0 (w : World) (b : Nat) : Nat := match w.heap[b]? with
  | some (.cells arr _ _) => arr.size
  | _ => 0
theorem wf0 (w : World) : Wf ⟨U0 w, fun _ => 0, fun _ => none, fun _ => 0, []⟩ w :=
  ⟨fun κ κ' b h => by simp at h, fun κ b h => by simp at h, fun b hb => by simp only [U0]; rw [Array.getElem?_eq_none hb]⟩
theorem law_calls {P : Program} {f : FuncId} {xs : List AV} (h : CallTo P f (xs.map .av) [] [] (jB true) [] []) {W : World} {vs : List Value} (hr : RepL (U0 W) W xs vs) :
    Calls P f vs.toArray W (fun e W' => e = .returned (.bool true) ∧ Below W.heap.size W W') := by
  refine (h.2 ⟨U0 W, fun _ => 0, fun _ => none, fun _ => 0, []⟩ W vs (wf0 W) (RepSs_av hr) (by simp) (by simp)).mono ?_
  rintro e w' ⟨v, G', rfl, s1, _, s3, _⟩
  simp only [jB, RepS, Rep] at s3
  rw [s3.1]
  exact ⟨rfl, s1.os, s1.toExt.tp, s1.output, s1.size, fun k hk => (s1.stay k hk (by simp)).1⟩
theorem cell_U0 {w : World} {b o : Nat} {v : Value} (h : w.cell? ⟨b, o, none⟩ = some v) : o < U0 w b := by
  unfold U0
  simp only [World.cell?] at h
  split at h
  · rename_i arr e fz hb
    rw [hb]
    simp only [Option.isSome_none, Bool.false_eq_true, if_false] at h
    rcases Nat.lt_or_ge o arr.size with h1 | h1
    · exact h1
    · simp [Array.getElem?_eq_none h1] at h
  · simp at h
end Go.Eng
namespace Go.Proofs.YtcdfhagcchmnhaaGreatDoor
open Go Go.Eng Go.ChangeShapes Go.WideShapes Go.ChangeAt Go.RowKit
section
variable {H : Type} (enc : TypeId × Value → H) (P : Program) (w : World) (sp : Nat → Bool) (held : Bool)
/-- What is read of type t with so much fuel has such cells. -/
def Rd (n : Nat) (t : TypeId) {α : Type} (f : α → List AV) (wt : α → Nat) : Prop :=
  ∀ cs x, DataW.trod enc P w 0 sp held n t cs = some x → ∃ a : α, RepL (U0 w) w (f a) cs ∧ wt a ≤ Rows.uptoBulk x.1 ∧ ∀ v ∈ cs, v.oneCell' = true
variable {enc P w sp held}
theorem add_add (a : Addr) (i j : Nat) : (a.add i).add j = a.add (i + j) := by
  obtain ⟨b, o, s⟩ := a
  unfold Addr.add
  by_cases hi : i = 0
  · subst hi; simp
  · by_cases hj : j = 0
    · subst hj; simp [hi]
    · simp [hi, hj]; omega
theorem cells_get {a : Addr} {n : Nat} {cs : List Value} (h : w.cells? 0 a n = some cs) : cs.length = n ∧ ∀ j, j < n → w.cell? (a.add j) = cs[j]? := by
  unfold World.cells? at h
  rw [if_pos (Nat.zero_le _)] at h
  exact ⟨by simpa using mapM_some_length h, fun j hj => mapM_some_get h j j (by simp [hj])⟩
/-- How an element's cells make one value. -/
def One (sz : Nat) {α : Type} (f : α → List AV) (g : α → AV) : Prop :=
  ∀ (U : Nat → Nat) (w : World) (a : α) (us : List Value), RepL U w (f a) us → us.length = sz → (∀ v ∈ us, v.oneCell' = true) → ∃ u : Value, Rep U w (g a) u ∧ u.cells.toList = us
theorem One_val {α : Type} (g : α → AV) (v : α → Value) (hg : ∀ a, g a = .val (v a)) (hc : ∀ a, (v a).cells = #[v a]) : One 1 (fun a => [g a]) g := fun U w a us h _ h1 => by
  simp only [RepL] at h
  obtain ⟨u, us', rfl, h2, rfl⟩ := h
  refine ⟨u, h2, ?_⟩
  rw [hg] at h2; simp only [Rep] at h2
  rw [h2.1, hc]
theorem slice_go {e : TypeId} {n sz : Nat} {α : Type} {f : α → List AV} {g : α → AV} {wt : α → Nat} (hc : P.cellsOf e = sz) (hR : Rd enc P w sp held n e f wt) (hO : One sz f g) (a : Addr) :
    ∀ (elems : List (DataW H × List MemPlace)) (i0 : Nat), (∀ i, i < elems.length → (w.cells? 0 (a.add ((i0 + i) * sz)) sz).bind (DataW.trod enc P w 0 sp held n e) = elems[i]?) →
      ∃ (l : List α) (es : List Value), RepL (U0 w) w (l.map g) es ∧ l.length = elems.length ∧ (∀ v ∈ es, v.cells.size = sz) ∧ wl wt l ≤ Rows.uptoBulkAll (elems.map (·.1)) ∧
        ∀ j v, (vcells es)[j]? = some v → w.cell? (a.add (i0 * sz + j)) = some v ∧ v.oneCell' = true
  | [], i0, _ => ⟨[], [], by simp [RepL], rfl, by simp, by simp [wl, Rows.uptoBulkAll], by simp [vcells]⟩
  | x :: elems, i0, h => by
    have h0 := h 0 (by simp)
    simp only [Nat.add_zero, List.getElem?_cons_zero, Option.bind_eq_some_iff] at h0
    obtain ⟨cs, hcs, hx⟩ := h0
    obtain ⟨hl, hget⟩ := cells_get hcs
    obtain ⟨y, r1, r2, r3⟩ := hR cs x hx
    obtain ⟨u, u1, u2⟩ := hO _ _ y cs r1 hl r3
    obtain ⟨l, es, k1, k2, k3, k4, k5⟩ := slice_go hc hR hO a elems (i0 + 1) (fun i hi => by
      have := h (i + 1) (by simpa using hi)
      rw [show i0 + 1 + i = i0 + (i + 1) by omega]; simpa using this)
    have hsz : u.cells.size = sz := by rw [← Array.length_toList, u2, hl]
    refine ⟨y :: l, u :: es, by simp only [List.map_cons, RepL]; exact ⟨_, _, rfl, u1, k1⟩, by simp [k2], ?_, by simp only [List.map_cons, wl, Rows.uptoBulkAll]; omega, fun j v hj => ?_⟩
    · intro v hv; simp only [List.mem_cons] at hv
      rcases hv with rfl | hv
      · exact hsz
      · exact k3 v hv
    · simp only [vcells, List.flatMap_cons, u2] at hj
      by_cases hjl : j < sz
      · rw [List.getElem?_append_left (by omega)] at hj
        have := hget j hjl
        rw [add_add] at this
        exact ⟨by rw [this, hj], r3 v (List.mem_of_getElem? hj)⟩
      · rw [List.getElem?_append_right (by omega), hl] at hj
        have := k5 (j - sz) v hj
        rw [show (i0 + 1) * sz + (j - sz) = i0 * sz + j by rw [Nat.add_mul]; omega] at this
        exact this
end
end Go.Proofs.YtcdfhagcchmnhaaGreatDoor
