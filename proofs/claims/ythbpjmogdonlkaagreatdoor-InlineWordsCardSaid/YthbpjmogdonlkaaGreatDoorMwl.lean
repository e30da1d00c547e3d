/- Texts joined by a program (merge.py). -/
import Derived.Test.YthbpjmogdonlkaaGreatDoorMwj
import Derived.Test.YthbpjmogdonlkaaGreatDoorMwh
import Derived.Test.YthbpjmogdonlkaaGreatDoorMwk
import Derived.Test.YthbpjmogdonlkaaGreatDoorMwf
import Derived.Test.YthbpjmogdonlkaaGreatDoorMwd
import Derived.ProofKit
import Derived.SliceStrings
import Derived.Test.YthbpjmogdonlkaaGreatDoorRows
set_option linter.unusedSimpArgs false
set_option linter.unusedVariables false
set_option maxRecDepth 100000
set_option maxHeartbeats 4000000
open ByteArray renaming size_append -> Za
open ByteArray renaming mk -> Zb
namespace Go.CE
variable {P : Program}
theorem awake_to {call : Vac} (hcall : CallOk P call) {f : FuncId} (hent : Eng.Enterable P f) {n0 : ID} (h : okB (call (.f f) [] h0 n0) = true) : Eng.CallTo P f [] [] [] (.av (.val (.bool true))) [] [] := by
 obtain ⟨H', n', hr⟩ : ∃ H' n', call (.f f) [] h0 n0 = .ok (.b true) H' n' := by
  cases hc : call (.f f) [] h0 n0 with
  | no => rw [hc] at h; cases h
  | ok v H' n' =>
   rw [hc] at h; cases v with
   | b x =>
    have hx : x = true := h; subst hx; exact ⟨H', n', rfl⟩
   | _ => cases h
 refine ⟨hent, fun G w vs hw hargs _ _ => ?_⟩
 have hvs : vs = [] := by simpa only [Eng.RepSs] using hargs
 subst hvs
 have hcd := (hcall.f f [] h0 n0 _ H' n' hr (fun _ => none) w [] (by simp [VRs]) ⟨fun i hi => absurd (hget_h0 i) hi, fun i j _ _ hi => absurd (hget_h0 i) hi⟩ (fun i _ _ => rfl)).enters hent; refine (callsIn_wide.1 hcd).mono ?_; rintro e w' ⟨u, rfl, ρ', e1, e2, e3⟩
 have hout : ∀ b, b < w.heap.size -> w'.heap[b]? = w.heap[b]? := fun b hb => e1.out b hb (fun i x hi => absurd (hget_h0 i) hi)
 simp only [VR] at e3; subst e3
 have hkeep : ∀ κ, Eng.Keep G w G w' κ := fun κ => ⟨rfl, fun b hb => ⟨hout b (hw.lt κ b hb), rfl⟩⟩
 have himm : Eng.Imm G.U w w' := Eng.imm_of (fun b hb => hout b (by
  rcases Nat.lt_or_ge b w.heap.size with q | q
  ·exact q
  ·have := hw.zero b q; omega))
 exact ⟨.bool true, G, rfl, ⟨⟨fun _ => Nat.le_refl _, himm, e1.size, e1.os, Prod.ext e1.tape rfl, e1.output, fun _ _ => rfl, fun _ => Nat.le_refl _, fun κ _ _ => hkeep κ⟩, fun b hb _ => ⟨hout b hb, rfl⟩, fun κ b hb => .inl ⟨κ, hb⟩⟩,
  ⟨hw.inj, fun κ b hb => Nat.lt_of_lt_of_le (hw.lt κ b hb) e1.size, fun b hb => hw.zero b (Nat.le_trans e1.size hb)⟩, by simp only [Eng.RepS, Eng.Rep]; exact ⟨trivial, rfl⟩, fun p hp => by simp at hp, fun i _ => hkeep _, fun _ _ => rfl, fun _ => rfl⟩
end Go.CE
namespace Go.Proofs.YthbpjmogdonlkaaGreatDoor
open Go Go.CE
theorem lib_ok : ∀ f g, lib f = some g -> LibOk Tryz.prog f g := by
 intro f g h; unfold lib at h
 have key : ∀ (m : Nat) (x : LibF) (r : Option LibF), LibOk Tryz.prog m x -> (r = some g -> LibOk Tryz.prog f g) -> bc (Nat.beq f m) (some x) r = some g -> LibOk Tryz.prog f g := by
  intro m x r hx hr hb; cases hm : Nat.beq f m with
  | true =>
   rw [hm] at hb; rw [Nat.beq_eq] at hm; cases hb; rw [hm]; exact hx
  | false => rw [hm] at hb; exact hr hb
 exact (key _ _ _ stringOk (key _ _ _ checkOk (key _ _ _ countOk (key _ _ _ indexOk (key _ _ _ atoiOk (fun h => by cases h)))))) h
theorem mixed : Tryz.prog.follows .mixedOrders = true := by kernel_rfl
theorem awake_to : Eng.CallTo Tryz.prog 10 [] [] [] (.av (.val (.bool true))) [] [] :=
 CE.awake_to (callF_ok mixed lib_ok 60) ⟨_, Tryz.func10, by kernel_rfl, by kernel_rfl⟩ awake_runs
end Go.Proofs.YthbpjmogdonlkaaGreatDoor
namespace Go.Proofs.YthbpjmogdonlkaaGreatDoor
open Go Go.Eng
theorem Vjz (s : ByteArray) : eqs s s = true := by unfold eqs; simp
def ba (w : List UInt8) : ByteArray := ⟨w.toArray⟩
def twoB (x y : ByteArray) : ByteArray := (x ++ ⟨#[32]⟩) ++ y
def wtB (x y : ByteArray) : ByteArray := ((((((((((((((⟨#[91]⟩ ++ x) ++ ⟨#[93, 40]⟩) ++ y) ++ ⟨#[41, 91]⟩) ++ x) ++ ⟨#[93, 91]⟩) ++ y) ++ ⟨#[93, 91]⟩) ++ x) ++ ⟨#[93, 123, 46]⟩) ++ y) ++ ⟨#[125, 91]⟩) ++ x) ++ ⟨#[93, 123, 61, 101, 109, 112, 104, 125]⟩)
theorem twoB_eq (x y : List UInt8) : (⟨(x ++ (32 :: y)).toArray⟩ : ByteArray) = twoB (ba x) (ba y) := by
 unfold twoB ba; apply ByteArray.ext; apply Array.toList_inj.1; simp
theorem wtB_eq (x y : List UInt8) : (⟨(wtx x y).toArray⟩ : ByteArray) = wtB (ba x) (ba y) := by
 unfold wtB ba; apply ByteArray.ext; apply Array.toList_inj.1; simp [wtx, EMB]
theorem Vc9 {a b : ByteArray} (h : a.size + b.size <= 1073741824) : ((a.size + b.size : Nat) : Int) <= IntKind.i64.max := by
 rw [show IntKind.i64.max = 9223372036854775807 from rfl]; omega
theorem plT_one (t : ByteArray) : plT 1 [txI t] = t := by
 show e0 ++ (if (1 : Int) = 1 then t else _) = _; rw [if_pos rfl]; exact nil_ba _
theorem plain_one (t : ByteArray) (h0 : 0 < t.size) (hz : t.size <= 1073741824) : CallTo Tryz.prog 17 [jL ([txI t].map Va1)] [] [] (jS t) [] [] := by
 have h := plain_to 1 [txI t] ⟨by simp, fun x hx => by
  rw [List.mem_singleton] at hx; subst hx
  exact .inl rfl⟩ (by rw [plT_one]; exact h0) (by rw [plT_one]; exact hz)
 rwa [plT_one] at h
theorem words_to (k l : List UInt8) : CallTo Tryz.prog 6 [jL (k.map aByt), jL (l.map aByt)] [] [] (jB true) [] [] := by
 have hx := word_to k
 have hy := word_to l; obtain ⟨hx0, hx1⟩ := wrd_len k; obtain ⟨hy0, hy1⟩ := wrd_len l
 have hLx := wrd_let k
 have hLy := wrd_let l; obtain ⟨x, hxd⟩ : ∃ w, w = wrd k := ⟨_, rfl⟩
 obtain ⟨y, hyd⟩ : ∃ w, w = wrd l := ⟨_, rfl⟩
 rw [<- hxd] at hx hx0 hx1 hLx; rw [<- hyd] at hy hy0 hy1 hLy
 have p1 := par_two hLx hLy hx0 hy0 (by omega) (by omega)
 have p2 := par_wtx hLx hLy hx0 hy0 (by omega) (by omega); rw [twoB_eq] at p1; rw [wtB_eq] at p2
 have zx : (ba x).size = x.length := rfl
 have zy : (ba y).size = y.length := rfl
 have k1 := kinds_to [txI (twoB (ba x) (ba y))] [1] rfl (by simp)
 have k2 := kinds_to (wXs x y) [9, 9, 11, 6] rfl (by simp [wXs])
 have hpl := plain_one (ba x) (by omega) (by omega)
 have ha := awake_to
 have q1 : ((ba x).size + (Zb #[32]).size : Nat) <= 1073741824 := by rw [show (Zb #[32]).size = 1 from rfl]; omega
 have q2 : ((ba x ++ ⟨#[32]⟩ : ByteArray).size + (ba y).size : Nat) <= 1073741824 := by rw [Za, show (Zb #[32]).size = 1 from rfl]; omega
 have u1 : Uni 1 [vI 1] := uni1 rfl rfl
 have u4 : Uni 1 [vI 9, vI 9, vI 11, vI 6] := fun z hz => by
  simp only [List.mem_cons, List.not_mem_nil, or_false] at hz; rcases hz with rfl | rfl | rfl | rfl <;> exact ⟨rfl, rfl⟩
 have e1 : (0 : Int) <= 0 /\ ([txI (twoB (ba x) (ba y))].map Va1)[(0 : Int).toNat]? = some (Vaa (txI (twoB (ba x) (ba y)))) := ⟨Int.le_refl _, rfl⟩
 have n1 : (!eqs (twoB (ba x) (ba y)) (twoB (ba x) (ba y))) = false := by rw [Vjz]; rfl
 have s0 : (Zb #[91]).size = 1 := rfl
 have s1 : (Zb #[93, 40]).size = 2 := rfl
 have s2 : (Zb #[41, 91]).size = 2 := rfl
 have s3 : (Zb #[93, 91]).size = 2 := rfl
 have s4 : (Zb #[93, 123, 46]).size = 3 := rfl
 have s5 : (Zb #[125, 91]).size = 2 := rfl
 have s6 : (Zb #[93, 123, 61, 101, 109, 112, 104, 125]).size = 8 := rfl
 have s7 : (Zb #[32]).size = 1 := rfl
 have a0 : (⟨#[91]⟩ : ByteArray).size + (ba x).size <= 1073741824 := by simp only [Za, s0, s1, s2, s3, s4, s5, s6, zx, zy]; omega
 have a1 : ((⟨#[91]⟩ : ByteArray) ++ (ba x)).size + (⟨#[93, 40]⟩ : ByteArray).size <= 1073741824 := by simp only [Za, s0, s1, s2, s3, s4, s5, s6, zx, zy]; omega
 have a2 : (((⟨#[91]⟩ : ByteArray) ++ (ba x)) ++ (⟨#[93, 40]⟩ : ByteArray)).size + (ba y).size <= 1073741824 := by simp only [Za, s0, s1, s2, s3, s4, s5, s6, zx, zy]; omega
 have a3 : ((((⟨#[91]⟩ : ByteArray) ++ (ba x)) ++ (⟨#[93, 40]⟩ : ByteArray)) ++ (ba y)).size + (⟨#[41, 91]⟩ : ByteArray).size <= 1073741824 := by simp only [Za, s0, s1, s2, s3, s4, s5, s6, zx, zy]; omega
 have a4 : (((((⟨#[91]⟩ : ByteArray) ++ (ba x)) ++ (⟨#[93, 40]⟩ : ByteArray)) ++ (ba y)) ++ (⟨#[41, 91]⟩ : ByteArray)).size + (ba x).size <= 1073741824 := by simp only [Za, s0, s1, s2, s3, s4, s5, s6, zx, zy]; omega
 have a5 : ((((((⟨#[91]⟩ : ByteArray) ++ (ba x)) ++ (⟨#[93, 40]⟩ : ByteArray)) ++ (ba y)) ++ (⟨#[41, 91]⟩ : ByteArray)) ++ (ba x)).size + (⟨#[93, 91]⟩ : ByteArray).size <= 1073741824 := by simp only [Za, s0, s1, s2, s3, s4, s5, s6, zx, zy]; omega
 have a6 : (((((((⟨#[91]⟩ : ByteArray) ++ (ba x)) ++ (⟨#[93, 40]⟩ : ByteArray)) ++ (ba y)) ++ (⟨#[41, 91]⟩ : ByteArray)) ++ (ba x)) ++ (⟨#[93, 91]⟩ : ByteArray)).size + (ba y).size <= 1073741824 := by simp only [Za, s0, s1, s2, s3, s4, s5, s6, zx, zy]; omega
 have a7 : ((((((((⟨#[91]⟩ : ByteArray) ++ (ba x)) ++ (⟨#[93, 40]⟩ : ByteArray)) ++ (ba y)) ++ (⟨#[41, 91]⟩ : ByteArray)) ++ (ba x)) ++ (⟨#[93, 91]⟩ : ByteArray)) ++ (ba y)).size + (⟨#[93, 91]⟩ : ByteArray).size <= 1073741824 := by simp only [Za, s0, s1, s2, s3, s4, s5, s6, zx, zy]; omega
 have a8 : (((((((((⟨#[91]⟩ : ByteArray) ++ (ba x)) ++ (⟨#[93, 40]⟩ : ByteArray)) ++ (ba y)) ++ (⟨#[41, 91]⟩ : ByteArray)) ++ (ba x)) ++ (⟨#[93, 91]⟩ : ByteArray)) ++ (ba y)) ++ (⟨#[93, 91]⟩ : ByteArray)).size + (ba x).size <= 1073741824 := by simp only [Za, s0, s1, s2, s3, s4, s5, s6, zx, zy]; omega
 have a9 : ((((((((((⟨#[91]⟩ : ByteArray) ++ (ba x)) ++ (⟨#[93, 40]⟩ : ByteArray)) ++ (ba y)) ++ (⟨#[41, 91]⟩ : ByteArray)) ++ (ba x)) ++ (⟨#[93, 91]⟩ : ByteArray)) ++ (ba y)) ++ (⟨#[93, 91]⟩ : ByteArray)) ++ (ba x)).size + (⟨#[93, 123, 46]⟩ : ByteArray).size <= 1073741824 := by simp only [Za, s0, s1, s2, s3, s4, s5, s6, zx, zy]; omega
 have a10 : (((((((((((⟨#[91]⟩ : ByteArray) ++ (ba x)) ++ (⟨#[93, 40]⟩ : ByteArray)) ++ (ba y)) ++ (⟨#[41, 91]⟩ : ByteArray)) ++ (ba x)) ++ (⟨#[93, 91]⟩ : ByteArray)) ++ (ba y)) ++ (⟨#[93, 91]⟩ : ByteArray)) ++ (ba x)) ++ (⟨#[93, 123, 46]⟩ : ByteArray)).size + (ba y).size <= 1073741824 := by simp only [Za, s0, s1, s2, s3, s4, s5, s6, zx, zy]; omega
 have a11 : ((((((((((((⟨#[91]⟩ : ByteArray) ++ (ba x)) ++ (⟨#[93, 40]⟩ : ByteArray)) ++ (ba y)) ++ (⟨#[41, 91]⟩ : ByteArray)) ++ (ba x)) ++ (⟨#[93, 91]⟩ : ByteArray)) ++ (ba y)) ++ (⟨#[93, 91]⟩ : ByteArray)) ++ (ba x)) ++ (⟨#[93, 123, 46]⟩ : ByteArray)) ++ (ba y)).size + (⟨#[125, 91]⟩ : ByteArray).size <= 1073741824 := by simp only [Za, s0, s1, s2, s3, s4, s5, s6, zx, zy]; omega
 have a12 : (((((((((((((⟨#[91]⟩ : ByteArray) ++ (ba x)) ++ (⟨#[93, 40]⟩ : ByteArray)) ++ (ba y)) ++ (⟨#[41, 91]⟩ : ByteArray)) ++ (ba x)) ++ (⟨#[93, 91]⟩ : ByteArray)) ++ (ba y)) ++ (⟨#[93, 91]⟩ : ByteArray)) ++ (ba x)) ++ (⟨#[93, 123, 46]⟩ : ByteArray)) ++ (ba y)) ++ (⟨#[125, 91]⟩ : ByteArray)).size + (ba x).size <= 1073741824 := by simp only [Za, s0, s1, s2, s3, s4, s5, s6, zx, zy]; omega
 have a13 : ((((((((((((((⟨#[91]⟩ : ByteArray) ++ (ba x)) ++ (⟨#[93, 40]⟩ : ByteArray)) ++ (ba y)) ++ (⟨#[41, 91]⟩ : ByteArray)) ++ (ba x)) ++ (⟨#[93, 91]⟩ : ByteArray)) ++ (ba y)) ++ (⟨#[93, 91]⟩ : ByteArray)) ++ (ba x)) ++ (⟨#[93, 123, 46]⟩ : ByteArray)) ++ (ba y)) ++ (⟨#[125, 91]⟩ : ByteArray)) ++ (ba x)).size + (⟨#[93, 123, 61, 101, 109, 112, 104, 125]⟩ : ByteArray).size <= 1073741824 := by simp only [Za, s0, s1, s2, s3, s4, s5, s6, zx, zy]; omega
 have f1 : (0 : Int) <= 0 /\ ((wXs x y).map Va1)[(0 : Int).toNat]? = some (Vaa (mkI 9 e0 (ba y) e0 at0 [txI (ba x)])) := ⟨Int.le_refl _, rfl⟩
 have f2 : (0 : Int) <= 1 /\ ((wXs x y).map Va1)[(1 : Int).toNat]? = some (Vaa (mkI 9 (ba y) e0 e0 at0 [txI (ba x)])) := ⟨by decide, rfl⟩
 have f3 : (0 : Int) <= 2 /\ ((wXs x y).map Va1)[(2 : Int).toNat]? = some (Vaa (mkI 11 e0 e0 e0 ⟨e0, [ba y], []⟩ [txI (ba x)])) := ⟨by decide, rfl⟩
 have f4 : (0 : Int) <= 0 /\ (([ba y] : List ByteArray).map Vam)[(0 : Int).toNat]? = some (Vam (ba y)) := ⟨Int.le_refl _, rfl⟩
 have m1 : (!eqs (ba y) (ba y)) = false := by rw [Vjz]; rfl
 have m3 : ((((([ba y] : List ByteArray).map Vam).length : Nat) : Int) != 1) = false := rfl; refine bG Tryz.func6 ?_; refine gO (tn 2 (kc hx (tn 1 (kc hy (tn 3 (kp (Vc9 q1) (tn 1 (kp (Vc9 q2) (tn 2 (kc p1 (tn 5 (tn 3 (kb (b := ((0 : Int) != 0)) (d := false) rfl (tn 1 (kb (b := ((0 : Int) != 0)) (d := false) rfl (kp u1 (kb (b := ((0 : Int) != 0)) (d := false) rfl (kc k1 (kb (b := ((0 : Int) != 0)) (d := false) rfl (tn 1 (kb (b := ((0 : Int) != 0)) (d := false) rfl (tn 1 (kb (b := !true) (d := false) rfl (tn 1 (kb (b := !true) (d := false) rfl (ke e1 (kb (b := !true) (d := false) rfl (tn 1 (kb (b := !true) (d := false) rfl (tn 1 (kb (b := !true) (d := false) rfl (tn 1 (kb (b := !true) (d := false) rfl (tn 1 (kb (b := !true) (d := false) rfl (kb n1 (tn 1 (kp (Vc9 a0) (kp (Vc9 a1) (tn 1 (kp (Vc9 a2) (kp (Vc9 a3) (tn 1 (kp (Vc9 a4) (kp (Vc9 a5) (tn 1 (kp (Vc9 a6) (kp (Vc9 a7) (tn 1 (kp (Vc9 a8) (kp (Vc9 a9) (tn 1 (kp (Vc9 a10) (kp (Vc9 a11) (tn 1 (kp (Vc9 a12) (kp (Vc9 a13) (kc p2 (tn 5 (tn 1 (kp u4 (kc k2 (tn 2 (kb (b := !true) (d := false) rfl (tn 1 (kb (b := !true) (d := false) rfl (ke f1 (kb (b := !true) (d := false) rfl (tn 1 (kb (b := !true) (d := false) rfl (tn 1 (kb (b := !true) (d := false) rfl (tn 1 (kb (b := !true) (d := false) rfl (tn 1 (kb (b := !true) (d := false) rfl (tn 1 (kb m1 (tn 1 (kb m1 (ke f2 (kb m1 (tn 1 (kb m1 (tn 1 (kb m1 (tn 1 (kb m1 (tn 1 (kb m1 (tn 1 (kb m1 (tn 1 (kb m1 (ke f3 (kb m1 (tn 1 (kb m1 (tn 1 (kb m1 (tn 1 (kb m1 (tn 1 (kb m1 (tn 1 (kb m1 (tn 1 (kb m3 (tn 1 (kb m3 (ke f3 (kb m3 (tn 1 (kb m3 (tn 1 (kb m3 (tn 1 (kb m3 (ke f4 (kb m3 (tn 1 (kb m3 (tn 1 (kb m3 (tn 1 (kb m3 (kb m1 (tn 1 z)))))))))))))))))))))))))))))))))))))))))))))))))))))))))))))))))))))))))))))))))))))))))))))))))))))))))))))))))))))))))))))))) ?_; refine LP (n := 5) (fun N M S => ∃ (v : Nat), v <= 4 /\ 4 - v < N /\ M = () /\ S = sx 120 [(5, jS (ba x)), (10, jL ((wXs x y).map Va1)), (12, jI ((v : Nat) : Int))] [] []) (by kernel_rfl) ⟨0, by omega, by omega, rfl, rfl⟩ (WK (by kernel_rfl)) ?_; rintro n0 M S ⟨v, hv, hF0, rfl, rfl⟩; obtain ⟨n0, rfl⟩ : ∃ k, n0 = k + 1 := ⟨n0 - 1, by omega⟩
 by_cases h1 : v < 4
 ·have hd : decide (((v : Nat) : Int) < 4) = true := dT (by omega)
  have w2 := wrE (((v : Nat) : Int) + 1) ((v + 1 : Nat) : Int) (by omega)
  have hv4 : v < (wXs x y).length := h1
  have hki : (el (wXs x y) v).fKids = [txI (ba x)] := by
   match v, h1 with
   | 0, _ => rfl
   | 1, _ => rfl
   | 2, _ => rfl
   | 3, _ => rfl
  rw [<- hki] at hpl
  have nn : (!eqs (ba x) (ba x)) = false := by rw [Vjz]; rfl
  refine gO (tn 2 (kb hd (tn 2 (ke (Vax (wXs x y) v hv4) (tn 2 (kc hpl (tn 2 (kb nn (tn 1 (kn w2 (tn 1 z))))))))))) ?_; exact AG (m := n0) ⟨v + 1, by omega, by omega, rfl, rfl⟩ (WK (by kernel_rfl)) (by kernel_rfl) (Nat.lt_succ_self _)
 ·have hd : decide (((v : Nat) : Int) < 4) = false := dF (by omega); refine gO (tn 2 (kb hd z)) ?_; refine OUT (tn 0 (kc ha (tn 1 z))) (by kernel_rfl) ?_; exact eN
end Go.Proofs.YthbpjmogdonlkaaGreatDoor
namespace Go.Eng
open Go.ChangeShapes Go.WideShapes Go.ChangeAt Go.RowKit
def U0 (w : World) (b : Nat) : Nat := match w.heap[b]? with
 | some (.cells arr _ _) => arr.size
 | _ => 0
theorem wf0 (w : World) : Wf ⟨U0 w, fun _ => 0, fun _ => none, fun _ => 0, []⟩ w :=
 ⟨fun κ κ' b h => by simp at h, fun κ b h => by simp at h, fun b hb => by simp only [U0]; rw [Array.getElem?_eq_none hb]⟩
theorem law_calls {P : Program} {f : FuncId} {xs : List AV} (h : CallTo P f (xs.map .av) [] [] (jB true) [] []) {W : World} {vs : List Value} (hr : RepL (U0 W) W xs vs) :
  Calls P f vs.toArray W (fun e W' => e = .returned (.bool true) /\ Below W.heap.size W W') := by
 refine (h.2 ⟨U0 W, fun _ => 0, fun _ => none, fun _ => 0, []⟩ W vs (wf0 W) (Veh hr) (by simp) (by simp)).mono ?_; rintro e w' ⟨v, G', rfl, s1, _, s3, _⟩; simp only [jB, RepS, Rep] at s3; rw [s3.1]; exact ⟨rfl, s1.os, s1.toExt.tp, s1.output, s1.size, fun k hk => (s1.stay k hk (by simp)).1⟩
theorem cell_U0 {w : World} {b o : Nat} {v : Value} (h : w.cell? ⟨b, o, none⟩ = some v) : o < U0 w b := by
 unfold U0; simp only [World.cell?] at h
 split at h
 ·rename_i arr e fz hb; rw [hb]; simp only [Option.isSome_none, Bool.false_eq_true, if_false] at h; rcases Nat.lt_or_ge o arr.size with h1 | h1
  ·exact h1
  ·simp [Array.getElem?_eq_none h1] at h
 ·simp at h
end Go.Eng
namespace Go.Proofs.YthbpjmogdonlkaaGreatDoor
open Go Go.Eng Go.ChangeShapes Go.WideShapes Go.ChangeAt Go.RowKit
section
variable {H : Type} (enc : TypeId × Value -> H) (P : Program) (w : World) (sp : Nat -> Bool) (held : Bool)
def Rd (n : Nat) (t : TypeId) {α : Type} (f : α -> List AV) (wt : α -> Nat) : Prop :=
 ∀ cs x, DataW.trod enc P w 0 sp held n t cs = some x -> ∃ a : α, RepL (U0 w) w (f a) cs /\ wt a <= Rows.uptoBulk x.1 /\ ∀ v ∈ cs, v.oneCell' = true
variable {enc P w sp held}
theorem add_add (a : Addr) (i j : Nat) : (a.add i).add j = a.add (i + j) := by
 obtain ⟨b, o, s⟩ := a; unfold Addr.add
 by_cases hi : i = 0
 ·subst hi; simp
 ·by_cases hj : j = 0
  ·subst hj; simp [hi]
  ·simp [hi, hj]; omega
theorem cells_get {a : Addr} {n : Nat} {cs : List Value} (h : w.cells? 0 a n = some cs) : cs.length = n /\ ∀ j, j < n -> w.cell? (a.add j) = cs[j]? := by
 unfold World.cells? at h; rw [if_pos (Nat.zero_le _)] at h; exact ⟨by simpa using mapM_some_length h, fun j hj => mapM_some_get h j j (by simp [hj])⟩
def One (sz : Nat) {α : Type} (f : α -> List AV) (g : α -> AV) : Prop :=
 ∀ (U : Nat -> Nat) (w : World) (a : α) (us : List Value), RepL U w (f a) us -> us.length = sz -> (∀ v ∈ us, v.oneCell' = true) -> ∃ u : Value, Rep U w (g a) u /\ u.cells.toList = us
theorem One_val {α : Type} (g : α -> AV) (v : α -> Value) (hg : ∀ a, g a = .val (v a)) (hc : ∀ a, (v a).cells = #[v a]) : One 1 (fun a => [g a]) g := fun U w a us h _ h1 => by
 simp only [RepL] at h; obtain ⟨u, us', rfl, h2, rfl⟩ := h; refine ⟨u, h2, ?_⟩; rw [hg] at h2; simp only [Rep] at h2; rw [h2.1, hc]
theorem slice_go {e : TypeId} {n sz : Nat} {α : Type} {f : α -> List AV} {g : α -> AV} {wt : α -> Nat} (hc : P.cellsOf e = sz) (hR : Rd enc P w sp held n e f wt) (hO : One sz f g) (a : Addr) :
  ∀ (elems : List (DataW H × List MemPlace)) (i0 : Nat), (∀ i, i < elems.length -> (w.cells? 0 (a.add ((i0 + i) * sz)) sz).bind (DataW.trod enc P w 0 sp held n e) = elems[i]?) ->
   ∃ (l : List α) (es : List Value), RepL (U0 w) w (l.map g) es /\ l.length = elems.length /\ (∀ v ∈ es, v.cells.size = sz) /\ wl wt l <= Rows.uptoBulkAll (elems.map (·.1)) /\
    ∀ j v, (Va0 es)[j]? = some v -> w.cell? (a.add (i0 * sz + j)) = some v /\ v.oneCell' = true
 | [], i0, _ => ⟨[], [], by simp [RepL], rfl, by simp, by simp [wl, Rows.uptoBulkAll], by simp [Va0]⟩
 | x :: elems, i0, h => by
  have h0 := h 0 (by simp); simp only [Nat.add_zero, List.getElem?_cons_zero, Option.bind_eq_some_iff] at h0; obtain ⟨cs, hcs, hx⟩ := h0; obtain ⟨hl, hget⟩ := cells_get hcs; obtain ⟨y, r1, r2, r3⟩ := hR cs x hx; obtain ⟨u, u1, u2⟩ := hO _ _ y cs r1 hl r3
  obtain ⟨l, es, k1, k2, k3, k4, k5⟩ := slice_go hc hR hO a elems (i0 + 1) (fun i hi => by
   have := h (i + 1) (by simpa using hi)
   rw [show i0 + 1 + i = i0 + (i + 1) by omega]; simpa using this)
  have hsz : u.cells.size = sz := by rw [<- Array.length_toList, u2, hl]
  refine ⟨y :: l, u :: es, by simp only [List.map_cons, RepL]; exact ⟨_, _, rfl, u1, k1⟩, by simp [k2], ?_, by simp only [List.map_cons, wl, Rows.uptoBulkAll]; omega, fun j v hj => ?_⟩
  ·intro v hv; simp only [List.mem_cons] at hv; rcases hv with rfl | hv
   ·exact hsz
   ·exact k3 v hv
  ·simp only [Va0, List.flatMap_cons, u2] at hj
   by_cases hjl : j < sz
   ·rw [List.getElem?_append_left (by omega)] at hj
    have := hget j hjl; rw [add_add] at this; exact ⟨by rw [this, hj], r3 v (List.mem_of_getElem? hj)⟩
   ·rw [List.getElem?_append_right (by omega), hl] at hj
    have := k5 (j - sz) v hj; rw [show (i0 + 1) * sz + (j - sz) = i0 * sz + j by rw [Nat.add_mul]; omega] at this; exact this
theorem Rd_slice {t e : TypeId} {n sz : Nat} {α : Type} {f : α -> List AV} {g : α -> AV} {wt : α -> Nat} (ht : P.underlying t = some (.slice e)) (hc : P.cellsOf e = sz) (hz : 0 < sz) (hO : One sz f g) (hR : ∀ m, n = m + 1 -> Rd enc P w sp held m e f wt) :
  Rd enc P w sp held n t (fun l : List α => [.sl (l.map g)]) (wl wt) := fun cs x h => by
 rcases DataW.trod_slice ht h with ⟨rfl, rfl⟩ | ⟨a, len, cap, elems, rest, m, rfl, rfl, rfl, hb, hl, hm, hlen, hel, _, _⟩
 ·exact ⟨[], by simp only [List.map_nil, RepL]; exact ⟨_, _, rfl, Veg _ _, rfl⟩, by simp [wl, Rows.uptoBulk], by intro v hv; simp at hv; subst hv; rfl⟩
 ·obtain ⟨l, es, k1, k2, k3, k4, k5⟩ := slice_go hc (hR m rfl) hO a elems 0 (fun i hi => by rw [Nat.zero_add]; have := hel i (by omega); rw [hc] at this; exact this); refine ⟨l, ?_, by simp only [Rows.uptoBulk]; omega, by intro v hv; simp at hv; subst hv; rfl⟩; simp only [RepL]; refine ⟨_, _, rfl, ?_, rfl⟩; simp only [Rep]
  have hll : (l.map g).length = len := by simp; omega
  have hes : es.length = len := by have := k1.length; omega
  have hfirst : Va0 es ≠ [] -> a.spot = none := by
   intro hne; obtain ⟨v, r, hv⟩ := List.exists_cons_of_ne_nil hne
   have := (k5 0 v (by rw [hv]; rfl)).1; simp only [Nat.zero_mul, Nat.zero_add, Addr.add, if_true, World.cell?] at this
   split at this
   ·cases hs : a.spot with
    | none => rfl
    | some s => rw [hs] at this; simp at this
   ·simp at this
  refine ⟨some a, cap, es, sz, by rw [hll], k1, k3, by simp, by rw [hll]; exact hl, ?_, ?_⟩
  ·rintro hne ad ⟨⟩
   have hsz : sz ≠ 0 := by omega
   refine hfirst (fun q => ?_)
   have hz := Va5 es k3; rw [q] at hz; simp only [List.length_nil] at hz
   have : es.length = 0 := by
    rcases Nat.mul_eq_zero.1 hz.symm with h | h
    ·exact h
    ·exact absurd h hsz
   apply hne
   have : l.length = 0 := by omega
   simp [List.eq_nil_of_length_eq_zero this]
  ·by_cases hne : Va0 es = []
   ·exact .inl hne
   ·right
    have hs := hfirst hne; obtain ⟨b, off, s⟩ := a; simp only at hs; subst hs; refine ⟨b, off, rfl, ?_, fun j v hj => ?_⟩
    ·have hlen : 0 < (Va0 es).length := List.length_pos_iff.2 hne
     have hv := List.getElem?_eq_getElem (l := Va0 es) (i := (Va0 es).length - 1) (by omega)
     have := (k5 _ _ hv).1; rw [Nat.zero_mul, Nat.zero_add, addr_add] at this
     have := cell_U0 this; omega
    ·have := k5 j v hj; rw [Nat.zero_mul, Nat.zero_add, addr_add] at this; exact this
end
end Go.Proofs.YthbpjmogdonlkaaGreatDoor
