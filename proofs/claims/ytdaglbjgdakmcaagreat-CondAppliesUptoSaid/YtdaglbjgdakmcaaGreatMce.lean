/- Texts joined by a program (merge.py). -/
import Derived.Test.YtdaglbjgdakmcaaGreatMcd
import Derived.Test.YtdaglbjgdakmcaaGreatMcb
import Derived.Test.YtdaglbjgdakmcaaGreatMcc
import Derived.KernelRfl
import Derived.Lib.Strings
import Derived.Lib.Builder
import Derived.Lib.UnsafeStr
import Derived.Lib.AppendStr
import Derived.WalkKit
import Derived.Laws.Externs
import Derived.RegionTactic
set_option linter.unusedSimpArgs false
set_option linter.unusedVariables false
set_option maxRecDepth 100000
set_option maxHeartbeats 4000000
namespace Go.Proofs.YtdaglbjgdakmcaaGreat
open Go Go.Eng
structure PR where
 nd : Nd
 pos : Nat
 deep : Int
 ok : Bool
def PR.av (r : PR) : SV := .av (.tup [nav r.nd, .val (.bool r.ok)])
theorem accP_t {t : List ByteArray} {p : Nat} {x : ByteArray} (h : accB t p x = true) : accP t p x = p + 1 ∧ p < t.length := by
 refine ⟨by simp [accP, h], ?_⟩
 simp only [accB, Bool.and_eq_true, decide_eq_true_eq] at h; exact h.1
theorem accP_f {t : List ByteArray} {p : Nat} {x : ByteArray} (h : accB t p x = false) : accP t p x = p := by simp [accP, h]
theorem accP_le (t : List ByteArray) (p : Nat) (x : ByteArray) (h : p ≤ t.length) : p ≤ accP t p x ∧ accP t p x ≤ t.length := by
 cases hb : accB t p x with
 | true => have := accP_t hb; omega
 | false => rw [accP_f hb]; omega
def oneP (rec cnd : Nat → Int → Nat → PR) (t : List ByteArray) (p : Nat) (d : Int) (l : Nat) : PR :=
 if accB t p ⟨#[110, 111, 116]⟩ then ⟨.mk 3 ⟨#[]⟩ [(rec (p + 1) (max d (l : Int)) (l + 1)).nd], (rec (p + 1) (max d (l : Int)) (l + 1)).pos, (rec (p + 1) (max d (l : Int)) (l + 1)).deep, (rec (p + 1) (max d (l : Int)) (l + 1)).ok⟩
 else if accB t p ⟨#[40]⟩ then
  if (cnd (p + 1) (max d (l : Int)) (l + 1)).ok then ⟨(cnd (p + 1) (max d (l : Int)) (l + 1)).nd, accP t (cnd (p + 1) (max d (l : Int)) (l + 1)).pos ⟨#[41]⟩, (cnd (p + 1) (max d (l : Int)) (l + 1)).deep, accB t (cnd (p + 1) (max d (l : Int)) (l + 1)).pos ⟨#[41]⟩⟩
  else ⟨(cnd (p + 1) (max d (l : Int)) (l + 1)).nd, (cnd (p + 1) (max d (l : Int)) (l + 1)).pos, (cnd (p + 1) (max d (l : Int)) (l + 1)).deep, false⟩
 else if accB t p ⟨#[116, 114, 117, 101]⟩ then ⟨.mk 4 ⟨#[]⟩ [], p + 1, max d (l : Int), true⟩
 else if accB t p ⟨#[102, 97, 108, 115, 101]⟩ then ⟨.mk 5 ⟨#[]⟩ [], p + 1, max d (l : Int), true⟩
 else if t.length ≤ p then ⟨nd0, p, max d (l : Int), false⟩
 else if specB (nth t p) then ⟨nd0, p, max d (l : Int), false⟩
 else ⟨.mk 6 (nth t p) [], p + 1, max d (l : Int), true⟩
def mkP (k : Int) (l : List Nd) : Nd := if l.length = 1 then ndth l 0 else .mk k ⟨#[]⟩ l
def listP (opnd : Nat → Int → PR) (word : ByteArray) (k : Int) (t : List ByteArray) : Nat → Nat → Int → List Nd → PR
  | 0, p, d, _ => ⟨nd0, p, d, false⟩
  | m + 1, p, d, acc => if (opnd p d).ok = false then ⟨nd0, (opnd p d).pos, (opnd p d).deep, false⟩
    else if accB t (opnd p d).pos word then listP opnd word k t m ((opnd p d).pos + 1) (opnd p d).deep (acc ++ [(opnd p d).nd])
    else ⟨mkP k (acc ++ [(opnd p d).nd]), (opnd p d).pos, (opnd p d).deep, true⟩
def allP (one : Nat → Int → Nat → PR) (t : List ByteArray) (p : Nat) (d : Int) (l : Nat) : PR := listP (fun p d => one p d l) ⟨#[97, 110, 100]⟩ 2 t (t.length + 1) p d []
def cndP (one : Nat → Int → Nat → PR) (t : List ByteArray) (p : Nat) (d : Int) (l : Nat) : PR := listP (fun p d => allP one t p d l) ⟨#[111, 114]⟩ 1 t (t.length + 1) p d []
def pone (t : List ByteArray) : Nat → Nat → Int → Nat → PR
 | 0 => oneP (fun p d _ => ⟨nd0, p, d, false⟩) (fun p d _ => ⟨nd0, p, d, false⟩) t
 | n + 1 => oneP (pone t n) (cndP (pone t n) t) t
def FairP (t : List ByteArray) (p : Nat) (r : PR) : Prop := p ≤ r.pos ∧ r.pos ≤ t.length ∧ (r.ok = true → p < r.pos)
theorem fairP_one {rec cnd : Nat → Int → Nat → PR} {t : List ByteArray} (hr : ∀ p d l, p ≤ t.length → FairP t p (rec p d l)) (hc : ∀ p d l, p ≤ t.length → FairP t p (cnd p d l)) (p : Nat) (d : Int) (l : Nat) (hp : p ≤ t.length) : FairP t p (oneP rec cnd t p d l) := by
 unfold oneP
 split
 ·rename_i h
  have h1 := (accP_t h).2
  obtain ⟨a, b, c⟩ := hr (p + 1) (max d (l : Int)) (l + 1) (by omega)
  exact ⟨by simp only; omega, b, fun _ => by simp only; omega⟩
 split
 ·rename_i h
  have h1 := (accP_t h).2
  obtain ⟨a, b, c⟩ := hc (p + 1) (max d (l : Int)) (l + 1) (by omega)
  have := accP_le t (cnd (p + 1) (max d (l : Int)) (l + 1)).pos ⟨#[41]⟩ b
  split
  ·exact ⟨by simp only; omega, by simp only; omega, fun _ => by simp only; omega⟩
  ·exact ⟨by simp only; omega, b, fun h => by simp at h⟩
 split
 ·rename_i h; have h1 := (accP_t h).2; exact ⟨by simp only; omega, by simp only; omega, fun _ => by simp only; omega⟩
 split
 ·rename_i h; have h1 := (accP_t h).2; exact ⟨by simp only; omega, by simp only; omega, fun _ => by simp only; omega⟩
 split
 ·exact ⟨by simp only; omega, by simp only; omega, fun h => by simp at h⟩
 split
 ·exact ⟨by simp only; omega, by simp only; omega, fun h => by simp at h⟩
 ·exact ⟨by simp only; omega, by simp only; omega, fun _ => by simp only; omega⟩
theorem fairP_list {opnd : Nat → Int → PR} {word : ByteArray} {k : Int} {t : List ByteArray} (ho : ∀ p d, p ≤ t.length → FairP t p (opnd p d)) (p0 : Nat) : ∀ (m p : Nat) (d : Int) (acc : List Nd), p ≤ t.length → p0 ≤ p → FairP t p0 (listP opnd word k t m p d acc)
 | 0, p, d, acc, hp, h0 => by simp only [listP]; exact ⟨h0, hp, fun h => by simp at h⟩
 | m + 1, p, d, acc, hp, h0 => by
  simp only [listP]
  obtain ⟨a, b, c⟩ := ho p d hp
  split
  ·exact ⟨by simp only; omega, b, fun h => by simp at h⟩
  ·rename_i h1
   have h2 := c (by simpa using h1)
   split
   ·rename_i h3
    have := (accP_t h3).2
    exact fairP_list ho p0 m _ _ _ (by omega) (by omega)
   ·exact ⟨by simp only; omega, b, fun _ => by simp only; omega⟩
theorem fairP_all {one : Nat → Int → Nat → PR} {t : List ByteArray} (h : ∀ p d l, p ≤ t.length → FairP t p (one p d l)) (p : Nat) (d : Int) (l : Nat) (hp : p ≤ t.length) : FairP t p (allP one t p d l) :=
 fairP_list (fun p d hp => h p d l hp) p _ p d [] hp (Nat.le_refl _)
theorem fairP_cnd {one : Nat → Int → Nat → PR} {t : List ByteArray} (h : ∀ p d l, p ≤ t.length → FairP t p (one p d l)) (p : Nat) (d : Int) (l : Nat) (hp : p ≤ t.length) : FairP t p (cndP one t p d l) :=
 fairP_list (fun p d hp => fairP_all h p d l hp) p _ p d [] hp (Nat.le_refl _)
theorem fairP_pone (t : List ByteArray) : ∀ (n p : Nat) (d : Int) (l : Nat), p ≤ t.length → FairP t p (pone t n p d l)
 | 0, p, d, l, hp => fairP_one (fun p d _ hp => ⟨Nat.le_refl _, hp, fun h => by simp at h⟩) (fun p d _ hp => ⟨Nat.le_refl _, hp, fun h => by simp at h⟩) p d l hp
 | n + 1, p, d, l, hp => fairP_one (fairP_pone t n) (fairP_cnd (fairP_pone t n)) p d l hp
end Go.Proofs.YtdaglbjgdakmcaaGreat
namespace Go.Proofs.YtdaglbjgdakmcaaGreat
open Go Go.Eng
set_option maxHeartbeats 2000000 in
theorem accept_to (t : List ByteArray) (p : Nat) (d : Int) (x : ByteArray) (ht : t.length ≤ maxLen) : CallTo Tryz.prog 108 [(.ptr 1000 0), (jS x)] [(1000, (.cells 107 [(jL (t.map strAV)), (jI ((p : Nat) : Int)), (jI d)]))] [] (.av (.val (.bool (accB t p x)))) [(1000, (.cells 107 [(jL (t.map strAV)), (jI ((accP t p x : Nat) : Int)), (jI d)]))] [] := by
 unfold maxLen at ht
 have hml := mlen t
 refine CallTo_of_body (n := 36) Tryz.func108 rfl (by kernel_rfl) Tryz.ntmps108 (by simp) (by simp) (by simp) (by simp [OkSV, SV.keys, ABox.svs, PV.keys]) (by simp [OkSV, SV.keys, ABox.svs, PV.keys]) (by simp [OkSV, SV.keys, ABox.svs, PV.keys]) (by simp [OkSV, SV.keys, ABox.svs, PV.keys]) rfl rfl ?_
 refine W_eq (sx 36 [(0, (.ptr 1000 0)), (1, (jS x))] [(1000, (.cells 107 [(jL (t.map strAV)), (jI ((p : Nat) : Int)), (jI d)]))] []) (by kernel_rfl) ?_
 refine WN ?_
 refine GO (tn 1 z) (by kernel_rfl) ?_
 rcases Bool.eq_false_or_eq_true (decide (((p : Nat) : Int) < (((t.map strAV).length : Nat) : Int))) with hb1 | hb1
 ·have hb1p := of_decide_eq_true hb1
  have d2 := (show 0 ≤ ((p : Nat) : Int) ∧ ((t.map strAV) : List AV)[p]? = some (vS (nth t p)) from (nth_at (by assumption)))
  refine DR3 (tn 11 (ko (.b true) (kp (show decide (((p : Nat) : Int) < (((t.map strAV).length : Nat) : Int)) = true from hb1) (tn 1 (ko (.b true) (kp (show decide (((p : Nat) : Int) < (((t.map strAV).length : Nat) : Int)) = true from hb1) (tn 1 (ko (.b true) (kp (show decide (((p : Nat) : Int) < (((t.map strAV).length : Nat) : Int)) = true from hb1) (tn 1 (ko (.b true) (kp (show decide (((p : Nat) : Int) < (((t.map strAV).length : Nat) : Int)) = true from hb1) (tn 1 (ko (.b true) (kp (show decide (((p : Nat) : Int) < (((t.map strAV).length : Nat) : Int)) = true from hb1) (tn 1 (ko (.b true) (kp (show decide (((p : Nat) : Int) < (((t.map strAV).length : Nat) : Int)) = true from hb1) (tn 1 (ko (.b true) (kp (show decide (((p : Nat) : Int) < (((t.map strAV).length : Nat) : Int)) = true from hb1) (tn 1 (ko (.b true) (kp (show decide (((p : Nat) : Int) < (((t.map strAV).length : Nat) : Int)) = true from hb1) (tn 1 (ko (.b true) (kp (show decide (((p : Nat) : Int) < (((t.map strAV).length : Nat) : Int)) = true from hb1) (ko (eO d2) (kp d2 (ko (.b true) (kp (show decide (((p : Nat) : Int) < (((t.map strAV).length : Nat) : Int)) = true from hb1) (tn 1 (ko (.b true) (kp (show decide (((p : Nat) : Int) < (((t.map strAV).length : Nat) : Int)) = true from hb1) (tn 1 (ko (.b true) (kp (show decide (((p : Nat) : Int) < (((t.map strAV).length : Nat) : Int)) = true from hb1) (tn 1 (ko (.b true) (kp hb1 z)))))))))))))))))))))))))))))))))))))))) (by kernel_rfl) (by kernel_rfl) (by kernel_rfl) ?_
  rcases Bool.eq_false_or_eq_true (eqs (nth t p) x) with hb3 | hb3
  ·refine GO (kb hb3 (tn 4 (kn (wrE (((p : Nat) : Int) + 1) ((p + 1 : Nat) : Int) (by omega)) (tn 4 z)))) (by kernel_rfl) ?_
   exact LEAF .ret (S2 := (sx 36 [(4, (jB true))] [(1000, (.cells 107 [(jL (t.map strAV)), (jI ((p + 1 : Nat) : Int)), (jI d)]))] [])) (by kernel_rfl) (WK (by kernel_rfl)) (ends (r := (jB true)) (by simp) (by kernel_rfl) (bres (by rw [accB_in x (by omega)]; simp_all)) (by simp_all [sx, accP, accB_in x (show p < t.length by omega)]; done) (by simp))
  ·refine GO (kb hb3 (tn 1 z)) (by kernel_rfl) ?_
   exact LEAF .ret (S2 := (sx 36 [(4, (jB false))] [(1000, (.cells 107 [(jL (t.map strAV)), (jI ((p : Nat) : Int)), (jI d)]))] [])) (by kernel_rfl) (WK (by kernel_rfl)) (ends (r := (jB false)) (by simp) (by kernel_rfl) (bres (by rw [accB_in x (by omega)]; simp_all)) (by simp_all [sx, accP, accB_in x (show p < t.length by omega)]; done) (by simp))
 ·have hb1p := of_decide_eq_false hb1
  refine DR3 (tn 11 (ko (.b false) (kp (show decide (((p : Nat) : Int) < (((t.map strAV).length : Nat) : Int)) = false from hb1) (ko (.b false) (kp (show decide (((p : Nat) : Int) < (((t.map strAV).length : Nat) : Int)) = false from hb1) (ko (.b false) (kp (show decide (((p : Nat) : Int) < (((t.map strAV).length : Nat) : Int)) = false from hb1) (ko (.b false) (kp (show decide (((p : Nat) : Int) < (((t.map strAV).length : Nat) : Int)) = false from hb1) (ko (.b false) (kp (show decide (((p : Nat) : Int) < (((t.map strAV).length : Nat) : Int)) = false from hb1) (ko (.b false) (kp (show decide (((p : Nat) : Int) < (((t.map strAV).length : Nat) : Int)) = false from hb1) (ko (.b false) (kp (show decide (((p : Nat) : Int) < (((t.map strAV).length : Nat) : Int)) = false from hb1) (ko (.b false) (kp (show decide (((p : Nat) : Int) < (((t.map strAV).length : Nat) : Int)) = false from hb1) (ko (.b false) (kp (show decide (((p : Nat) : Int) < (((t.map strAV).length : Nat) : Int)) = false from hb1) (ko (.b false) (kp (show decide (((p : Nat) : Int) < (((t.map strAV).length : Nat) : Int)) = false from hb1) (ko (.b false) (kp (show decide (((p : Nat) : Int) < (((t.map strAV).length : Nat) : Int)) = false from hb1) (ko (.b false) (kp (show decide (((p : Nat) : Int) < (((t.map strAV).length : Nat) : Int)) = false from hb1) (ko (.b false) (kp hb1 (kb ff (tn 1 z))))))))))))))))))))))))))))) (by kernel_rfl) (by kernel_rfl) (by kernel_rfl) ?_
  exact LEAF .ret (S2 := (sx 36 [(4, (jB false))] [(1000, (.cells 107 [(jL (t.map strAV)), (jI ((p : Nat) : Int)), (jI d)]))] [])) (by kernel_rfl) (WK (by kernel_rfl)) (ends (r := (jB false)) (by simp) (by kernel_rfl) (bres (by rw [accB_out x (by omega)])) (by simp [sx, accP, accB_out x (show ¬ p < t.length by omega)]; done) (by simp))
theorem accept_t (t : List ByteArray) (p : Nat) (d : Int) (x : ByteArray) (ht : t.length ≤ maxLen) (h : accB t p x = true) : CallTo Tryz.prog 108 [(jP 1000 0), (jS x)] [(1000, (.cells 107 [(jL (t.map strAV)), (jI ((p : Nat) : Int)), (jI d)]))] [] (jB true) [(1000, (.cells 107 [(jL (t.map strAV)), (jI ((p + 1 : Nat) : Int)), (jI d)]))] [] := by
 have h1 := accept_to t p d x ht
 rw [h, (accP_t h).1] at h1; exact h1
theorem accept_f (t : List ByteArray) (p : Nat) (d : Int) (x : ByteArray) (ht : t.length ≤ maxLen) (h : accB t p x = false) : CallTo Tryz.prog 108 [(jP 1000 0), (jS x)] [(1000, (.cells 107 [(jL (t.map strAV)), (jI ((p : Nat) : Int)), (jI d)]))] [] (jB false) [(1000, (.cells 107 [(jL (t.map strAV)), (jI ((p : Nat) : Int)), (jI d)]))] [] := by
 have h1 := accept_to t p d x ht
 rw [h, accP_f h] at h1; exact h1
set_option maxHeartbeats 2000000 in
theorem plistA_to (t : List ByteArray) (ht : t.length ≤ 4096) (opnd : Nat → Int → PR) (w : ByteArray) (k : Int) (p0 : Nat) (d0 : Int) (l : Nat) (hp0 : p0 ≤ t.length) (hop : ∀ p d, p ≤ t.length → FairP t p (opnd p d)) (hcall : ∀ p d, p0 ≤ p → p ≤ t.length → CallTo Tryz.prog 86 [(jP 1000 0), (jI ((l : Nat) : Int))] [(1000, (.cells 107 [(jL (t.map strAV)), (jI ((p : Nat) : Int)), (jI d)]))] [] (PR.av (opnd p d)) [(1000, (.cells 107 [(jL (t.map strAV)), (jI (((opnd p d).pos : Nat) : Int)), (jI ((opnd p d).deep))]))] []) : CallTo Tryz.prog 85 [(.ptr 1000 0), (jS w), (jI k), (jI ((l : Nat) : Int)), (.fn 86 [(.ptr 1000 0)] [])] [(1000, (.cells 107 [(jL (t.map strAV)), (jI ((p0 : Nat) : Int)), (jI d0)]))] [] (PR.av (listP opnd w k t (t.length + 1) p0 d0 ([]))) [(1000, (.cells 107 [(jL (t.map strAV)), (jI (((listP opnd w k t (t.length + 1) p0 d0 ([])).pos : Nat) : Int)), (jI ((listP opnd w k t (t.length + 1) p0 d0 ([])).deep))]))] [] := by
 have hml := mlen t
 refine CallTo_of_body (n := 41) Tryz.func85 rfl (by kernel_rfl) Tryz.ntmps85 (by simp) (by simp) (by simp) (by simp [OkSV, SV.keys, ABox.svs, PV.keys, PR.av]) (by simp [OkSV, SV.keys, ABox.svs, PV.keys, PR.av]) (by simp [OkSV, SV.keys, ABox.svs, PV.keys, PR.av]) (by simp [OkSV, SV.keys, ABox.svs, PV.keys, PR.av]) rfl rfl ?_
 refine W_eq (sx 41 [(0, (.ptr 1000 0)), (1, (jS w)), (2, (jI k)), (3, (jI ((l : Nat) : Int))), (4, (.fn 86 [(.ptr 1000 0)] []))] [(1000, (.cells 107 [(jL (t.map strAV)), (jI ((p0 : Nat) : Int)), (jI d0)]))] []) (by kernel_rfl) ?_
 refine WN ?_
 refine GO (tn 3 z) (by kernel_rfl) ?_
 refine LP (I := fun N M S => ∃ p : Nat, ∃ d : Int, ∃ n : Nat, ∃ g : Nat, ∃ acc : List Nd, (p0 ≤ p) ∧ (p ≤ t.length) ∧ (n ≤ p) ∧ (acc.length ≤ n) ∧ (listP opnd w k t (t.length + 1 - n) p d acc = listP opnd w k t (t.length + 1) p0 d0 ([])) ∧ N = t.length - p ∧ M = () ∧ S = (sx 41 [(0, (.ptr 1000 0)), (1, (jS w)), (2, (jI k)), (3, (jI ((l : Nat) : Int))), (4, (.fn 86 [(.ptr 1000 0)] [])), (10, (.ptr 10 0)), (12, (.own (200, 78) g 3 (av2 acc)))] [(10, (.cells 77 [(jI 0), (jS (⟨#[]⟩)), .nil])), (1000, (.cells 107 [(jL (t.map strAV)), (jI ((p : Nat) : Int)), (jI d)]))] [((200, 78), g)])) (n := t.length - p0) (by kernel_rfl) ⟨p0, d0, 0, 0, [], Nat.le_refl _, by omega, Nat.zero_le _, Nat.le_refl _, by rw [Nat.sub_zero], rfl, rfl, rfl⟩ (wtr (S' := (sx 41 [(0, (.ptr 1000 0)), (1, (jS w)), (2, (jI k)), (3, (jI ((l : Nat) : Int))), (4, (.fn 86 [(.ptr 1000 0)] [])), (10, (.ptr 10 0)), (12, .nil)] [(10, (.cells 77 [(jI 0), (jS (⟨#[]⟩)), .nil])), (1000, (.cells 107 [(jL (t.map strAV)), (jI ((p0 : Nat) : Int)), (jI d0)]))] [])) (WK (by kernel_rfl)) (weak_sx (show WkX _ _ _ from ⟨rfl, rfl, rfl, rfl, rfl, rfl, ⟨rfl, by decide, rfl⟩, trivial⟩) (show WkBx _ _ from ⟨⟨rfl, ⟨rfl, rfl, rfl, trivial⟩⟩, ⟨rfl, ⟨rfl, (by rfl), (by rfl), trivial⟩⟩, trivial⟩) (show WkG _ _ _ from ⟨(by rfl), trivial⟩))) ?_
 rintro N M S ⟨p, d, n, g, acc, hp0, hp, hn, hA, hE, rfl, rfl, rfl⟩
 obtain ⟨hf1, hf2, hf3⟩ := hop p d hp
 refine GO (tn 2 (kg (hcall p d (by omega) (by omega)) trivial (tn 8 z))) (by kernel_rfl) ?_
 rcases Bool.eq_false_or_eq_true (!PR.ok (opnd p d)) with hb1 | hb1
 ·have hb1n : PR.ok (opnd p d) = false := by simpa using hb1
  refine GO (kb hb1 (tn 3 z)) (by kernel_rfl) ?_
  refine OUT z (by kernel_rfl) ?_
  exact LEAF .ret (S2 := (sx 41 [(10, (.ptr 10 0)), (11, (jB false))] [(10, (.cells 77 [(jI 0), (jS (⟨#[]⟩)), .nil])), (1000, (.cells 107 [(jL (t.map strAV)), (jI (((opnd p d).pos : Nat) : Int)), (jI ((opnd p d).deep))]))] [((200, 78), g)])) (by kernel_rfl) (WK (by kernel_rfl)) (ends (r := (.av (.tup [(.agg [(vI 0), (vS (⟨#[]⟩)), (.sl [])]), (vB false)]))) (by simp) (by kernel_rfl) (by rw [← hE, show t.length + 1 - n = t.length + 1 - (n + 1) + 1 by omega, listP]; rw [if_pos (by simp [*])]; rfl) (by rw [← hE, show t.length + 1 - n = t.length + 1 - (n + 1) + 1 by omega, listP]; rw [if_pos hb1n]; simp [sx, List.lookup_cons]) (by simp))
 ·have hb1n : PR.ok (opnd p d) = true := by simpa using hb1
  have hf4 := hf3 hb1n
  rcases Bool.eq_false_or_eq_true (accB t ((opnd p d).pos) w) with hb2 | hb2
  ·have hb2l := (accP_t hb2).2
   refine GO (kb hb1 (tn 2 (kp (show Uni 3 [(.agg [(vI (Nd.kind (PR.nd (opnd p d)))), (vS (Nd.name (PR.nd (opnd p d)))), (.sl (av2 (Nd.kids (PR.nd (opnd p d)))))])] from (by simp [Uni, AV.cells, AV.isTup])) (kp (show (g : Nat) = g ∧ Uni 3 [(.agg [(vI (Nd.kind (PR.nd (opnd p d)))), (vS (Nd.name (PR.nd (opnd p d)))), (.sl (av2 (Nd.kids (PR.nd (opnd p d)))))])] ∧ (((av2 acc) : List AV).length + ([(.agg [(vI (Nd.kind (PR.nd (opnd p d)))), (vS (Nd.name (PR.nd (opnd p d)))), (.sl (av2 (Nd.kids (PR.nd (opnd p d)))))])] : List AV).length) * 48 ≤ 140737488355328 from ⟨rfl, (by simp [Uni, AV.cells, AV.isTup]), by simp only [List.length_append, List.length_cons, List.length_nil, av2_len]; omega⟩) (kw (show (((av2 acc) ++ [(.agg [(vI (Nd.kind (PR.nd (opnd p d)))), (vS (Nd.name (PR.nd (opnd p d)))), (.sl (av2 (Nd.kids (PR.nd (opnd p d)))))])]) : List AV) = _ from rfl) (tn 3 (kg (accept_t t ((opnd p d).pos) ((opnd p d).deep) w (by unfold maxLen; omega) hb2) trivial (tn 1 (kb ff z))))))))) (by kernel_rfl) ?_
   exact AG (m := t.length - ((opnd p d).pos + 1)) ⟨(opnd p d).pos + 1, (opnd p d).deep, n + 1, g + 1, acc ++ [PR.nd (opnd p d)], by omega, by omega, by omega, by simp; omega, by rw [← hE, show t.length + 1 - n = t.length + 1 - (n + 1) + 1 by omega, listP, if_neg (by simp [*]), if_pos (by simp [*])], rfl, rfl, rfl⟩ (wtr (S' := (sx 41 [(0, (.ptr 1000 0)), (1, (jS w)), (2, (jI k)), (3, (jI ((l : Nat) : Int))), (4, (.fn 86 [(.ptr 1000 0)] [])), (10, (.ptr 10 0)), (12, (.own (200, 78) (g + 1) 3 ((av2 acc) ++ [(.agg [(vI (Nd.kind (PR.nd (opnd p d)))), (vS (Nd.name (PR.nd (opnd p d)))), (.sl (av2 (Nd.kids (PR.nd (opnd p d)))))])])))] [(10, (.cells 77 [(jI 0), (jS (⟨#[]⟩)), .nil])), (1000, (.cells 107 [(jL (t.map strAV)), (jI (((opnd p d).pos + 1 : Nat) : Int)), (jI ((opnd p d).deep))]))] [((200, 78), g + 1)])) (WK (by kernel_rfl)) (weak_sx (show WkX _ _ _ from ⟨rfl, rfl, rfl, rfl, rfl, rfl, ⟨rfl, (by omega), rfl, (by exact av2_app _ _)⟩, trivial⟩) (show WkBx _ _ from ⟨⟨rfl, ⟨rfl, rfl, rfl, trivial⟩⟩, ⟨rfl, ⟨rfl, (by rfl), (by rfl), trivial⟩⟩, trivial⟩) (show WkG _ _ _ from ⟨(by omega), (by omega), trivial⟩))) (by kernel_rfl) (by omega)
  ·refine GO (kb hb1 (tn 2 (kp (show Uni 3 [(.agg [(vI (Nd.kind (PR.nd (opnd p d)))), (vS (Nd.name (PR.nd (opnd p d)))), (.sl (av2 (Nd.kids (PR.nd (opnd p d)))))])] from (by simp [Uni, AV.cells, AV.isTup])) (kp (show (g : Nat) = g ∧ Uni 3 [(.agg [(vI (Nd.kind (PR.nd (opnd p d)))), (vS (Nd.name (PR.nd (opnd p d)))), (.sl (av2 (Nd.kids (PR.nd (opnd p d)))))])] ∧ (((av2 acc) : List AV).length + ([(.agg [(vI (Nd.kind (PR.nd (opnd p d)))), (vS (Nd.name (PR.nd (opnd p d)))), (.sl (av2 (Nd.kids (PR.nd (opnd p d)))))])] : List AV).length) * 48 ≤ 140737488355328 from ⟨rfl, (by simp [Uni, AV.cells, AV.isTup]), by simp only [List.length_append, List.length_cons, List.length_nil, av2_len]; omega⟩) (kw (show (((av2 acc) ++ [(.agg [(vI (Nd.kind (PR.nd (opnd p d)))), (vS (Nd.name (PR.nd (opnd p d)))), (.sl (av2 (Nd.kids (PR.nd (opnd p d)))))])]) : List AV) = _ from rfl) (tn 3 (kg (accept_f t ((opnd p d).pos) ((opnd p d).deep) w (by unfold maxLen; omega) hb2) trivial (tn 1 (kb tt z))))))))) (by kernel_rfl) ?_
   refine OUT (tn 3 z) (by kernel_rfl) ?_
   rcases Bool.eq_false_or_eq_true (((((av2 acc) ++ [(.agg [(vI (Nd.kind (PR.nd (opnd p d)))), (vS (Nd.name (PR.nd (opnd p d)))), (.sl (av2 (Nd.kids (PR.nd (opnd p d)))))])] : List AV).length : Nat) : Int) == 1) with hb3 | hb3
   ·have hb3p := eq_of_beq hb3
    have hLn :  (acc ++ [PR.nd (opnd p d)]).length = 1 := by have h1 := hb3p; simp only [List.length_append, List.length_cons, List.length_nil, av2_len] at h1 ⊢; omega
    refine GO (kb hb3 (tn 1 (ke (show 0 ≤ (0 : Int) ∧ (((av2 acc) ++ [(.agg [(vI (Nd.kind (PR.nd (opnd p d)))), (vS (Nd.name (PR.nd (opnd p d)))), (.sl (av2 (Nd.kids (PR.nd (opnd p d)))))])]) : List AV)[0]? = some (.agg [(vI (Nd.kind (ndth (acc ++ [PR.nd (opnd p d)]) 0))), (vS (Nd.name (ndth (acc ++ [PR.nd (opnd p d)]) 0))), (.sl (av2 (Nd.kids (ndth (acc ++ [PR.nd (opnd p d)]) 0))))]) from (by rw [show (((av2 acc) ++ [(.agg [(vI (Nd.kind (PR.nd (opnd p d)))), (vS (Nd.name (PR.nd (opnd p d)))), (.sl (av2 (Nd.kids (PR.nd (opnd p d)))))])]) : List AV) = av2 (acc ++ [PR.nd (opnd p d)]) from (by exact av2_app _ _)]; exact av2_at (i := 0) (by omega))) (tn 3 z)))) (by kernel_rfl) ?_
    exact LEAF .ret (S2 := (sx 41 [(10, (.ptr 10 0)), (11, (jB true))] [(10, (.cells 77 [(jI (Nd.kind (ndth (acc ++ [PR.nd (opnd p d)]) 0))), (jS (Nd.name (ndth (acc ++ [PR.nd (opnd p d)]) 0))), (jL (av2 (Nd.kids (ndth (acc ++ [PR.nd (opnd p d)]) 0))))])), (1000, (.cells 107 [(jL (t.map strAV)), (jI (((opnd p d).pos : Nat) : Int)), (jI ((opnd p d).deep))]))] [((200, 78), g + 1)])) (by kernel_rfl) (WK (by kernel_rfl)) (ends (r := (.av (.tup [(.agg [(vI (Nd.kind (ndth (acc ++ [PR.nd (opnd p d)]) 0))), (vS (Nd.name (ndth (acc ++ [PR.nd (opnd p d)]) 0))), (.sl (av2 (Nd.kids (ndth (acc ++ [PR.nd (opnd p d)]) 0))))]), (vB true)]))) (by simp) (by kernel_rfl) (by rw [← hE, show t.length + 1 - n = t.length + 1 - (n + 1) + 1 by omega, listP]; rw [if_neg (by simp [*]), if_neg (by simp [*])]; simp only [PR.av, mkP]; first | (rw [if_pos hLn]; rfl) | (rw [if_neg hLn, if_neg hLn]; rfl)) (by rw [← hE, show t.length + 1 - n = t.length + 1 - (n + 1) + 1 by omega, listP]; rw [if_neg (by rw [hb1n]; simp), if_neg (by simp [*])]; simp [sx, List.lookup_cons, *]) (by simp))
   ·have hb3p := ne_of_beq_false hb3
    have hLn : ¬ (acc ++ [PR.nd (opnd p d)]).length = 1 := by have h1 := hb3p; simp only [List.length_append, List.length_cons, List.length_nil, av2_len] at h1 ⊢; omega
    refine GO (kb hb3 (tn 5 z)) (by kernel_rfl) ?_
    exact LEAF .ret (S2 := (sx 41 [(10, (.ptr 10 0)), (11, (jB true))] [(10, (.cells 77 [(jI k), (jS (⟨#[]⟩)), (jL ((av2 acc) ++ [(.agg [(vI (Nd.kind (PR.nd (opnd p d)))), (vS (Nd.name (PR.nd (opnd p d)))), (.sl (av2 (Nd.kids (PR.nd (opnd p d)))))])]))])), (1000, (.cells 107 [(jL (t.map strAV)), (jI (((opnd p d).pos : Nat) : Int)), (jI ((opnd p d).deep))]))] [((200, 78), g + 1)])) (by kernel_rfl) (WK (by kernel_rfl)) (ends (r := (.av (.tup [(.agg [(vI k), (vS (⟨#[]⟩)), (.sl ((av2 acc) ++ [(.agg [(vI (Nd.kind (PR.nd (opnd p d)))), (vS (Nd.name (PR.nd (opnd p d)))), (.sl (av2 (Nd.kids (PR.nd (opnd p d)))))])]))]), (vB true)]))) (by simp) (by kernel_rfl) (by rw [← hE, show t.length + 1 - n = t.length + 1 - (n + 1) + 1 by omega, listP]; rw [if_neg (by simp [*]), if_neg (by simp [*])]; simp only [PR.av, mkP]; first | (rw [if_pos hLn]; rfl) | (rw [if_neg hLn, show (((av2 acc) ++ [(.agg [(vI (Nd.kind (PR.nd (opnd p d)))), (vS (Nd.name (PR.nd (opnd p d)))), (.sl (av2 (Nd.kids (PR.nd (opnd p d)))))])]) : List AV) = av2 (acc ++ [PR.nd (opnd p d)]) from (by exact av2_app _ _)]; rfl)) (by rw [← hE, show t.length + 1 - n = t.length + 1 - (n + 1) + 1 by omega, listP]; rw [if_neg (by rw [hb1n]; simp), if_neg (by simp [*])]; simp [sx, List.lookup_cons, *]) (by simp))
set_option maxHeartbeats 2000000 in
theorem plistO_to (t : List ByteArray) (ht : t.length ≤ 4096) (opnd : Nat → Int → PR) (w : ByteArray) (k : Int) (p0 : Nat) (d0 : Int) (l : Nat) (hp0 : p0 ≤ t.length) (hop : ∀ p d, p ≤ t.length → FairP t p (opnd p d)) (hcall : ∀ p d, p0 ≤ p → p ≤ t.length → CallTo Tryz.prog 109 [(jP 1000 0), (jI ((l : Nat) : Int))] [(1000, (.cells 107 [(jL (t.map strAV)), (jI ((p : Nat) : Int)), (jI d)]))] [] (PR.av (opnd p d)) [(1000, (.cells 107 [(jL (t.map strAV)), (jI (((opnd p d).pos : Nat) : Int)), (jI ((opnd p d).deep))]))] []) : CallTo Tryz.prog 85 [(.ptr 1000 0), (jS w), (jI k), (jI ((l : Nat) : Int)), (.fn 109 [(.ptr 1000 0)] [])] [(1000, (.cells 107 [(jL (t.map strAV)), (jI ((p0 : Nat) : Int)), (jI d0)]))] [] (PR.av (listP opnd w k t (t.length + 1) p0 d0 ([]))) [(1000, (.cells 107 [(jL (t.map strAV)), (jI (((listP opnd w k t (t.length + 1) p0 d0 ([])).pos : Nat) : Int)), (jI ((listP opnd w k t (t.length + 1) p0 d0 ([])).deep))]))] [] := by
 have hml := mlen t
 refine CallTo_of_body (n := 41) Tryz.func85 rfl (by kernel_rfl) Tryz.ntmps85 (by simp) (by simp) (by simp) (by simp [OkSV, SV.keys, ABox.svs, PV.keys, PR.av]) (by simp [OkSV, SV.keys, ABox.svs, PV.keys, PR.av]) (by simp [OkSV, SV.keys, ABox.svs, PV.keys, PR.av]) (by simp [OkSV, SV.keys, ABox.svs, PV.keys, PR.av]) rfl rfl ?_
 refine W_eq (sx 41 [(0, (.ptr 1000 0)), (1, (jS w)), (2, (jI k)), (3, (jI ((l : Nat) : Int))), (4, (.fn 109 [(.ptr 1000 0)] []))] [(1000, (.cells 107 [(jL (t.map strAV)), (jI ((p0 : Nat) : Int)), (jI d0)]))] []) (by kernel_rfl) ?_
 refine WN ?_
 refine GO (tn 3 z) (by kernel_rfl) ?_
 refine LP (I := fun N M S => ∃ p : Nat, ∃ d : Int, ∃ n : Nat, ∃ g : Nat, ∃ acc : List Nd, (p0 ≤ p) ∧ (p ≤ t.length) ∧ (n ≤ p) ∧ (acc.length ≤ n) ∧ (listP opnd w k t (t.length + 1 - n) p d acc = listP opnd w k t (t.length + 1) p0 d0 ([])) ∧ N = t.length - p ∧ M = () ∧ S = (sx 41 [(0, (.ptr 1000 0)), (1, (jS w)), (2, (jI k)), (3, (jI ((l : Nat) : Int))), (4, (.fn 109 [(.ptr 1000 0)] [])), (10, (.ptr 10 0)), (12, (.own (200, 78) g 3 (av2 acc)))] [(10, (.cells 77 [(jI 0), (jS (⟨#[]⟩)), .nil])), (1000, (.cells 107 [(jL (t.map strAV)), (jI ((p : Nat) : Int)), (jI d)]))] [((200, 78), g)])) (n := t.length - p0) (by kernel_rfl) ⟨p0, d0, 0, 0, [], Nat.le_refl _, by omega, Nat.zero_le _, Nat.le_refl _, by rw [Nat.sub_zero], rfl, rfl, rfl⟩ (wtr (S' := (sx 41 [(0, (.ptr 1000 0)), (1, (jS w)), (2, (jI k)), (3, (jI ((l : Nat) : Int))), (4, (.fn 109 [(.ptr 1000 0)] [])), (10, (.ptr 10 0)), (12, .nil)] [(10, (.cells 77 [(jI 0), (jS (⟨#[]⟩)), .nil])), (1000, (.cells 107 [(jL (t.map strAV)), (jI ((p0 : Nat) : Int)), (jI d0)]))] [])) (WK (by kernel_rfl)) (weak_sx (show WkX _ _ _ from ⟨rfl, rfl, rfl, rfl, rfl, rfl, ⟨rfl, by decide, rfl⟩, trivial⟩) (show WkBx _ _ from ⟨⟨rfl, ⟨rfl, rfl, rfl, trivial⟩⟩, ⟨rfl, ⟨rfl, (by rfl), (by rfl), trivial⟩⟩, trivial⟩) (show WkG _ _ _ from ⟨(by rfl), trivial⟩))) ?_
 rintro N M S ⟨p, d, n, g, acc, hp0, hp, hn, hA, hE, rfl, rfl, rfl⟩
 obtain ⟨hf1, hf2, hf3⟩ := hop p d hp
 refine GO (tn 2 (kg (hcall p d (by omega) (by omega)) trivial (tn 8 z))) (by kernel_rfl) ?_
 rcases Bool.eq_false_or_eq_true (!PR.ok (opnd p d)) with hb1 | hb1
 ·have hb1n : PR.ok (opnd p d) = false := by simpa using hb1
  refine GO (kb hb1 (tn 3 z)) (by kernel_rfl) ?_
  refine OUT z (by kernel_rfl) ?_
  exact LEAF .ret (S2 := (sx 41 [(10, (.ptr 10 0)), (11, (jB false))] [(10, (.cells 77 [(jI 0), (jS (⟨#[]⟩)), .nil])), (1000, (.cells 107 [(jL (t.map strAV)), (jI (((opnd p d).pos : Nat) : Int)), (jI ((opnd p d).deep))]))] [((200, 78), g)])) (by kernel_rfl) (WK (by kernel_rfl)) (ends (r := (.av (.tup [(.agg [(vI 0), (vS (⟨#[]⟩)), (.sl [])]), (vB false)]))) (by simp) (by kernel_rfl) (by rw [← hE, show t.length + 1 - n = t.length + 1 - (n + 1) + 1 by omega, listP]; rw [if_pos (by simp [*])]; rfl) (by rw [← hE, show t.length + 1 - n = t.length + 1 - (n + 1) + 1 by omega, listP]; rw [if_pos hb1n]; simp [sx, List.lookup_cons]) (by simp))
 ·have hb1n : PR.ok (opnd p d) = true := by simpa using hb1
  have hf4 := hf3 hb1n
  rcases Bool.eq_false_or_eq_true (accB t ((opnd p d).pos) w) with hb2 | hb2
  ·have hb2l := (accP_t hb2).2
   refine GO (kb hb1 (tn 2 (kp (show Uni 3 [(.agg [(vI (Nd.kind (PR.nd (opnd p d)))), (vS (Nd.name (PR.nd (opnd p d)))), (.sl (av2 (Nd.kids (PR.nd (opnd p d)))))])] from (by simp [Uni, AV.cells, AV.isTup])) (kp (show (g : Nat) = g ∧ Uni 3 [(.agg [(vI (Nd.kind (PR.nd (opnd p d)))), (vS (Nd.name (PR.nd (opnd p d)))), (.sl (av2 (Nd.kids (PR.nd (opnd p d)))))])] ∧ (((av2 acc) : List AV).length + ([(.agg [(vI (Nd.kind (PR.nd (opnd p d)))), (vS (Nd.name (PR.nd (opnd p d)))), (.sl (av2 (Nd.kids (PR.nd (opnd p d)))))])] : List AV).length) * 48 ≤ 140737488355328 from ⟨rfl, (by simp [Uni, AV.cells, AV.isTup]), by simp only [List.length_append, List.length_cons, List.length_nil, av2_len]; omega⟩) (kw (show (((av2 acc) ++ [(.agg [(vI (Nd.kind (PR.nd (opnd p d)))), (vS (Nd.name (PR.nd (opnd p d)))), (.sl (av2 (Nd.kids (PR.nd (opnd p d)))))])]) : List AV) = _ from rfl) (tn 3 (kg (accept_t t ((opnd p d).pos) ((opnd p d).deep) w (by unfold maxLen; omega) hb2) trivial (tn 1 (kb ff z))))))))) (by kernel_rfl) ?_
   exact AG (m := t.length - ((opnd p d).pos + 1)) ⟨(opnd p d).pos + 1, (opnd p d).deep, n + 1, g + 1, acc ++ [PR.nd (opnd p d)], by omega, by omega, by omega, by simp; omega, by rw [← hE, show t.length + 1 - n = t.length + 1 - (n + 1) + 1 by omega, listP, if_neg (by simp [*]), if_pos (by simp [*])], rfl, rfl, rfl⟩ (wtr (S' := (sx 41 [(0, (.ptr 1000 0)), (1, (jS w)), (2, (jI k)), (3, (jI ((l : Nat) : Int))), (4, (.fn 109 [(.ptr 1000 0)] [])), (10, (.ptr 10 0)), (12, (.own (200, 78) (g + 1) 3 ((av2 acc) ++ [(.agg [(vI (Nd.kind (PR.nd (opnd p d)))), (vS (Nd.name (PR.nd (opnd p d)))), (.sl (av2 (Nd.kids (PR.nd (opnd p d)))))])])))] [(10, (.cells 77 [(jI 0), (jS (⟨#[]⟩)), .nil])), (1000, (.cells 107 [(jL (t.map strAV)), (jI (((opnd p d).pos + 1 : Nat) : Int)), (jI ((opnd p d).deep))]))] [((200, 78), g + 1)])) (WK (by kernel_rfl)) (weak_sx (show WkX _ _ _ from ⟨rfl, rfl, rfl, rfl, rfl, rfl, ⟨rfl, (by omega), rfl, (by exact av2_app _ _)⟩, trivial⟩) (show WkBx _ _ from ⟨⟨rfl, ⟨rfl, rfl, rfl, trivial⟩⟩, ⟨rfl, ⟨rfl, (by rfl), (by rfl), trivial⟩⟩, trivial⟩) (show WkG _ _ _ from ⟨(by omega), (by omega), trivial⟩))) (by kernel_rfl) (by omega)
  ·refine GO (kb hb1 (tn 2 (kp (show Uni 3 [(.agg [(vI (Nd.kind (PR.nd (opnd p d)))), (vS (Nd.name (PR.nd (opnd p d)))), (.sl (av2 (Nd.kids (PR.nd (opnd p d)))))])] from (by simp [Uni, AV.cells, AV.isTup])) (kp (show (g : Nat) = g ∧ Uni 3 [(.agg [(vI (Nd.kind (PR.nd (opnd p d)))), (vS (Nd.name (PR.nd (opnd p d)))), (.sl (av2 (Nd.kids (PR.nd (opnd p d)))))])] ∧ (((av2 acc) : List AV).length + ([(.agg [(vI (Nd.kind (PR.nd (opnd p d)))), (vS (Nd.name (PR.nd (opnd p d)))), (.sl (av2 (Nd.kids (PR.nd (opnd p d)))))])] : List AV).length) * 48 ≤ 140737488355328 from ⟨rfl, (by simp [Uni, AV.cells, AV.isTup]), by simp only [List.length_append, List.length_cons, List.length_nil, av2_len]; omega⟩) (kw (show (((av2 acc) ++ [(.agg [(vI (Nd.kind (PR.nd (opnd p d)))), (vS (Nd.name (PR.nd (opnd p d)))), (.sl (av2 (Nd.kids (PR.nd (opnd p d)))))])]) : List AV) = _ from rfl) (tn 3 (kg (accept_f t ((opnd p d).pos) ((opnd p d).deep) w (by unfold maxLen; omega) hb2) trivial (tn 1 (kb tt z))))))))) (by kernel_rfl) ?_
   refine OUT (tn 3 z) (by kernel_rfl) ?_
   rcases Bool.eq_false_or_eq_true (((((av2 acc) ++ [(.agg [(vI (Nd.kind (PR.nd (opnd p d)))), (vS (Nd.name (PR.nd (opnd p d)))), (.sl (av2 (Nd.kids (PR.nd (opnd p d)))))])] : List AV).length : Nat) : Int) == 1) with hb3 | hb3
   ·have hb3p := eq_of_beq hb3
    have hLn :  (acc ++ [PR.nd (opnd p d)]).length = 1 := by have h1 := hb3p; simp only [List.length_append, List.length_cons, List.length_nil, av2_len] at h1 ⊢; omega
    refine GO (kb hb3 (tn 1 (ke (show 0 ≤ (0 : Int) ∧ (((av2 acc) ++ [(.agg [(vI (Nd.kind (PR.nd (opnd p d)))), (vS (Nd.name (PR.nd (opnd p d)))), (.sl (av2 (Nd.kids (PR.nd (opnd p d)))))])]) : List AV)[0]? = some (.agg [(vI (Nd.kind (ndth (acc ++ [PR.nd (opnd p d)]) 0))), (vS (Nd.name (ndth (acc ++ [PR.nd (opnd p d)]) 0))), (.sl (av2 (Nd.kids (ndth (acc ++ [PR.nd (opnd p d)]) 0))))]) from (by rw [show (((av2 acc) ++ [(.agg [(vI (Nd.kind (PR.nd (opnd p d)))), (vS (Nd.name (PR.nd (opnd p d)))), (.sl (av2 (Nd.kids (PR.nd (opnd p d)))))])]) : List AV) = av2 (acc ++ [PR.nd (opnd p d)]) from (by exact av2_app _ _)]; exact av2_at (i := 0) (by omega))) (tn 3 z)))) (by kernel_rfl) ?_
    exact LEAF .ret (S2 := (sx 41 [(10, (.ptr 10 0)), (11, (jB true))] [(10, (.cells 77 [(jI (Nd.kind (ndth (acc ++ [PR.nd (opnd p d)]) 0))), (jS (Nd.name (ndth (acc ++ [PR.nd (opnd p d)]) 0))), (jL (av2 (Nd.kids (ndth (acc ++ [PR.nd (opnd p d)]) 0))))])), (1000, (.cells 107 [(jL (t.map strAV)), (jI (((opnd p d).pos : Nat) : Int)), (jI ((opnd p d).deep))]))] [((200, 78), g + 1)])) (by kernel_rfl) (WK (by kernel_rfl)) (ends (r := (.av (.tup [(.agg [(vI (Nd.kind (ndth (acc ++ [PR.nd (opnd p d)]) 0))), (vS (Nd.name (ndth (acc ++ [PR.nd (opnd p d)]) 0))), (.sl (av2 (Nd.kids (ndth (acc ++ [PR.nd (opnd p d)]) 0))))]), (vB true)]))) (by simp) (by kernel_rfl) (by rw [← hE, show t.length + 1 - n = t.length + 1 - (n + 1) + 1 by omega, listP]; rw [if_neg (by simp [*]), if_neg (by simp [*])]; simp only [PR.av, mkP]; first | (rw [if_pos hLn]; rfl) | (rw [if_neg hLn, if_neg hLn]; rfl)) (by rw [← hE, show t.length + 1 - n = t.length + 1 - (n + 1) + 1 by omega, listP]; rw [if_neg (by rw [hb1n]; simp), if_neg (by simp [*])]; simp [sx, List.lookup_cons, *]) (by simp))
   ·have hb3p := ne_of_beq_false hb3
    have hLn : ¬ (acc ++ [PR.nd (opnd p d)]).length = 1 := by have h1 := hb3p; simp only [List.length_append, List.length_cons, List.length_nil, av2_len] at h1 ⊢; omega
    refine GO (kb hb3 (tn 5 z)) (by kernel_rfl) ?_
    exact LEAF .ret (S2 := (sx 41 [(10, (.ptr 10 0)), (11, (jB true))] [(10, (.cells 77 [(jI k), (jS (⟨#[]⟩)), (jL ((av2 acc) ++ [(.agg [(vI (Nd.kind (PR.nd (opnd p d)))), (vS (Nd.name (PR.nd (opnd p d)))), (.sl (av2 (Nd.kids (PR.nd (opnd p d)))))])]))])), (1000, (.cells 107 [(jL (t.map strAV)), (jI (((opnd p d).pos : Nat) : Int)), (jI ((opnd p d).deep))]))] [((200, 78), g + 1)])) (by kernel_rfl) (WK (by kernel_rfl)) (ends (r := (.av (.tup [(.agg [(vI k), (vS (⟨#[]⟩)), (.sl ((av2 acc) ++ [(.agg [(vI (Nd.kind (PR.nd (opnd p d)))), (vS (Nd.name (PR.nd (opnd p d)))), (.sl (av2 (Nd.kids (PR.nd (opnd p d)))))])]))]), (vB true)]))) (by simp) (by kernel_rfl) (by rw [← hE, show t.length + 1 - n = t.length + 1 - (n + 1) + 1 by omega, listP]; rw [if_neg (by simp [*]), if_neg (by simp [*])]; simp only [PR.av, mkP]; first | (rw [if_pos hLn]; rfl) | (rw [if_neg hLn, show (((av2 acc) ++ [(.agg [(vI (Nd.kind (PR.nd (opnd p d)))), (vS (Nd.name (PR.nd (opnd p d)))), (.sl (av2 (Nd.kids (PR.nd (opnd p d)))))])]) : List AV) = av2 (acc ++ [PR.nd (opnd p d)]) from (by exact av2_app _ _)]; rfl)) (by rw [← hE, show t.length + 1 - n = t.length + 1 - (n + 1) + 1 by omega, listP]; rw [if_neg (by rw [hb1n]; simp), if_neg (by simp [*])]; simp [sx, List.lookup_cons, *]) (by simp))
end Go.Proofs.YtdaglbjgdakmcaaGreat
namespace Go.Proofs.YtdaglbjgdakmcaaGreat
open Go Go.Eng
set_option maxHeartbeats 2000000 in
theorem all_to (t : List ByteArray) (ht : t.length ≤ 4096) (one : Nat → Int → Nat → PR) (p0 : Nat) (d0 : Int) (l : Nat) (hp0 : p0 ≤ t.length) (hl : l ≤ p0) (hf : ∀ p d l, p ≤ t.length → FairP t p (one p d l)) (hone : ∀ p d m, p0 ≤ p → p ≤ t.length → m ≤ p → CallTo Tryz.prog 109 [(jP 1000 0), (jI ((m : Nat) : Int))] [(1000, (.cells 107 [(jL (t.map strAV)), (jI ((p : Nat) : Int)), (jI d)]))] [] (PR.av (one p d m)) [(1000, (.cells 107 [(jL (t.map strAV)), (jI (((one p d m).pos : Nat) : Int)), (jI ((one p d m).deep))]))] []) : CallTo Tryz.prog 86 [(.ptr 1000 0), (jI ((l : Nat) : Int))] [(1000, (.cells 107 [(jL (t.map strAV)), (jI ((p0 : Nat) : Int)), (jI d0)]))] [] (PR.av (allP one t p0 d0 l)) [(1000, (.cells 107 [(jL (t.map strAV)), (jI (((allP one t p0 d0 l).pos : Nat) : Int)), (jI ((allP one t p0 d0 l).deep))]))] [] := by
 refine CallTo_of_body (n := 13) Tryz.func86 rfl (by kernel_rfl) Tryz.ntmps86 (by simp) (by simp) (by simp) (by simp [OkSV, SV.keys, ABox.svs, PV.keys, PR.av]) (by simp [OkSV, SV.keys, ABox.svs, PV.keys, PR.av]) (by simp [OkSV, SV.keys, ABox.svs, PV.keys, PR.av]) (by simp [OkSV, SV.keys, ABox.svs, PV.keys, PR.av]) rfl rfl ?_
 refine W_eq (sx 13 [(0, (.ptr 1000 0)), (1, (jI ((l : Nat) : Int)))] [(1000, (.cells 107 [(jL (t.map strAV)), (jI ((p0 : Nat) : Int)), (jI d0)]))] []) (by kernel_rfl) ?_
 refine WN ?_
 refine GO (tn 6 (kg (plistO_to t ht (fun p d => one p d l) ⟨#[97, 110, 100]⟩ 2 p0 d0 l hp0 (fun p d h => hf p d l h) (fun p d h1 h2 => hone p d l h1 h2 (by omega))) trivial (tn 4 z))) (by kernel_rfl) ?_
 exact LEAF .ret (S2 := (sx 13 [(4, (.ptr 4 0)), (5, (jB (PR.ok (allP one t p0 d0 l))))] [(4, (.cells 77 [(jI (Nd.kind (PR.nd (allP one t p0 d0 l)))), (jS (Nd.name (PR.nd (allP one t p0 d0 l)))), (jL (av2 (Nd.kids (PR.nd (allP one t p0 d0 l)))))])), (1000, (.cells 107 [(jL (t.map strAV)), (jI (((allP one t p0 d0 l).pos : Nat) : Int)), (jI ((allP one t p0 d0 l).deep))]))] [])) (by kernel_rfl) (WK (by kernel_rfl)) (ends (r := (.av (.tup [(.agg [(vI (Nd.kind (PR.nd (allP one t p0 d0 l)))), (vS (Nd.name (PR.nd (allP one t p0 d0 l)))), (.sl (av2 (Nd.kids (PR.nd (allP one t p0 d0 l)))))]), (vB (PR.ok (allP one t p0 d0 l)))]))) (by simp) (by kernel_rfl) rfl (by simp [sx, List.lookup_cons]) (by simp))
set_option maxHeartbeats 2000000 in
theorem cnd_to (t : List ByteArray) (ht : t.length ≤ 4096) (one : Nat → Int → Nat → PR) (p0 : Nat) (d0 : Int) (l : Nat) (hp0 : p0 ≤ t.length) (hl : l ≤ p0) (hf : ∀ p d l, p ≤ t.length → FairP t p (one p d l)) (hone : ∀ p d m, p0 ≤ p → p ≤ t.length → m ≤ p → CallTo Tryz.prog 109 [(jP 1000 0), (jI ((m : Nat) : Int))] [(1000, (.cells 107 [(jL (t.map strAV)), (jI ((p : Nat) : Int)), (jI d)]))] [] (PR.av (one p d m)) [(1000, (.cells 107 [(jL (t.map strAV)), (jI (((one p d m).pos : Nat) : Int)), (jI ((one p d m).deep))]))] []) : CallTo Tryz.prog 61 [(.ptr 1000 0), (jI ((l : Nat) : Int))] [(1000, (.cells 107 [(jL (t.map strAV)), (jI ((p0 : Nat) : Int)), (jI d0)]))] [] (PR.av (cndP one t p0 d0 l)) [(1000, (.cells 107 [(jL (t.map strAV)), (jI (((cndP one t p0 d0 l).pos : Nat) : Int)), (jI ((cndP one t p0 d0 l).deep))]))] [] := by
 refine CallTo_of_body (n := 13) Tryz.func61 rfl (by kernel_rfl) Tryz.ntmps61 (by simp) (by simp) (by simp) (by simp [OkSV, SV.keys, ABox.svs, PV.keys, PR.av]) (by simp [OkSV, SV.keys, ABox.svs, PV.keys, PR.av]) (by simp [OkSV, SV.keys, ABox.svs, PV.keys, PR.av]) (by simp [OkSV, SV.keys, ABox.svs, PV.keys, PR.av]) rfl rfl ?_
 refine W_eq (sx 13 [(0, (.ptr 1000 0)), (1, (jI ((l : Nat) : Int)))] [(1000, (.cells 107 [(jL (t.map strAV)), (jI ((p0 : Nat) : Int)), (jI d0)]))] []) (by kernel_rfl) ?_
 refine WN ?_
 refine GO (tn 6 (kg (plistA_to t ht (fun p d => allP one t p d l) ⟨#[111, 114]⟩ 1 p0 d0 l hp0 (fun p d h => fairP_all hf p d l h) (fun p d h1 h2 => all_to t ht one p d l h2 (by omega) hf (fun q e m q1 q2 q3 => hone q e m (by omega) q2 q3))) trivial (tn 4 z))) (by kernel_rfl) ?_
 exact LEAF .ret (S2 := (sx 13 [(4, (.ptr 4 0)), (5, (jB (PR.ok (cndP one t p0 d0 l))))] [(4, (.cells 77 [(jI (Nd.kind (PR.nd (cndP one t p0 d0 l)))), (jS (Nd.name (PR.nd (cndP one t p0 d0 l)))), (jL (av2 (Nd.kids (PR.nd (cndP one t p0 d0 l)))))])), (1000, (.cells 107 [(jL (t.map strAV)), (jI (((cndP one t p0 d0 l).pos : Nat) : Int)), (jI ((cndP one t p0 d0 l).deep))]))] [])) (by kernel_rfl) (WK (by kernel_rfl)) (ends (r := (.av (.tup [(.agg [(vI (Nd.kind (PR.nd (cndP one t p0 d0 l)))), (vS (Nd.name (PR.nd (cndP one t p0 d0 l)))), (.sl (av2 (Nd.kids (PR.nd (cndP one t p0 d0 l)))))]), (vB (PR.ok (cndP one t p0 d0 l)))]))) (by simp) (by kernel_rfl) rfl (by simp [sx, List.lookup_cons]) (by simp))
set_option maxHeartbeats 2000000 in
theorem oneP_to (t : List ByteArray) (ht : t.length ≤ 4096) (rec cnd : Nat → Int → Nat → PR) (p : Nat) (d : Int) (l : Nat) (hl : l ≤ p) (hp : p ≤ t.length) (hrec : ∀ q e m, p < q → q ≤ t.length → m ≤ q → CallTo Tryz.prog 109 [(jP 1000 0), (jI ((m : Nat) : Int))] [(1000, (.cells 107 [(jL (t.map strAV)), (jI ((q : Nat) : Int)), (jI e)]))] [] (PR.av (rec q e m)) [(1000, (.cells 107 [(jL (t.map strAV)), (jI (((rec q e m).pos : Nat) : Int)), (jI ((rec q e m).deep))]))] []) (hcnd : ∀ q e m, p < q → q ≤ t.length → m ≤ q → CallTo Tryz.prog 61 [(jP 1000 0), (jI ((m : Nat) : Int))] [(1000, (.cells 107 [(jL (t.map strAV)), (jI ((q : Nat) : Int)), (jI e)]))] [] (PR.av (cnd q e m)) [(1000, (.cells 107 [(jL (t.map strAV)), (jI (((cnd q e m).pos : Nat) : Int)), (jI ((cnd q e m).deep))]))] []) : CallTo Tryz.prog 109 [(.ptr 1000 0), (jI ((l : Nat) : Int))] [(1000, (.cells 107 [(jL (t.map strAV)), (jI ((p : Nat) : Int)), (jI d)]))] [] (PR.av (oneP rec cnd t p d l)) [(1000, (.cells 107 [(jL (t.map strAV)), (jI (((oneP rec cnd t p d l).pos : Nat) : Int)), (jI ((oneP rec cnd t p d l).deep))]))] [] := by
 have hml := mlen t
 refine CallTo_of_body (n := 102) Tryz.func109 rfl (by kernel_rfl) Tryz.ntmps109 (by simp) (by simp) (by simp) (by simp [OkSV, SV.keys, ABox.svs, PV.keys, PR.av]) (by simp [OkSV, SV.keys, ABox.svs, PV.keys, PR.av]) (by simp [OkSV, SV.keys, ABox.svs, PV.keys, PR.av]) (by simp [OkSV, SV.keys, ABox.svs, PV.keys, PR.av]) rfl rfl ?_
 refine W_eq (sx 102 [(0, (.ptr 1000 0)), (1, (jI ((l : Nat) : Int)))] [(1000, (.cells 107 [(jL (t.map strAV)), (jI ((p : Nat) : Int)), (jI d)]))] []) (by kernel_rfl) ?_
 refine WN ?_
 rcases Bool.eq_false_or_eq_true (accB t p (⟨#[110, 111, 116]⟩)) with hb1 | hb1
 ·have hb1l := (accP_t hb1).2
  refine GO (tn 13 (kg (accept_t t p (max d ((l : Nat) : Int)) (⟨#[110, 111, 116]⟩) (by unfold maxLen; omega) hb1) trivial (tn 1 (kb tt (tn 2 (kn (wrE (((l : Nat) : Int) + 1) ((l + 1 : Nat) : Int) (by omega)) (kg (hrec (p + 1) (max d ((l : Nat) : Int)) (l + 1) (by omega) (by omega) (by omega)) trivial (tn 7 (kp (show Uni 3 [(.agg [(vI (Nd.kind (PR.nd (rec (p + 1) (max d ((l : Nat) : Int)) (l + 1))))), (vS (Nd.name (PR.nd (rec (p + 1) (max d ((l : Nat) : Int)) (l + 1))))), (.sl (av2 (Nd.kids (PR.nd (rec (p + 1) (max d ((l : Nat) : Int)) (l + 1))))))])] from (by simp [Uni, AV.cells, AV.isTup])) (tn 4 z)))))))))) (by kernel_rfl) ?_
  exact LEAF .ret (S2 := (sx 102 [(4, (.ptr 4 0)), (5, (jB (PR.ok (rec (p + 1) (max d ((l : Nat) : Int)) (l + 1)))))] [(4, (.cells 77 [(jI 3), (jS (⟨#[]⟩)), (jL [(.agg [(vI (Nd.kind (PR.nd (rec (p + 1) (max d ((l : Nat) : Int)) (l + 1))))), (vS (Nd.name (PR.nd (rec (p + 1) (max d ((l : Nat) : Int)) (l + 1))))), (.sl (av2 (Nd.kids (PR.nd (rec (p + 1) (max d ((l : Nat) : Int)) (l + 1))))))])])])), (1000, (.cells 107 [(jL (t.map strAV)), (jI (((rec (p + 1) (max d ((l : Nat) : Int)) (l + 1)).pos : Nat) : Int)), (jI ((rec (p + 1) (max d ((l : Nat) : Int)) (l + 1)).deep))]))] [])) (by kernel_rfl) (WK (by kernel_rfl)) (ends (r := (.av (.tup [(.agg [(vI 3), (vS (⟨#[]⟩)), (.sl [(.agg [(vI (Nd.kind (PR.nd (rec (p + 1) (max d ((l : Nat) : Int)) (l + 1))))), (vS (Nd.name (PR.nd (rec (p + 1) (max d ((l : Nat) : Int)) (l + 1))))), (.sl (av2 (Nd.kids (PR.nd (rec (p + 1) (max d ((l : Nat) : Int)) (l + 1))))))])])]), (vB (PR.ok (rec (p + 1) (max d ((l : Nat) : Int)) (l + 1))))]))) (by simp) (by kernel_rfl) (by rw [oneP]; simp only [hb1, Bool.false_eq_true, if_false, if_true, reduceCtorEq]; first | rfl | (simp only [PR.av, nav, Nd.kind, Nd.name, Nd.kids, av2, av1_eq]; done) | (rw [if_pos (by omega)]; rfl) | (rw [if_neg (by omega)]; rfl)) (by rw [oneP]; simp only [hb1, Bool.false_eq_true, if_false, if_true, reduceCtorEq]; first | (simp [sx, List.lookup_cons, accP, *]; done) | (rw [if_pos (by omega)]; simp [sx, List.lookup_cons]; done) | (rw [if_neg (by omega)]; simp [sx, List.lookup_cons]; done)) (by simp))
 ·rcases Bool.eq_false_or_eq_true (accB t p (⟨#[40]⟩)) with hb2 | hb2
  ·have hb2l := (accP_t hb2).2
   refine GO (tn 13 (kg (accept_f t p (max d ((l : Nat) : Int)) (⟨#[110, 111, 116]⟩) (by unfold maxLen; omega) hb1) trivial (tn 1 (kb ff (tn 1 (kg (accept_t t p (max d ((l : Nat) : Int)) (⟨#[40]⟩) (by unfold maxLen; omega) hb2) trivial (tn 1 (kb tt (tn 2 (kn (wrE (((l : Nat) : Int) + 1) ((l + 1 : Nat) : Int) (by omega)) (kg (hcnd (p + 1) (max d ((l : Nat) : Int)) (l + 1) (by omega) (by omega) (by omega)) trivial (tn 6 z)))))))))))) (by kernel_rfl) ?_
   rcases Bool.eq_false_or_eq_true (PR.ok (cnd (p + 1) (max d ((l : Nat) : Int)) (l + 1))) with hb3 | hb3
   ·rcases Bool.eq_false_or_eq_true (accB t ((cnd (p + 1) (max d ((l : Nat) : Int)) (l + 1)).pos) (⟨#[41]⟩)) with hb4 | hb4
    ·have hb4l := (accP_t hb4).2
     have d5 := (accept_t t ((cnd (p + 1) (max d ((l : Nat) : Int)) (l + 1)).pos) ((cnd (p + 1) (max d ((l : Nat) : Int)) (l + 1)).deep) (⟨#[41]⟩) (by unfold maxLen; omega) hb4)
     refine DR3 (tn 4 (ko (.b true) (kp (show PR.ok (cnd (p + 1) (max d ((l : Nat) : Int)) (l + 1)) = true from hb3) (tn 1 (ko (.b true) (kp (show PR.ok (cnd (p + 1) (max d ((l : Nat) : Int)) (l + 1)) = true from hb3) (ko (cO d5) (kp d5 (tn 1 (ko (.b true) (kp hb3 (kp hb3 (tn 2 z))))))))))))) (by kernel_rfl) (by kernel_rfl) (by kernel_rfl) ?_
     exact LEAF .ret (S2 := (sx 102 [(4, (.ptr 4 0)), (5, (jB true))] [(4, (.cells 77 [(jI (Nd.kind (PR.nd (cnd (p + 1) (max d ((l : Nat) : Int)) (l + 1))))), (jS (Nd.name (PR.nd (cnd (p + 1) (max d ((l : Nat) : Int)) (l + 1))))), (jL (av2 (Nd.kids (PR.nd (cnd (p + 1) (max d ((l : Nat) : Int)) (l + 1))))))])), (1000, (.cells 107 [(jL (t.map strAV)), (jI (((cnd (p + 1) (max d ((l : Nat) : Int)) (l + 1)).pos + 1 : Nat) : Int)), (jI ((cnd (p + 1) (max d ((l : Nat) : Int)) (l + 1)).deep))]))] [])) (by kernel_rfl) (WK (by kernel_rfl)) (ends (r := (.av (.tup [(.agg [(vI (Nd.kind (PR.nd (cnd (p + 1) (max d ((l : Nat) : Int)) (l + 1))))), (vS (Nd.name (PR.nd (cnd (p + 1) (max d ((l : Nat) : Int)) (l + 1))))), (.sl (av2 (Nd.kids (PR.nd (cnd (p + 1) (max d ((l : Nat) : Int)) (l + 1))))))]), (vB true)]))) (by simp) (by kernel_rfl) (by rw [oneP]; simp only [hb1, hb2, hb3, hb4, Bool.false_eq_true, if_false, if_true, reduceCtorEq]; first | rfl | (simp only [PR.av, nav, Nd.kind, Nd.name, Nd.kids, av2, av1_eq]; done) | (rw [if_pos (by omega)]; rfl) | (rw [if_neg (by omega)]; rfl)) (by rw [oneP]; simp only [hb1, hb2, hb3, hb4, Bool.false_eq_true, if_false, if_true, reduceCtorEq]; first | (simp [sx, List.lookup_cons, accP, *]; done) | (rw [if_pos (by omega)]; simp [sx, List.lookup_cons]; done) | (rw [if_neg (by omega)]; simp [sx, List.lookup_cons]; done)) (by simp))
    ·have d6 := (accept_f t ((cnd (p + 1) (max d ((l : Nat) : Int)) (l + 1)).pos) ((cnd (p + 1) (max d ((l : Nat) : Int)) (l + 1)).deep) (⟨#[41]⟩) (by unfold maxLen; omega) hb4)
     refine DR3 (tn 4 (ko (.b true) (kp (show PR.ok (cnd (p + 1) (max d ((l : Nat) : Int)) (l + 1)) = true from hb3) (tn 1 (ko (.b true) (kp (show PR.ok (cnd (p + 1) (max d ((l : Nat) : Int)) (l + 1)) = true from hb3) (ko (cO d6) (kp d6 (tn 1 (ko (.b true) (kp hb3 (kp hb3 (tn 2 z))))))))))))) (by kernel_rfl) (by kernel_rfl) (by kernel_rfl) ?_
     exact LEAF .ret (S2 := (sx 102 [(4, (.ptr 4 0)), (5, (jB false))] [(4, (.cells 77 [(jI (Nd.kind (PR.nd (cnd (p + 1) (max d ((l : Nat) : Int)) (l + 1))))), (jS (Nd.name (PR.nd (cnd (p + 1) (max d ((l : Nat) : Int)) (l + 1))))), (jL (av2 (Nd.kids (PR.nd (cnd (p + 1) (max d ((l : Nat) : Int)) (l + 1))))))])), (1000, (.cells 107 [(jL (t.map strAV)), (jI (((cnd (p + 1) (max d ((l : Nat) : Int)) (l + 1)).pos : Nat) : Int)), (jI ((cnd (p + 1) (max d ((l : Nat) : Int)) (l + 1)).deep))]))] [])) (by kernel_rfl) (WK (by kernel_rfl)) (ends (r := (.av (.tup [(.agg [(vI (Nd.kind (PR.nd (cnd (p + 1) (max d ((l : Nat) : Int)) (l + 1))))), (vS (Nd.name (PR.nd (cnd (p + 1) (max d ((l : Nat) : Int)) (l + 1))))), (.sl (av2 (Nd.kids (PR.nd (cnd (p + 1) (max d ((l : Nat) : Int)) (l + 1))))))]), (vB false)]))) (by simp) (by kernel_rfl) (by rw [oneP]; simp only [hb1, hb2, hb3, hb4, Bool.false_eq_true, if_false, if_true, reduceCtorEq]; first | rfl | (simp only [PR.av, nav, Nd.kind, Nd.name, Nd.kids, av2, av1_eq]; done) | (rw [if_pos (by omega)]; rfl) | (rw [if_neg (by omega)]; rfl)) (by rw [oneP]; simp only [hb1, hb2, hb3, hb4, Bool.false_eq_true, if_false, if_true, reduceCtorEq]; first | (simp [sx, List.lookup_cons, accP, *]; done) | (rw [if_pos (by omega)]; simp [sx, List.lookup_cons]; done) | (rw [if_neg (by omega)]; simp [sx, List.lookup_cons]; done)) (by simp))
   ·refine DR3 (tn 3 (ko (.b false) (kp (show PR.ok (cnd (p + 1) (max d ((l : Nat) : Int)) (l + 1)) = false from hb3) (ko (.b false) (kp (show PR.ok (cnd (p + 1) (max d ((l : Nat) : Int)) (l + 1)) = false from hb3) (ko (.b false) (kp hb3 (kp hb3 (tn 2 z))))))))) (by kernel_rfl) (by kernel_rfl) (by kernel_rfl) ?_
    exact LEAF .ret (S2 := (sx 102 [(4, (.ptr 4 0)), (5, (jB false))] [(4, (.cells 77 [(jI (Nd.kind (PR.nd (cnd (p + 1) (max d ((l : Nat) : Int)) (l + 1))))), (jS (Nd.name (PR.nd (cnd (p + 1) (max d ((l : Nat) : Int)) (l + 1))))), (jL (av2 (Nd.kids (PR.nd (cnd (p + 1) (max d ((l : Nat) : Int)) (l + 1))))))])), (1000, (.cells 107 [(jL (t.map strAV)), (jI (((cnd (p + 1) (max d ((l : Nat) : Int)) (l + 1)).pos : Nat) : Int)), (jI ((cnd (p + 1) (max d ((l : Nat) : Int)) (l + 1)).deep))]))] [])) (by kernel_rfl) (WK (by kernel_rfl)) (ends (r := (.av (.tup [(.agg [(vI (Nd.kind (PR.nd (cnd (p + 1) (max d ((l : Nat) : Int)) (l + 1))))), (vS (Nd.name (PR.nd (cnd (p + 1) (max d ((l : Nat) : Int)) (l + 1))))), (.sl (av2 (Nd.kids (PR.nd (cnd (p + 1) (max d ((l : Nat) : Int)) (l + 1))))))]), (vB false)]))) (by simp) (by kernel_rfl) (by rw [oneP]; simp only [hb1, hb2, hb3, Bool.false_eq_true, if_false, if_true, reduceCtorEq]; first | rfl | (simp only [PR.av, nav, Nd.kind, Nd.name, Nd.kids, av2, av1_eq]; done) | (rw [if_pos (by omega)]; rfl) | (rw [if_neg (by omega)]; rfl)) (by rw [oneP]; simp only [hb1, hb2, hb3, Bool.false_eq_true, if_false, if_true, reduceCtorEq]; first | (simp [sx, List.lookup_cons, accP, *]; done) | (rw [if_pos (by omega)]; simp [sx, List.lookup_cons]; done) | (rw [if_neg (by omega)]; simp [sx, List.lookup_cons]; done)) (by simp))
  ·rcases Bool.eq_false_or_eq_true (accB t p (⟨#[116, 114, 117, 101]⟩)) with hb7 | hb7
   ·have hb7l := (accP_t hb7).2
    refine GO (tn 13 (kg (accept_f t p (max d ((l : Nat) : Int)) (⟨#[110, 111, 116]⟩) (by unfold maxLen; omega) hb1) trivial (tn 1 (kb ff (tn 1 (kg (accept_f t p (max d ((l : Nat) : Int)) (⟨#[40]⟩) (by unfold maxLen; omega) hb2) trivial (tn 1 (kb ff (tn 1 (kg (accept_t t p (max d ((l : Nat) : Int)) (⟨#[116, 114, 117, 101]⟩) (by unfold maxLen; omega) hb7) trivial (tn 1 (kb tt (tn 3 z))))))))))))) (by kernel_rfl) ?_
    exact LEAF .ret (S2 := (sx 102 [(4, (.ptr 4 0)), (5, (jB true))] [(4, (.cells 77 [(jI 4), (jS (⟨#[]⟩)), .nil])), (1000, (.cells 107 [(jL (t.map strAV)), (jI ((p + 1 : Nat) : Int)), (jI (max d ((l : Nat) : Int)))]))] [])) (by kernel_rfl) (WK (by kernel_rfl)) (ends (r := (.av (.tup [(.agg [(vI 4), (vS (⟨#[]⟩)), (.sl [])]), (vB true)]))) (by simp) (by kernel_rfl) (by rw [oneP]; simp only [hb1, hb2, hb7, Bool.false_eq_true, if_false, if_true, reduceCtorEq]; first | rfl | (simp only [PR.av, nav, Nd.kind, Nd.name, Nd.kids, av2, av1_eq]; done) | (rw [if_pos (by omega)]; rfl) | (rw [if_neg (by omega)]; rfl)) (by rw [oneP]; simp only [hb1, hb2, hb7, Bool.false_eq_true, if_false, if_true, reduceCtorEq]; first | (simp [sx, List.lookup_cons, accP, *]; done) | (rw [if_pos (by omega)]; simp [sx, List.lookup_cons]; done) | (rw [if_neg (by omega)]; simp [sx, List.lookup_cons]; done)) (by simp))
   ·rcases Bool.eq_false_or_eq_true (accB t p (⟨#[102, 97, 108, 115, 101]⟩)) with hb8 | hb8
    ·have hb8l := (accP_t hb8).2
     refine GO (tn 13 (kg (accept_f t p (max d ((l : Nat) : Int)) (⟨#[110, 111, 116]⟩) (by unfold maxLen; omega) hb1) trivial (tn 1 (kb ff (tn 1 (kg (accept_f t p (max d ((l : Nat) : Int)) (⟨#[40]⟩) (by unfold maxLen; omega) hb2) trivial (tn 1 (kb ff (tn 1 (kg (accept_f t p (max d ((l : Nat) : Int)) (⟨#[116, 114, 117, 101]⟩) (by unfold maxLen; omega) hb7) trivial (tn 1 (kb ff (tn 1 (kg (accept_t t p (max d ((l : Nat) : Int)) (⟨#[102, 97, 108, 115, 101]⟩) (by unfold maxLen; omega) hb8) trivial (tn 1 (kb tt (tn 3 z))))))))))))))))) (by kernel_rfl) ?_
     exact LEAF .ret (S2 := (sx 102 [(4, (.ptr 4 0)), (5, (jB true))] [(4, (.cells 77 [(jI 5), (jS (⟨#[]⟩)), .nil])), (1000, (.cells 107 [(jL (t.map strAV)), (jI ((p + 1 : Nat) : Int)), (jI (max d ((l : Nat) : Int)))]))] [])) (by kernel_rfl) (WK (by kernel_rfl)) (ends (r := (.av (.tup [(.agg [(vI 5), (vS (⟨#[]⟩)), (.sl [])]), (vB true)]))) (by simp) (by kernel_rfl) (by rw [oneP]; simp only [hb1, hb2, hb7, hb8, Bool.false_eq_true, if_false, if_true, reduceCtorEq]; first | rfl | (simp only [PR.av, nav, Nd.kind, Nd.name, Nd.kids, av2, av1_eq]; done) | (rw [if_pos (by omega)]; rfl) | (rw [if_neg (by omega)]; rfl)) (by rw [oneP]; simp only [hb1, hb2, hb7, hb8, Bool.false_eq_true, if_false, if_true, reduceCtorEq]; first | (simp [sx, List.lookup_cons, accP, *]; done) | (rw [if_pos (by omega)]; simp [sx, List.lookup_cons]; done) | (rw [if_neg (by omega)]; simp [sx, List.lookup_cons]; done)) (by simp))
    ·refine GO (tn 13 (kg (accept_f t p (max d ((l : Nat) : Int)) (⟨#[110, 111, 116]⟩) (by unfold maxLen; omega) hb1) trivial (tn 1 (kb ff (tn 1 (kg (accept_f t p (max d ((l : Nat) : Int)) (⟨#[40]⟩) (by unfold maxLen; omega) hb2) trivial (tn 1 (kb ff (tn 1 (kg (accept_f t p (max d ((l : Nat) : Int)) (⟨#[116, 114, 117, 101]⟩) (by unfold maxLen; omega) hb7) trivial (tn 1 (kb ff (tn 1 (kg (accept_f t p (max d ((l : Nat) : Int)) (⟨#[102, 97, 108, 115, 101]⟩) (by unfold maxLen; omega) hb8) trivial (tn 1 (kb ff z)))))))))))))))) (by kernel_rfl) ?_
     rcases Bool.eq_false_or_eq_true (decide (((p : Nat) : Int) < (((t.map strAV).length : Nat) : Int))) with hb9 | hb9
     ·have hb9p := of_decide_eq_true hb9
      have d10 := (show 0 ≤ ((p : Nat) : Int) ∧ ((t.map strAV) : List AV)[p]? = some (vS (nth t p)) from (nth_at (by assumption)))
      have d11 := (special_to (nth t p))
      refine DR3 (tn 11 (ko (.b true) (kp (show decide (((p : Nat) : Int) < (((t.map strAV).length : Nat) : Int)) = true from hb9) (tn 1 (ko (.b true) (kp (show decide (((p : Nat) : Int) < (((t.map strAV).length : Nat) : Int)) = true from hb9) (tn 1 (ko (.b true) (kp (show decide (((p : Nat) : Int) < (((t.map strAV).length : Nat) : Int)) = true from hb9) (tn 1 (ko (.b true) (kp (show decide (((p : Nat) : Int) < (((t.map strAV).length : Nat) : Int)) = true from hb9) (tn 1 (ko (.b true) (kp (show decide (((p : Nat) : Int) < (((t.map strAV).length : Nat) : Int)) = true from hb9) (tn 1 (ko (.b true) (kp (show decide (((p : Nat) : Int) < (((t.map strAV).length : Nat) : Int)) = true from hb9) (tn 1 (ko (.b true) (kp (show decide (((p : Nat) : Int) < (((t.map strAV).length : Nat) : Int)) = true from hb9) (tn 1 (ko (.b true) (kp (show decide (((p : Nat) : Int) < (((t.map strAV).length : Nat) : Int)) = true from hb9) (tn 1 (ko (.b true) (kp (show decide (((p : Nat) : Int) < (((t.map strAV).length : Nat) : Int)) = true from hb9) (ko (eO d10) (kp d10 (ko (.b true) (kp (show decide (((p : Nat) : Int) < (((t.map strAV).length : Nat) : Int)) = true from hb9) (tn 1 (ko (.b true) (kp (show decide (((p : Nat) : Int) < (((t.map strAV).length : Nat) : Int)) = true from hb9) (ko (cO d11) (kp d11 (tn 1 (ko (.b true) (kp (show decide (((p : Nat) : Int) < (((t.map strAV).length : Nat) : Int)) = true from hb9) (tn 1 (ko (.b true) (kp hb9 (tn 1 z))))))))))))))))))))))))))))))))))))))))))) (by kernel_rfl) (by kernel_rfl) (by kernel_rfl) ?_
      rcases Bool.eq_false_or_eq_true (!specB (nth t p)) with hb12 | hb12
      ·have hb12n : specB (nth t p) = false := by simpa using hb12
       refine GO (kb hb12 (tn 4 (kn (wrE (((p : Nat) : Int) + 1) ((p + 1 : Nat) : Int) (by omega)) (tn 3 z)))) (by kernel_rfl) ?_
       have d13 := wrE (((p + 1 : Nat) : Int) - 1) (((p + 1 : Nat) : Int) - 1) (by omega)
       have d14 := (show 0 ≤ (((p + 1 : Nat) : Int) - 1 : Int) ∧ ((t.map strAV) : List AV)[Int.toNat (((p + 1 : Nat) : Int) - 1)]? = some (vS (nth t p)) from (by have h := nth_at (t := t) (i := p) (by rw [hml]; omega); rw [show (((p + 1 : Nat) : Int) - 1 : Int).toNat = p by omega]; exact ⟨by omega, h.2⟩))
       refine DR3 (tn 8 (ko (nO d13) (kp d13 (ko (eO d14) (kp d14 (tn 4 z)))))) (by kernel_rfl) (by kernel_rfl) (by kernel_rfl) ?_
       exact LEAF .ret (S2 := (sx 102 [(4, (.ptr 4 0)), (5, (jB true))] [(4, (.cells 77 [(jI 6), (jS (nth t p)), .nil])), (1000, (.cells 107 [(jL (t.map strAV)), (jI ((p + 1 : Nat) : Int)), (jI (max d ((l : Nat) : Int)))]))] [])) (by kernel_rfl) (WK (by kernel_rfl)) (ends (r := (.av (.tup [(.agg [(vI 6), (vS (nth t p)), (.sl [])]), (vB true)]))) (by simp) (by kernel_rfl) (by rw [oneP]; simp only [hb1, hb2, hb7, hb8, hb12n, Bool.false_eq_true, if_false, if_true, reduceCtorEq]; first | rfl | (simp only [PR.av, nav, Nd.kind, Nd.name, Nd.kids, av2, av1_eq]; done) | (rw [if_pos (by omega)]; rfl) | (rw [if_neg (by omega)]; rfl)) (by rw [oneP]; simp only [hb1, hb2, hb7, hb8, hb12n, Bool.false_eq_true, if_false, if_true, reduceCtorEq]; first | (simp [sx, List.lookup_cons, accP, *]; done) | (rw [if_pos (by omega)]; simp [sx, List.lookup_cons]; done) | (rw [if_neg (by omega)]; simp [sx, List.lookup_cons]; done)) (by simp))
      ·have hb12n : specB (nth t p) = true := by simpa using hb12
       refine GO (kb hb12 (tn 3 z)) (by kernel_rfl) ?_
       exact LEAF .ret (S2 := (sx 102 [(4, (.ptr 4 0)), (5, (jB false))] [(4, (.cells 77 [(jI 0), (jS (⟨#[]⟩)), .nil])), (1000, (.cells 107 [(jL (t.map strAV)), (jI ((p : Nat) : Int)), (jI (max d ((l : Nat) : Int)))]))] [])) (by kernel_rfl) (WK (by kernel_rfl)) (ends (r := (.av (.tup [(.agg [(vI 0), (vS (⟨#[]⟩)), (.sl [])]), (vB false)]))) (by simp) (by kernel_rfl) (by rw [oneP]; simp only [hb1, hb2, hb7, hb8, hb12n, Bool.false_eq_true, if_false, if_true, reduceCtorEq]; first | rfl | (simp only [PR.av, nav, Nd.kind, Nd.name, Nd.kids, av2, av1_eq]; done) | (rw [if_pos (by omega)]; rfl) | (rw [if_neg (by omega)]; rfl)) (by rw [oneP]; simp only [hb1, hb2, hb7, hb8, hb12n, Bool.false_eq_true, if_false, if_true, reduceCtorEq]; first | (simp [sx, List.lookup_cons, accP, *]; done) | (rw [if_pos (by omega)]; simp [sx, List.lookup_cons]; done) | (rw [if_neg (by omega)]; simp [sx, List.lookup_cons]; done)) (by simp))
     ·have hb9p := of_decide_eq_false hb9
      refine DR3 (tn 11 (ko (.b false) (kp (show decide (((p : Nat) : Int) < (((t.map strAV).length : Nat) : Int)) = false from hb9) (ko (.b false) (kp (show decide (((p : Nat) : Int) < (((t.map strAV).length : Nat) : Int)) = false from hb9) (ko (.b false) (kp (show decide (((p : Nat) : Int) < (((t.map strAV).length : Nat) : Int)) = false from hb9) (ko (.b false) (kp (show decide (((p : Nat) : Int) < (((t.map strAV).length : Nat) : Int)) = false from hb9) (ko (.b false) (kp (show decide (((p : Nat) : Int) < (((t.map strAV).length : Nat) : Int)) = false from hb9) (ko (.b false) (kp (show decide (((p : Nat) : Int) < (((t.map strAV).length : Nat) : Int)) = false from hb9) (ko (.b false) (kp (show decide (((p : Nat) : Int) < (((t.map strAV).length : Nat) : Int)) = false from hb9) (ko (.b false) (kp (show decide (((p : Nat) : Int) < (((t.map strAV).length : Nat) : Int)) = false from hb9) (ko (.b false) (kp (show decide (((p : Nat) : Int) < (((t.map strAV).length : Nat) : Int)) = false from hb9) (ko (.b false) (kp (show decide (((p : Nat) : Int) < (((t.map strAV).length : Nat) : Int)) = false from hb9) (ko (.b false) (kp (show decide (((p : Nat) : Int) < (((t.map strAV).length : Nat) : Int)) = false from hb9) (ko (.b false) (kp (show decide (((p : Nat) : Int) < (((t.map strAV).length : Nat) : Int)) = false from hb9) (ko (.b false) (kp hb9 (tn 1 (kb ff (tn 3 z)))))))))))))))))))))))))))))) (by kernel_rfl) (by kernel_rfl) (by kernel_rfl) ?_
      exact LEAF .ret (S2 := (sx 102 [(4, (.ptr 4 0)), (5, (jB false))] [(4, (.cells 77 [(jI 0), (jS (⟨#[]⟩)), .nil])), (1000, (.cells 107 [(jL (t.map strAV)), (jI ((p : Nat) : Int)), (jI (max d ((l : Nat) : Int)))]))] [])) (by kernel_rfl) (WK (by kernel_rfl)) (ends (r := (.av (.tup [(.agg [(vI 0), (vS (⟨#[]⟩)), (.sl [])]), (vB false)]))) (by simp) (by kernel_rfl) (by rw [oneP]; simp only [hb1, hb2, hb7, hb8, Bool.false_eq_true, if_false, if_true, reduceCtorEq]; first | rfl | (simp only [PR.av, nav, Nd.kind, Nd.name, Nd.kids, av2, av1_eq]; done) | (rw [if_pos (by omega)]; rfl) | (rw [if_neg (by omega)]; rfl)) (by rw [oneP]; simp only [hb1, hb2, hb7, hb8, Bool.false_eq_true, if_false, if_true, reduceCtorEq]; first | (simp [sx, List.lookup_cons, accP, *]; done) | (rw [if_pos (by omega)]; simp [sx, List.lookup_cons]; done) | (rw [if_neg (by omega)]; simp [sx, List.lookup_cons]; done)) (by simp))
theorem pone_to (t : List ByteArray) (ht : t.length ≤ 4096) : ∀ (n p : Nat) (d : Int) (l : Nat), l ≤ p → p ≤ t.length → t.length ≤ p + n → CallTo Tryz.prog 109 [(jP 1000 0), (jI ((l : Nat) : Int))] [(1000, (.cells 107 [(jL (t.map strAV)), (jI ((p : Nat) : Int)), (jI d)]))] [] (PR.av (pone t n p d l)) [(1000, (.cells 107 [(jL (t.map strAV)), (jI (((pone t n p d l).pos : Nat) : Int)), (jI ((pone t n p d l).deep))]))] []
 | 0, p, d, l, h1, h2, h3 => oneP_to t ht _ _ p d l h1 h2 (fun q e m q1 q2 => by omega) (fun q e m q1 q2 => by omega)
 | n + 1, p, d, l, h1, h2, h3 => oneP_to t ht _ _ p d l h1 h2 (fun q e m q1 q2 q3 => pone_to t ht n q e m q3 q2 (by omega)) (fun q e m q1 q2 q3 =>
   cnd_to t ht (pone t n) q e m q2 q3 (fairP_pone t n) (fun q' e' m' k1 k2 k3 => pone_to t ht n q' e' m' k3 k2 (by omega)))
theorem cond_to (t : List ByteArray) (ht : t.length ≤ 4096) (d : Int) (n : Nat) (hn : t.length ≤ n) : CallTo Tryz.prog 61 [(jP 1000 0), (jI ((0 : Nat) : Int))] [(1000, (.cells 107 [(jL (t.map strAV)), (jI ((0 : Nat) : Int)), (jI d)]))] [] (PR.av (cndP (pone t n) t 0 d 0)) [(1000, (.cells 107 [(jL (t.map strAV)), (jI (((cndP (pone t n) t 0 d 0).pos : Nat) : Int)), (jI ((cndP (pone t n) t 0 d 0).deep))]))] [] :=
 cnd_to t ht (pone t n) 0 d 0 (Nat.zero_le _) (Nat.le_refl _) (fairP_pone t n) (fun q' e' m' k1 k2 k3 => pone_to t ht n q' e' m' k3 k2 (by omega))
end Go.Proofs.YtdaglbjgdakmcaaGreat
namespace Go.Proofs.YtdaglbjgdakmcaaGreat
open Go Go.Eng
def ptop (t : List ByteArray) : PR := cndP (pone t t.length) t 0 0 0
def parseT (t : List ByteArray) : Nd × Int :=
 if badI t 0 then (nd0, 6) else if (ptop t).ok = false then (nd0, 5) else if (ptop t).pos < t.length then (nd0, 5) else if (ptop t).deep > 16 then (nd0, 11) else ((ptop t).nd, 0)
def parseP (s : ByteArray) : Nd × Int := if s.size > 4096 then (nd0, 3) else parseT (toks s 0)
def anyI (v : Nd → Bool) (l : List Nd) (i : Nat) : Bool := (l.drop i).any v
theorem anyI_end (v : Nd → Bool) (l : List Nd) (i : Nat) (h : l.length ≤ i) : anyI v l i = false := by simp [anyI, List.drop_eq_nil_of_le h]
theorem anyI_step (v : Nd → Bool) (l : List Nd) (i : Nat) (h : i < l.length) : anyI v l i = (v (ndth l i) || anyI v l (i + 1)) := by
 simp only [anyI]
 rw [List.drop_eq_getElem_cons h, List.any_cons]
 simp only [ndth, List.getD_eq_getElem?_getD, List.getElem?_eq_getElem h, Option.getD_some]
def allI (v : Nd → Bool) (l : List Nd) (i : Nat) : Bool := (l.drop i).all v
theorem allI_end (v : Nd → Bool) (l : List Nd) (i : Nat) (h : l.length ≤ i) : allI v l i = true := by simp [allI, List.drop_eq_nil_of_le h]
theorem allI_step (v : Nd → Bool) (l : List Nd) (i : Nat) (h : i < l.length) : allI v l i = (v (ndth l i) && allI v l (i + 1)) := by
 simp only [allI]
 rw [List.drop_eq_getElem_cons h, List.all_cons]
 simp only [ndth, List.getD_eq_getElem?_getD, List.getElem?_eq_getElem h, Option.getD_some]
def valPB (v : Nd → Bool) (fl : List ByteArray) (x : Nd) : Bool :=
 if x.kind == 1 then anyI v x.kids 0 else if x.kind == 2 then allI v x.kids 0 else if x.kind == 3 then !v (ndth x.kids 0) else if x.kind == 6 then hasI fl x.name 0 else x.kind == 4
mutual
def valP (fl : List ByteArray) : Nd → Bool
 | .mk k nm kids => if k == 1 then valPO fl kids else if k == 2 then valPA fl kids else if k == 3 then !valPH fl kids else if k == 6 then hasI fl nm 0 else k == 4
def valPH (fl : List ByteArray) : List Nd → Bool
 | [] => false
 | x :: _ => valP fl x
def valPO (fl : List ByteArray) : List Nd → Bool
 | [] => false
 | x :: l => valP fl x || valPO fl l
def valPA (fl : List ByteArray) : List Nd → Bool
 | [] => true
 | x :: l => valP fl x && valPA fl l
end
theorem valPO_eq (fl : List ByteArray) : ∀ l, valPO fl l = l.any (valP fl)
 | [] => by simp only [valPO, List.any_nil]
 | x :: l => by simp only [valPO, List.any_cons, valPO_eq fl l]
theorem valPA_eq (fl : List ByteArray) : ∀ l, valPA fl l = l.all (valP fl)
 | [] => by simp only [valPA, List.all_nil]
 | x :: l => by simp only [valPA, List.all_cons, valPA_eq fl l]
theorem valP_nd0 (fl : List ByteArray) : valP fl nd0 = false := by simp [nd0, valP]
theorem valPH_eq (fl : List ByteArray) : ∀ l, valPH fl l = valP fl (ndth l 0)
 | [] => by simp only [valPH]; rw [show ndth ([] : List Nd) 0 = nd0 from rfl, valP_nd0]
 | x :: l => by simp [valPH, ndth]
theorem valP_eq (fl : List ByteArray) (x : Nd) : valP fl x = valPB (valP fl) fl x := by
 cases x with
 | mk k nm kids => simp only [valP, valPB, Nd.kind, Nd.name, Nd.kids, valPO_eq, valPA_eq, valPH_eq, anyI, allI, List.drop_zero]; rfl
theorem eqs_iff {a b : ByteArray} : eqs a b = true ↔ a = b := by
 unfold eqs
 constructor
 ·intro h
  have h1 := eq_of_beq h
  have h2 : a.data.toList = b.data.toList := h1
  cases a; cases b; simp only at h2; congr; exact Array.toList_inj.1 h2
 ·intro h; subst h; simp
theorem eqs_beq (a b : ByteArray) : (a == b) = eqs a b := by
 rw [Bool.eq_iff_iff, bytes_eq, eqs_iff]
theorem eqs_comm (a b : ByteArray) : eqs a b = eqs b a := by
 rw [Bool.eq_iff_iff, eqs_iff, eqs_iff]; exact ⟨Eq.symm, Eq.symm⟩
theorem kpos_has (s : ByteArray) : ∀ ks : List ByteArray, (kpos ks s).isSome = hasI ks s 0
 | [] => rfl
 | k :: ks => by
  have ih := kpos_has s ks
  simp only [kpos, hasI, List.drop_zero, List.any_cons] at ih ⊢
  rw [eqs_beq, eqs_comm s k]
  cases hk : eqs k s with
  | true => simp
  | false => simp [ih]
def trues (ks : List ByteArray) : List AV := ks.map (fun _ => vB true)
theorem mget_has (ks : List ByteArray) (s : ByteArray) : mgetT false (vB false) ks (trues ks) s = vB (hasI ks s 0) := by
 rw [← kpos_has]
 simp only [mgetT, mget, Bool.false_eq_true, if_false]
 cases h : kpos ks s with
 | none => rfl
 | some j =>
  have hj := kpos_get h
  have hlt : j < ks.length := by
   rcases Nat.lt_or_ge j ks.length with h | h
   ·exact h
   ·simp [List.getElem?_eq_none h] at hj
  simp [trues, hlt]
theorem mput_trues (ks : List ByteArray) (s : ByteArray) : mputV ks (trues ks) s (vB true) = trues (mputK ks s) := by
 unfold mputV mputK
 cases h : kpos ks s with
 | none => simp [trues]
 | some j =>
  simp only [trues]
  apply List.ext_getElem?
  intro i
  simp only [List.getElem?_set, List.getElem?_map, List.length_map]
  split
  ·rename_i hij; subst hij
   split
   ·rename_i hlt; simp [hlt]
   ·rename_i hlt; simp [Nat.le_of_not_lt hlt]
  ·rfl
theorem mputK_new {ks : List ByteArray} {s : ByteArray} (h : hasI ks s 0 = false) : mputK ks s = ks ++ [s] := by
 unfold mputK
 rw [← kpos_has] at h
 cases hk : kpos ks s with
 | none => rfl
 | some j => rw [hk] at h; simp at h
theorem map_new {ks : List ByteArray} {s : ByteArray} (h : hasI ks s 0 = false) : ABox.map (mputK ks s) (mputV ks (trues ks) s (vB true)) = ABox.map (ks ++ [s]) (trues (ks ++ [s])) := by
 rw [mput_trues, mputK_new h]
def setF (l ks : List ByteArray) : List ByteArray := l.foldl mputK ks
theorem setF_step (l ks : List ByteArray) (i : Nat) (h : i < l.length) : setF (l.drop i) ks = setF (l.drop (i + 1)) (mputK ks (nth l i)) := by
 rw [List.drop_eq_getElem_cons h]
 simp only [setF, List.foldl_cons, nth, List.getD_eq_getElem?_getD, List.getElem?_eq_getElem h, Option.getD_some]
theorem setF_end (l ks : List ByteArray) (i : Nat) (h : l.length ≤ i) : setF (l.drop i) ks = ks := by
 rw [List.drop_eq_nil_of_le h]; rfl
theorem has_mputK (ks : List ByteArray) (x s : ByteArray) : hasI (mputK ks x) s 0 = (hasI ks s 0 || eqs x s) := by
 cases h : hasI ks x 0 with
 | false => rw [mputK_new h]; simp [hasI]
 | true =>
  have hk : mputK ks x = ks := by
   unfold mputK
   rw [← kpos_has] at h
   cases hk : kpos ks x with
   | none => rw [hk] at h; simp at h
   | some j => rfl
  rw [hk]
  cases he : eqs x s with
  | false => simp
  | true => rw [eqs_iff] at he; subst he; simp [h]
theorem has_setF : ∀ (l ks : List ByteArray) (s : ByteArray), hasI (setF l ks) s 0 = (hasI ks s 0 || hasI l s 0)
 | [], ks, s => by simp [setF, hasI]
 | x :: l, ks, s => by
  have ih := has_setF l (mputK ks x) s
  simp only [setF, List.foldl_cons] at ih ⊢
  rw [ih, has_mputK]
  simp [hasI, Bool.or_assoc]
theorem mget_set (l : List ByteArray) (s : ByteArray) : mgetT false (vB false) (setF l []) (trues (setF l [])) s = vB (hasI l s 0) := by
 rw [mget_has, has_setF]; simp [hasI]
abbrev WS := ByteArray × Nat
def wput (s : ByteArray) (σ : WS) : WS := (σ.1 ++ s, σ.2 + 1)
def opB (w : Nd → WS → WS) (x : Nd) (inside : Bool) (σ : WS) : WS := if inside then wput ⟨#[41]⟩ (w x (wput ⟨#[40]⟩ σ)) else w x σ
def wrOr (w : Nd → WS → WS) : List Nd → Nat → WS → WS
 | [], _, σ => σ
 | x :: l, i, σ => wrOr w l (i + 1) (w x (if 0 < i then wput ⟨#[32, 111, 114, 32]⟩ σ else σ))
def wrAnd (w : Nd → WS → WS) : List Nd → Nat → WS → WS
 | [], _, σ => σ
 | x :: l, i, σ => wrAnd w l (i + 1) (opB w x (x.kind == 1) (if 0 < i then wput ⟨#[32, 97, 110, 100, 32]⟩ σ else σ))
def wrB (w : Nd → WS → WS) (x : Nd) (σ : WS) : WS :=
 if x.kind == 1 then wrOr w x.kids 0 σ else if x.kind == 2 then wrAnd w x.kids 0 σ
 else if x.kind == 3 then opB w (ndth x.kids 0) ((ndth x.kids 0).kind == 1 || (ndth x.kids 0).kind == 2) (wput ⟨#[110, 111, 116, 32]⟩ σ)
 else if x.kind == 4 then wput ⟨#[116, 114, 117, 101]⟩ σ else if x.kind == 5 then wput ⟨#[102, 97, 108, 115, 101]⟩ σ else wput x.name σ
theorem wrOr_step (w : Nd → WS → WS) (l : List Nd) (i : Nat) (σ : WS) (h : i < l.length) : wrOr w (l.drop i) i σ = wrOr w (l.drop (i + 1)) (i + 1) (w (ndth l i) (if 0 < i then wput ⟨#[32, 111, 114, 32]⟩ σ else σ)) := by
 rw [List.drop_eq_getElem_cons h, wrOr]
 simp only [ndth, List.getD_eq_getElem?_getD, List.getElem?_eq_getElem h, Option.getD_some]
theorem wrAnd_step (w : Nd → WS → WS) (l : List Nd) (i : Nat) (σ : WS) (h : i < l.length) : wrAnd w (l.drop i) i σ = wrAnd w (l.drop (i + 1)) (i + 1) (opB w (ndth l i) ((ndth l i).kind == 1) (if 0 < i then wput ⟨#[32, 97, 110, 100, 32]⟩ σ else σ)) := by
 rw [List.drop_eq_getElem_cons h, wrAnd]
 simp only [ndth, List.getD_eq_getElem?_getD, List.getElem?_eq_getElem h, Option.getD_some]
theorem wrOr_end (w : Nd → WS → WS) (l : List Nd) (i j : Nat) (σ : WS) (h : l.length ≤ i) : wrOr w (l.drop i) j σ = σ := by rw [List.drop_eq_nil_of_le h]; rfl
theorem wrAnd_end (w : Nd → WS → WS) (l : List Nd) (i j : Nat) (σ : WS) (h : l.length ≤ i) : wrAnd w (l.drop i) j σ = σ := by rw [List.drop_eq_nil_of_le h]; rfl
def Grows (w : Nd → WS → WS) : Prop := ∀ x σ, σ.1.size ≤ (w x σ).1.size
theorem wput_size (s : ByteArray) (σ : WS) : (wput s σ).1.size = σ.1.size + s.size := by simp [wput, ByteArray.size_append]
theorem opB_grows {w : Nd → WS → WS} (h : Grows w) (x : Nd) (b : Bool) (σ : WS) : σ.1.size ≤ (opB w x b σ).1.size := by
 unfold opB
 split
 ·have h1 := h x (wput ⟨#[40]⟩ σ)
  rw [wput_size] at h1 ⊢; omega
 ·exact h x σ
theorem ifput_size (s : ByteArray) (i : Nat) (σ : WS) : σ.1.size ≤ (if 0 < i then wput s σ else σ).1.size := by
 split
 ·rw [wput_size]; omega
 ·exact Nat.le_refl _
theorem wrOr_grows {w : Nd → WS → WS} (h : Grows w) : ∀ (l : List Nd) (i : Nat) (σ : WS), σ.1.size ≤ (wrOr w l i σ).1.size
 | [], i, σ => Nat.le_refl _
 | x :: l, i, σ => by
  simp only [wrOr]
  exact Nat.le_trans (Nat.le_trans (ifput_size _ i σ) (h x _)) (wrOr_grows h l (i + 1) _)
theorem wrAnd_grows {w : Nd → WS → WS} (h : Grows w) : ∀ (l : List Nd) (i : Nat) (σ : WS), σ.1.size ≤ (wrAnd w l i σ).1.size
 | [], i, σ => Nat.le_refl _
 | x :: l, i, σ => by
  simp only [wrAnd]
  exact Nat.le_trans (Nat.le_trans (ifput_size _ i σ) (opB_grows h x _ _)) (wrAnd_grows h l (i + 1) _)
theorem wrB_grows {w : Nd → WS → WS} (h : Grows w) : Grows (wrB w) := by
 intro x σ
 unfold wrB
 split
 ·exact wrOr_grows h _ _ _
 split
 ·exact wrAnd_grows h _ _ _
 split
 ·refine Nat.le_trans ?_ (opB_grows h _ _ _); rw [wput_size]; omega
 split
 ·rw [wput_size]; omega
 split
 ·rw [wput_size]; omega
 ·rw [wput_size]; omega
mutual
def wr : Nd → WS → WS
  | .mk k nm kids, σ => if k == 1 then wrO kids 0 σ else if k == 2 then wrA kids 0 σ
    else if k == 3 then wrH kids (wput ⟨#[110, 111, 116, 32]⟩ σ)
    else if k == 4 then wput ⟨#[116, 114, 117, 101]⟩ σ else if k == 5 then wput ⟨#[102, 97, 108, 115, 101]⟩ σ else wput nm σ
def wrH : List Nd → WS → WS
 | [], σ => wput ⟨#[]⟩ σ
 | x :: _, σ => if x.kind == 1 || x.kind == 2 then wput ⟨#[41]⟩ (wr x (wput ⟨#[40]⟩ σ)) else wr x σ
def wrO : List Nd → Nat → WS → WS
 | [], _, σ => σ
 | x :: l, i, σ => wrO l (i + 1) (wr x (if 0 < i then wput ⟨#[32, 111, 114, 32]⟩ σ else σ))
def wrA : List Nd → Nat → WS → WS
 | [], _, σ => σ
 | x :: l, i, σ => wrA l (i + 1) (if x.kind == 1 then wput ⟨#[41]⟩ (wr x (wput ⟨#[40]⟩ (if 0 < i then wput ⟨#[32, 97, 110, 100, 32]⟩ σ else σ))) else wr x (if 0 < i then wput ⟨#[32, 97, 110, 100, 32]⟩ σ else σ))
end
theorem wrO_eq : ∀ (l : List Nd) (i : Nat) (σ : WS), wrO l i σ = wrOr wr l i σ
 | [], i, σ => by simp only [wrO, wrOr]
 | x :: l, i, σ => by simp only [wrO, wrOr, wrO_eq l]
theorem wrA_eq : ∀ (l : List Nd) (i : Nat) (σ : WS), wrA l i σ = wrAnd wr l i σ
 | [], i, σ => by simp only [wrA, wrAnd]
 | x :: l, i, σ => by simp only [wrA, wrAnd, wrA_eq l, opB]
theorem wrH_eq : ∀ (l : List Nd) (σ : WS), wrH l σ = opB wr (ndth l 0) ((ndth l 0).kind == 1 || (ndth l 0).kind == 2) σ
 | [], σ => by simp [wrH, ndth, nd0, opB, Nd.kind, wr]
 | x :: l, σ => by simp [wrH, ndth, opB]
theorem wr_eq (x : Nd) (σ : WS) : wr x σ = wrB wr x σ := by
 cases x with
 | mk k nm kids => simp only [wr, wrB, Nd.kind, Nd.name, Nd.kids, wrO_eq, wrA_eq, wrH_eq]; rfl
mutual
theorem wr_grows : ∀ (x : Nd) (σ : WS), σ.1.size ≤ (wr x σ).1.size
 | .mk k nm kids, σ => by
  simp only [wr]
  split
  ·exact wrO_grows kids 0 σ
  split
  ·exact wrA_grows kids 0 σ
  split
  ·refine Nat.le_trans ?_ (wrH_grows kids _); rw [wput_size]; omega
  split
  ·rw [wput_size]; omega
  split
  ·rw [wput_size]; omega
  ·rw [wput_size]; omega
theorem wrH_grows : ∀ (l : List Nd) (σ : WS), σ.1.size ≤ (wrH l σ).1.size
 | [], σ => by simp only [wrH, wput_size]; omega
 | x :: l, σ => by
  simp only [wrH]
  split
  ·have h1 := wr_grows x (wput ⟨#[40]⟩ σ)
   rw [wput_size] at h1 ⊢; omega
  ·exact wr_grows x σ
theorem wrO_grows : ∀ (l : List Nd) (i : Nat) (σ : WS), σ.1.size ≤ (wrO l i σ).1.size
 | [], i, σ => by simp only [wrO]; exact Nat.le_refl _
 | x :: l, i, σ => by
  simp only [wrO]
  exact Nat.le_trans (Nat.le_trans (ifput_size _ i σ) (wr_grows x _)) (wrO_grows l (i + 1) _)
theorem wrA_grows : ∀ (l : List Nd) (i : Nat) (σ : WS), σ.1.size ≤ (wrA l i σ).1.size
 | [], i, σ => by simp only [wrA]; exact Nat.le_refl _
 | x :: l, i, σ => by
  simp only [wrA]
  refine Nat.le_trans ?_ (wrA_grows l (i + 1) _)
  refine Nat.le_trans (ifput_size ⟨#[32, 97, 110, 100, 32]⟩ i σ) ?_
  generalize (if 0 < i then wput ⟨#[32, 97, 110, 100, 32]⟩ σ else σ) = τ
  split
  ·have h1 := wr_grows x (wput ⟨#[40]⟩ τ)
   rw [wput_size] at h1 ⊢; omega
  ·exact wr_grows x τ
end
end Go.Proofs.YtdaglbjgdakmcaaGreat
namespace Go.Proofs.YtdaglbjgdakmcaaGreat
open Go Go.Eng
mutual
def okP : Nd → Prop
 | .mk k _ kids => (k = 3 → 1 ≤ kids.length) ∧ kids.length ≤ 1000000 ∧ okPs kids
def okPs : List Nd → Prop
 | [] => True
 | x :: l => okP x ∧ okPs l
end
theorem okPs_iff : ∀ l, okPs l ↔ ∀ x ∈ l, okP x
 | [] => by simp [okPs]
 | x :: l => by simp [okPs, okPs_iff l]
theorem okP_nd0 : okP nd0 := by simp [nd0, okP, okPs]
theorem okP_ndth {l : List Nd} (h : ∀ x ∈ l, okP x) (i : Nat) : okP (ndth l i) := by
 unfold ndth
 rw [List.getD_eq_getElem?_getD]
 rcases Nat.lt_or_ge i l.length with hi | hi
 ·rw [List.getElem?_eq_getElem hi]; exact h _ (List.getElem_mem hi)
 ·rw [List.getElem?_eq_none hi]; exact okP_nd0
theorem okP_mk {k : Int} {l : List Nd} (hk : k ≠ 3) (hl : l.length ≤ 1000000) (h : ∀ x ∈ l, okP x) : okP (mkP k l) := by
 unfold mkP
 split
 ·exact okP_ndth h 0
 ·simp only [okP]; exact ⟨fun e => absurd e hk, hl, (okPs_iff l).2 h⟩
theorem okP_one {rec cnd : Nat → Int → Nat → PR} {t : List ByteArray} (hr : ∀ p d l, p ≤ t.length → okP (rec p d l).nd) (hc : ∀ p d l, p ≤ t.length → okP (cnd p d l).nd) (p : Nat) (d : Int) (l : Nat) : okP (oneP rec cnd t p d l).nd := by
 unfold oneP
 split
 ·rename_i h; have := (accP_t h).2
  simp only [okP, okPs]; exact ⟨fun _ => by simp, by simp, hr _ _ _ (by omega), trivial⟩
 split
 ·rename_i h; have := (accP_t h).2
  split
  ·exact hc _ _ _ (by omega)
  ·exact hc _ _ _ (by omega)
 split
 ·simp [okP, okPs]
 split
 ·simp [okP, okPs]
 split
 ·exact okP_nd0
 split
 ·exact okP_nd0
 ·simp [okP, okPs]
theorem okP_list {opnd : Nat → Int → PR} {word : ByteArray} {k : Int} (hk : k ≠ 3) {t : List ByteArray} (ht : t.length ≤ 4096) (hf : ∀ p d, p ≤ t.length → FairP t p (opnd p d)) (ho : ∀ p d, p ≤ t.length → okP (opnd p d).nd) :
  ∀ (m p : Nat) (d : Int) (acc : List Nd), p ≤ t.length → acc.length ≤ p → (∀ x ∈ acc, okP x) → okP (listP opnd word k t m p d acc).nd
 | 0, p, d, acc, _, _, _ => by simp only [listP]; exact okP_nd0
 | m + 1, p, d, acc, hp, hl, ha => by
  simp only [listP]
  split
  ·exact okP_nd0
  ·rename_i h1
   obtain ⟨f1, f2, f3⟩ := hf p d hp
   have f4 := f3 (by simpa using h1)
   have ha' : ∀ x ∈ acc ++ [(opnd p d).nd], okP x := by
    intro x hx
    rcases List.mem_append.1 hx with hx | hx
    ·exact ha x hx
    ·simp at hx; subst hx; exact ho p d hp
   split
   ·rename_i h2
    have := (accP_t h2).2
    exact okP_list hk ht hf ho m _ _ _ (by omega) (by simp; omega) ha'
   ·exact okP_mk hk (by simp; omega) ha'
theorem okP_all {one : Nat → Int → Nat → PR} {t : List ByteArray} (ht : t.length ≤ 4096) (hf : ∀ p d l, p ≤ t.length → FairP t p (one p d l)) (h : ∀ p d l, p ≤ t.length → okP (one p d l).nd) (p : Nat) (d : Int) (l : Nat) (hp : p ≤ t.length) : okP (allP one t p d l).nd :=
 okP_list (by decide) ht (fun p d hp => hf p d l hp) (fun p d hp => h p d l hp) _ p d [] hp (by simp) (by simp)
theorem okP_cnd {one : Nat → Int → Nat → PR} {t : List ByteArray} (ht : t.length ≤ 4096) (hf : ∀ p d l, p ≤ t.length → FairP t p (one p d l)) (h : ∀ p d l, p ≤ t.length → okP (one p d l).nd) (p : Nat) (d : Int) (l : Nat) (hp : p ≤ t.length) : okP (cndP one t p d l).nd :=
 okP_list (by decide) ht (fun p d hp => fairP_all hf p d l hp) (fun p d hp => okP_all ht hf h p d l hp) _ p d [] hp (by simp) (by simp)
theorem okP_pone {t : List ByteArray} (ht : t.length ≤ 4096) : ∀ (n p : Nat) (d : Int) (l : Nat), p ≤ t.length → okP (pone t n p d l).nd
 | 0, p, d, l, _ => okP_one (fun _ _ _ _ => okP_nd0) (fun _ _ _ _ => okP_nd0) p d l
 | n + 1, p, d, l, _ => okP_one (okP_pone ht n) (okP_cnd ht (fairP_pone t n) (okP_pone ht n)) p d l
theorem ok_parseP (s : ByteArray) : okP (parseP s).1 := by
 unfold parseP
 split
 ·exact okP_nd0
 ·rename_i h
  have hl := toks_len s _ 0 rfl
  unfold parseT
  split
  ·exact okP_nd0
  split
  ·exact okP_nd0
  split
  ·exact okP_nd0
  split
  ·exact okP_nd0
  ·exact okP_cnd (by omega) (fairP_pone _ _) (okP_pone (by omega) _) 0 0 0 (Nat.zero_le _)
def evalP (s : ByteArray) (fl : List ByteArray) : Bool × Int := if (parseP s).2 = 0 then (valP fl (parseP s).1, 0) else (false, (parseP s).2)
def namesP (s : ByteArray) : List ByteArray × Int := if (parseP s).2 = 0 then (namesL (toks s 0) [], 0) else ([], (parseP s).2)
end Go.Proofs.YtdaglbjgdakmcaaGreat
namespace Go.Proofs.YtdaglbjgdakmcaaGreat
open Go Go.Eng
set_option maxHeartbeats 2000000 in
theorem group_to (op : Int) (l : List Nd) (hl : l.length ≤ 1000000) (hg : (gkids op l).length ≤ 1000000) : CallTo Tryz.prog 112 [(jI op), (jL (av2 l))] [] [] (.av (nav (grp op l))) [] [] := by
 have hml := av2_len l
 refine CallTo_of_body (n := 47) Tryz.func112 rfl (by kernel_rfl) Tryz.ntmps112 (by simp) (by simp) (by simp) (by simp [OkSV, SV.keys, ABox.svs, PV.keys]) (by simp [OkSV, SV.keys, ABox.svs, PV.keys]) (by simp [OkSV, SV.keys, ABox.svs, PV.keys]) (by simp [OkSV, SV.keys, ABox.svs, PV.keys]) rfl rfl ?_
 refine W_eq (sx 47 [(0, (jI op)), (1, (jL (av2 l)))] [] []) (by kernel_rfl) ?_
 refine WN ?_
 refine GO (tn 4 z) (by kernel_rfl) ?_
 rcases Bool.eq_false_or_eq_true ((((av2 l).length : Nat) : Int) == 1) with hb1 | hb1
 ·have hb1p := eq_of_beq hb1
  refine GO (kb hb1 (tn 1 (ke (show 0 ≤ (0 : Int) ∧ ((av2 l) : List AV)[0]? = some (.agg [(vI (Nd.kind (ndth l 0))), (vS (Nd.name (ndth l 0))), (.sl (av2 (Nd.kids (ndth l 0))))]) from (av2_at (i := 0) (by omega))) (tn 2 z)))) (by kernel_rfl) ?_
  exact LEAF .ret (S2 := (sx 47 [(4, (.ptr 4 0))] [(4, (.cells 119 [(jI (Nd.kind (ndth l 0))), (jS (Nd.name (ndth l 0))), (jL (av2 (Nd.kids (ndth l 0))))]))] [])) (by kernel_rfl) (WK (by kernel_rfl)) (ends (r := (.av (.agg [(vI (Nd.kind (ndth l 0))), (vS (Nd.name (ndth l 0))), (.sl (av2 (Nd.kids (ndth l 0))))]))) (by simp) (by kernel_rfl) (by simp only [grp, if_pos (show l.length = 1 by omega)]; rfl) (by simp) (by simp))
 ·have hb1p := ne_of_beq_false hb1
  refine GO (kb hb1 (tn 5 z)) (by kernel_rfl) ?_
  refine LP (I := fun N M S => ∃ i : Nat, ∃ g : Nat, ∃ acc : List Nd, (i ≤ l.length) ∧ (acc ++ gkids op (l.drop i) = gkids op l) ∧ N = l.length - i ∧ M = () ∧ S = (sx 47 [(0, (jI op)), (1, (jL (av2 l))), (4, (.ptr 4 0)), (5, (.ptr 5 0)), (6, (jI ((i : Nat) : Int)))] [(5, (.cells 119 [(jI op), (jS (⟨#[]⟩)), (.own (200, 120) g 3 (av2 acc))])), (4, (.cells 119 [(jI 0), (jS (⟨#[]⟩)), .nil]))] [((200, 120), g)])) (n := l.length - 0) (by kernel_rfl) ⟨0, 0, [], Nat.zero_le _, rfl, rfl, rfl, rfl⟩ (wtr (S' := (sx 47 [(0, (jI op)), (1, (jL (av2 l))), (4, (.ptr 4 0)), (5, (.ptr 5 0)), (6, (jI 0))] [(5, (.cells 119 [(jI op), (jS (⟨#[]⟩)), .nil])), (4, (.cells 119 [(jI 0), (jS (⟨#[]⟩)), .nil]))] [])) (WK (by kernel_rfl)) (weak_sx (show WkX _ _ _ from ⟨rfl, rfl, rfl, rfl, (by rfl), trivial⟩) (show WkBx _ _ from ⟨⟨rfl, ⟨rfl, rfl, ⟨rfl, by decide, rfl⟩, trivial⟩⟩, ⟨rfl, ⟨rfl, rfl, rfl, trivial⟩⟩, trivial⟩) (show WkG _ _ _ from ⟨(by rfl), trivial⟩))) ?_
  rintro N M S ⟨i, g, acc, hi, hE, rfl, rfl, rfl⟩
  have hlen : acc.length + (gkids op (l.drop i)).length ≤ 1000000 := by rw [← List.length_append, hE]; exact hg
  refine GO (tn 4 z) (by kernel_rfl) ?_
  rcases Bool.eq_false_or_eq_true (decide (((i : Nat) : Int) < (((av2 l).length : Nat) : Int))) with hb2 | hb2
  ·have hb2p := of_decide_eq_true hb2
   refine GO (kb hb2 (tn 2 (ke (show 0 ≤ ((i : Nat) : Int) ∧ ((av2 l) : List AV)[i]? = some (.agg [(vI (Nd.kind (ndth l i))), (vS (Nd.name (ndth l i))), (.sl (av2 (Nd.kids (ndth l i))))]) from (av2_at (i := i) (by omega))) (tn 4 z)))) (by kernel_rfl) ?_
   rcases Bool.eq_false_or_eq_true ((Nd.kind (ndth l i) : Int) == op) with hb3 | hb3
   ·have hb3p := eq_of_beq hb3
    have hst := gkids_step op l i (by omega)
    have hgk : gkid op (ndth l i) = (ndth l i).kids := by simp [gkid, *]
    rw [hst, hgk, List.length_append] at hlen
    refine GO (kb hb3 z) (by kernel_rfl) ?_
    have d4 := (show 0 ≤ ((i : Nat) : Int) ∧ ((av2 l) : List AV)[i]? = some (.agg [(vI (Nd.kind (ndth l i))), (vS (Nd.name (ndth l i))), (.sl (av2 (Nd.kids (ndth l i))))]) from (av2_at (i := i) (by omega)))
    refine DR3 (tn 4 (ko (eO d4) (kp d4 (tn 2 (kp (show (g : Nat) = g ∧ Uni 3 (av2 (Nd.kids (ndth l i))) ∧ (((av2 acc) : List AV).length + ((av2 (Nd.kids (ndth l i))) : List AV).length) * 48 ≤ 140737488355328 from ⟨rfl, (by exact av2_uni _), by simp only [List.length_append, List.length_cons, List.length_nil, av2_len]; omega⟩) (tn 3 (kn (wrE (((i : Nat) : Int) + 1) ((i + 1 : Nat) : Int) (by omega)) (tn 1 z)))))))) (by kernel_rfl) (by kernel_rfl) (by kernel_rfl) ?_
    exact AG (m := l.length - (i + 1)) ⟨i + 1, g + 1, acc ++ (Nd.kids (ndth l i)), by omega, by rw [← hE, gkids_step op l i (by omega)]; simp [gkid, *], rfl, rfl, rfl⟩ (wtr (S' := (sx 47 [(0, (jI op)), (1, (jL (av2 l))), (4, (.ptr 4 0)), (5, (.ptr 5 0)), (6, (jI ((i + 1 : Nat) : Int)))] [(5, (.cells 119 [(jI op), (jS (⟨#[]⟩)), (.own (200, 120) (g + 1) 3 ((av2 acc) ++ (av2 (Nd.kids (ndth l i)))))])), (4, (.cells 119 [(jI 0), (jS (⟨#[]⟩)), .nil]))] [((200, 120), g + 1)])) (WK (by kernel_rfl)) (weak_sx (show WkX _ _ _ from ⟨rfl, rfl, rfl, rfl, (by rfl), trivial⟩) (show WkBx _ _ from ⟨⟨rfl, ⟨rfl, rfl, ⟨rfl, (by omega), rfl, (by exact av2_cat _ _)⟩, trivial⟩⟩, ⟨rfl, ⟨rfl, rfl, rfl, trivial⟩⟩, trivial⟩) (show WkG _ _ _ from ⟨(by omega), (by omega), trivial⟩))) (by kernel_rfl) (by omega)
   ·have hb3p := ne_of_beq_false hb3
    have hst := gkids_step op l i (by omega)
    have hgk : gkid op (ndth l i) = [ndth l i] := by simp [gkid, *]
    rw [hst, hgk, List.length_append] at hlen
    simp only [List.length_cons, List.length_nil] at hlen
    refine GO (kb hb3 z) (by kernel_rfl) ?_
    have d5 := (show 0 ≤ ((i : Nat) : Int) ∧ ((av2 l) : List AV)[i]? = some (.agg [(vI (Nd.kind (ndth l i))), (vS (Nd.name (ndth l i))), (.sl (av2 (Nd.kids (ndth l i))))]) from (av2_at (i := i) (by omega)))
    refine DR3 (tn 4 (ko (eO d5) (kp d5 (tn 1 (kp (show Uni 3 [(.agg [(vI (Nd.kind (ndth l i))), (vS (Nd.name (ndth l i))), (.sl (av2 (Nd.kids (ndth l i))))])] from (by simp [Uni, AV.cells, AV.isTup])) (kp (show (g : Nat) = g ∧ Uni 3 [(.agg [(vI (Nd.kind (ndth l i))), (vS (Nd.name (ndth l i))), (.sl (av2 (Nd.kids (ndth l i))))])] ∧ (((av2 acc) : List AV).length + ([(.agg [(vI (Nd.kind (ndth l i))), (vS (Nd.name (ndth l i))), (.sl (av2 (Nd.kids (ndth l i))))])] : List AV).length) * 48 ≤ 140737488355328 from ⟨rfl, (by simp [Uni, AV.cells, AV.isTup]), by simp only [List.length_append, List.length_cons, List.length_nil, av2_len]; omega⟩) (tn 3 (kn (wrE (((i : Nat) : Int) + 1) ((i + 1 : Nat) : Int) (by omega)) (tn 1 z))))))))) (by kernel_rfl) (by kernel_rfl) (by kernel_rfl) ?_
    exact AG (m := l.length - (i + 1)) ⟨i + 1, g + 1, acc ++ [ndth l i], by omega, by rw [← hE, gkids_step op l i (by omega)]; simp [gkid, *], rfl, rfl, rfl⟩ (wtr (S' := (sx 47 [(0, (jI op)), (1, (jL (av2 l))), (4, (.ptr 4 0)), (5, (.ptr 5 0)), (6, (jI ((i + 1 : Nat) : Int)))] [(5, (.cells 119 [(jI op), (jS (⟨#[]⟩)), (.own (200, 120) (g + 1) 3 ((av2 acc) ++ [(.agg [(vI (Nd.kind (ndth l i))), (vS (Nd.name (ndth l i))), (.sl (av2 (Nd.kids (ndth l i))))])]))])), (4, (.cells 119 [(jI 0), (jS (⟨#[]⟩)), .nil]))] [((200, 120), g + 1)])) (WK (by kernel_rfl)) (weak_sx (show WkX _ _ _ from ⟨rfl, rfl, rfl, rfl, (by rfl), trivial⟩) (show WkBx _ _ from ⟨⟨rfl, ⟨rfl, rfl, ⟨rfl, (by omega), rfl, (by exact av2_app _ _)⟩, trivial⟩⟩, ⟨rfl, ⟨rfl, rfl, rfl, trivial⟩⟩, trivial⟩) (show WkG _ _ _ from ⟨(by omega), (by omega), trivial⟩))) (by kernel_rfl) (by omega)
  ·have hb2p := of_decide_eq_false hb2
   refine GO (kb hb2 z) (by kernel_rfl) ?_
   refine OUT (tn 2 z) (by kernel_rfl) ?_
   exact LEAF .ret (S2 := (sx 47 [(4, (.ptr 4 0))] [(4, (.cells 119 [(jI op), (jS (⟨#[]⟩)), (.own (200, 120) g 3 (av2 acc))]))] [((200, 120), g)])) (by kernel_rfl) (WK (by kernel_rfl)) (ends (r := (.av (.agg [(vI op), (vS (⟨#[]⟩)), (.sl (av2 acc))]))) (by simp) (by kernel_rfl) (by rw [gkids_end op l i (by omega), List.append_nil] at hE; simp only [grp, if_neg (show ¬ l.length = 1 by omega), nav, Nd.kind, Nd.name, Nd.kids, hE]; done) (by simp) (by simp))
theorem group_at (op : Int) (L : List AV) (l : List Nd) (h : L = av2 l) (hl : l.length ≤ 1000000) (hg : (gkids op l).length ≤ 1000000) : CallTo Tryz.prog 112 [(.av (.val (.int .i64 op))), (.av (.sl L))] [] [] (.av (nav (grp op l))) [] [] := by subst h; exact group_to op l hl hg
set_option maxHeartbeats 2000000 in
theorem rlist5_to (t : List ByteArray) (ht : t.length ≤ 4096) (opnd : Nat → RR) (i0 l : Nat) (hi0 : i0 ≤ t.length) (hop : ∀ j, i0 ≤ j → j ≤ t.length → Fair t j (opnd j)) (hcall : ∀ j, i0 ≤ j → j ≤ t.length → CallTo Tryz.prog 111 [(.av (.sl (t.map strAV))), (.av (.val (.int .i64 ((j : Nat) : Int)))), (.av (.val (.int .i64 ((l : Nat) : Int))))] [] [] (RR.av (opnd j)) [] []) : CallTo Tryz.prog 90 [(jL (t.map strAV)), (jI ((i0 : Nat) : Int)), (jI ((l : Nat) : Int)), (jI 5)] [] [] (RR.av (listR opnd ⟨#[97, 110, 100]⟩ 5 t (t.length + 1) i0 ([]) 0)) [] [] := by
 have hml := mlen t
 refine CallTo_of_body (n := 79) Tryz.func90 rfl (by kernel_rfl) Tryz.ntmps90 (by simp) (by simp) (by simp) (by simp [OkSV, SV.keys, ABox.svs, PV.keys, RR.av]) (by simp [OkSV, SV.keys, ABox.svs, PV.keys, RR.av]) (by simp [OkSV, SV.keys, ABox.svs, PV.keys, RR.av]) (by simp [OkSV, SV.keys, ABox.svs, PV.keys, RR.av]) rfl rfl ?_
 refine W_eq (sx 79 [(0, (jL (t.map strAV))), (1, (jI ((i0 : Nat) : Int))), (2, (jI ((l : Nat) : Int))), (3, (jI 5))] [] []) (by kernel_rfl) ?_
 refine WN ?_
 refine GO (tn 7 (kb tt (tn 4 z))) (by kernel_rfl) ?_
 refine LP (I := fun N M S => ∃ i : Nat, ∃ n : Nat, ∃ g : Nat, ∃ acc : List Nd, ∃ most : Int, (n ≤ t.length + 1) ∧ (i0 ≤ i) ∧ (i ≤ t.length) ∧ (acc.length ≤ n) ∧ (wsum acc ≤ i) ∧ (listR opnd ⟨#[97, 110, 100]⟩ 5 t (t.length + 1 - n) i acc most = listR opnd ⟨#[97, 110, 100]⟩ 5 t (t.length + 1) i0 ([]) 0) ∧ N = t.length + 1 - n ∧ M = () ∧ S = (sx 79 [(0, (jL (t.map strAV))), (1, (jI ((i : Nat) : Int))), (2, (jI ((l : Nat) : Int))), (3, (jI 5)), (8, (.ptr 8 0)), (12, (jS (⟨#[97, 110, 100]⟩))), (13, (.own (200, 120) g 3 (av2 acc))), (14, (jI most)), (15, (jI ((n : Nat) : Int)))] [(8, (.cells 119 [(jI 0), (jS (⟨#[]⟩)), .nil]))] [((200, 120), g)])) (n := t.length + 1 - 0) (by kernel_rfl) ⟨i0, 0, 0, [], 0, by omega, Nat.le_refl _, by omega, Nat.le_refl _, by simp [wsum], by rw [Nat.sub_zero], rfl, rfl, rfl⟩ (wtr (S' := (sx 79 [(0, (jL (t.map strAV))), (1, (jI ((i0 : Nat) : Int))), (2, (jI ((l : Nat) : Int))), (3, (jI 5)), (8, (.ptr 8 0)), (12, (jS (⟨#[97, 110, 100]⟩))), (13, .nil), (14, (jI 0)), (15, (jI 0))] [(8, (.cells 119 [(jI 0), (jS (⟨#[]⟩)), .nil]))] [])) (WK (by kernel_rfl)) (weak_sx (show WkX _ _ _ from ⟨rfl, (by rfl), rfl, rfl, rfl, rfl, ⟨rfl, by decide, rfl⟩, (by rfl), (by rfl), trivial⟩) (show WkBx _ _ from ⟨⟨rfl, ⟨rfl, rfl, rfl, trivial⟩⟩, trivial⟩) (show WkG _ _ _ from ⟨(by rfl), trivial⟩))) ?_
 rintro N M S ⟨i, n, g, acc, most, hn, hi, hi2, hA, hS, hE, rfl, rfl, rfl⟩
 have hf := hop i hi hi2
 refine GO (tn 4 z) (by kernel_rfl) ?_
 rcases Bool.eq_false_or_eq_true (decide (((n : Nat) : Int) ≤ (((t.map strAV).length : Nat) : Int))) with hb1 | hb1
 ·have hb1p := of_decide_eq_true hb1
  refine GO (kb hb1 (tn 8 (kb ff (tn 3 (kg (hcall i (by omega) (by omega)) trivial (tn 11 z)))))) (by kernel_rfl) ?_
  rcases Bool.eq_false_or_eq_true (!RR.ok (opnd i)) with hb2 | hb2
  ·have hb2n : RR.ok (opnd i) = false := by simpa using hb2
   refine GO (kb hb2 (tn 5 z)) (by kernel_rfl) ?_
   refine OUT z (by kernel_rfl) ?_
   exact LEAF .ret (S2 := (sx 79 [(8, (.ptr 8 0)), (9, (jI 0)), (10, (jI 0)), (11, (jB false))] [(8, (.cells 119 [(jI 0), (jS (⟨#[]⟩)), .nil]))] [((200, 120), g)])) (by kernel_rfl) (WK (by kernel_rfl)) (ends (r := (.av (.tup [(.agg [(vI 0), (vS (⟨#[]⟩)), (.sl [])]), (vI 0), (vI 0), (vB false)]))) (by simp) (by kernel_rfl) (by rw [← hE]; first | (rw [show t.length + 1 - n = 0 by omega, listR]; rfl) | (rw [show t.length + 1 - n = t.length + 1 - (n + 1) + 1 by omega, listR]; first | (rw [if_pos (by simp [*])]; rfl) | (rw [if_neg (by simp [*]), if_pos (by omega)]; rfl) | (rw [if_neg (by simp [*]), if_neg (by omega), if_pos (by simp [*])]; rfl))) (by simp) (by simp))
  ·have hb2n : RR.ok (opnd i) = true := by simpa using hb2
   have hf2 := hf (by simpa using hb2)
   have hws := wsum_app acc (opnd i).nd
   rcases Bool.eq_false_or_eq_true (decide (((RR.to (opnd i) : Nat) : Int) ≥ (((t.map strAV).length : Nat) : Int))) with hb3 | hb3
   ·have hb3p := of_decide_eq_true hb3
    refine GO (kb hb2 (tn 2 (kp (show Uni 3 [(.agg [(vI (Nd.kind (RR.nd (opnd i)))), (vS (Nd.name (RR.nd (opnd i)))), (.sl (av2 (Nd.kids (RR.nd (opnd i)))))])] from (by simp [Uni, AV.cells, AV.isTup])) (kp (show (g : Nat) = g ∧ Uni 3 [(.agg [(vI (Nd.kind (RR.nd (opnd i)))), (vS (Nd.name (RR.nd (opnd i)))), (.sl (av2 (Nd.kids (RR.nd (opnd i)))))])] ∧ (((av2 acc) : List AV).length + ([(.agg [(vI (Nd.kind (RR.nd (opnd i)))), (vS (Nd.name (RR.nd (opnd i)))), (.sl (av2 (Nd.kids (RR.nd (opnd i)))))])] : List AV).length) * 48 ≤ 140737488355328 from ⟨rfl, (by simp [Uni, AV.cells, AV.isTup]), by simp only [List.length_append, List.length_cons, List.length_nil, av2_len]; omega⟩) (kw (show (((av2 acc) ++ [(.agg [(vI (Nd.kind (RR.nd (opnd i)))), (vS (Nd.name (RR.nd (opnd i)))), (.sl (av2 (Nd.kids (RR.nd (opnd i)))))])]) : List AV) = _ from rfl) (tn 10 (kb hb3 (kb hb3 (kb hb3 (kb hb3 (kb hb3 (kb hb3 (kb hb3 (kb tt (tn 2 (kg (show CallTo Tryz.prog 112 [(jI 5), (jL ((av2 acc) ++ [(.agg [(vI (Nd.kind (RR.nd (opnd i)))), (vS (Nd.name (RR.nd (opnd i)))), (.sl (av2 (Nd.kids (RR.nd (opnd i)))))])]))] [] [] (.av (.agg [(vI (Nd.kind (grp 5 (acc ++ [RR.nd (opnd i)])))), (vS (Nd.name (grp 5 (acc ++ [RR.nd (opnd i)])))), (.sl (av2 (Nd.kids (grp 5 (acc ++ [RR.nd (opnd i)])))))])) [] [] from (group_at 5 _ (acc ++ [RR.nd (opnd i)]) (by exact av2_app _ _) (by simp; omega) (by have := gkids_le 5 (acc ++ [RR.nd (opnd i)]); omega))) trivial (tn 6 z))))))))))))))))) (by kernel_rfl) ?_
    refine OUT z (by kernel_rfl) ?_
    exact LEAF .ret (S2 := (sx 79 [(8, (.ptr 8 0)), (9, (jI ((RR.to (opnd i) : Nat) : Int))), (10, (jI (max most (RR.most (opnd i))))), (11, (jB true))] [(8, (.cells 119 [(jI (Nd.kind (grp 5 (acc ++ [RR.nd (opnd i)])))), (jS (Nd.name (grp 5 (acc ++ [RR.nd (opnd i)])))), (jL (av2 (Nd.kids (grp 5 (acc ++ [RR.nd (opnd i)])))))]))] [((200, 120), g + 1)])) (by kernel_rfl) (WK (by kernel_rfl)) (ends (r := (.av (.tup [(.agg [(vI (Nd.kind (grp 5 (acc ++ [RR.nd (opnd i)])))), (vS (Nd.name (grp 5 (acc ++ [RR.nd (opnd i)])))), (.sl (av2 (Nd.kids (grp 5 (acc ++ [RR.nd (opnd i)])))))]), (vI ((RR.to (opnd i) : Nat) : Int)), (vI (max most (RR.most (opnd i)))), (vB true)]))) (by simp) (by kernel_rfl) (by rw [← hE]; first | (rw [show t.length + 1 - n = 0 by omega, listR]; rfl) | (rw [show t.length + 1 - n = t.length + 1 - (n + 1) + 1 by omega, listR]; first | (rw [if_pos (by simp [*])]; rfl) | (rw [if_neg (by simp [*]), if_pos (by omega)]; rfl) | (rw [if_neg (by simp [*]), if_neg (by omega), if_pos (by simp [*])]; rfl))) (by simp) (by simp))
   ·have hb3p := of_decide_eq_false hb3
    refine GO (kb hb2 (tn 2 (kp (show Uni 3 [(.agg [(vI (Nd.kind (RR.nd (opnd i)))), (vS (Nd.name (RR.nd (opnd i)))), (.sl (av2 (Nd.kids (RR.nd (opnd i)))))])] from (by simp [Uni, AV.cells, AV.isTup])) (kp (show (g : Nat) = g ∧ Uni 3 [(.agg [(vI (Nd.kind (RR.nd (opnd i)))), (vS (Nd.name (RR.nd (opnd i)))), (.sl (av2 (Nd.kids (RR.nd (opnd i)))))])] ∧ (((av2 acc) : List AV).length + ([(.agg [(vI (Nd.kind (RR.nd (opnd i)))), (vS (Nd.name (RR.nd (opnd i)))), (.sl (av2 (Nd.kids (RR.nd (opnd i)))))])] : List AV).length) * 48 ≤ 140737488355328 from ⟨rfl, (by simp [Uni, AV.cells, AV.isTup]), by simp only [List.length_append, List.length_cons, List.length_nil, av2_len]; omega⟩) (kw (show (((av2 acc) ++ [(.agg [(vI (Nd.kind (RR.nd (opnd i)))), (vS (Nd.name (RR.nd (opnd i)))), (.sl (av2 (Nd.kids (RR.nd (opnd i)))))])]) : List AV) = _ from rfl) (tn 10 (kb hb3 (tn 1 (kb hb3 (tn 1 (kb hb3 (ke (show 0 ≤ ((RR.to (opnd i) : Nat) : Int) ∧ ((t.map strAV) : List AV)[RR.to (opnd i)]? = some (vS (nth t (RR.to (opnd i)))) from (nth_at (by omega))) (kb hb3 (tn 1 (kb hb3 (tn 1 (kb hb3 (tn 1 (kb hb3 z))))))))))))))))))) (by kernel_rfl) ?_
    rcases Bool.eq_false_or_eq_true (!eqs (nth t (RR.to (opnd i))) (⟨#[97, 110, 100]⟩)) with hb4 | hb4
    ·have hb4n : eqs (nth t (RR.to (opnd i))) (⟨#[97, 110, 100]⟩) = false := by simpa using hb4
     refine GO (kb hb4 (tn 2 (kg (show CallTo Tryz.prog 112 [(jI 5), (jL ((av2 acc) ++ [(.agg [(vI (Nd.kind (RR.nd (opnd i)))), (vS (Nd.name (RR.nd (opnd i)))), (.sl (av2 (Nd.kids (RR.nd (opnd i)))))])]))] [] [] (.av (.agg [(vI (Nd.kind (grp 5 (acc ++ [RR.nd (opnd i)])))), (vS (Nd.name (grp 5 (acc ++ [RR.nd (opnd i)])))), (.sl (av2 (Nd.kids (grp 5 (acc ++ [RR.nd (opnd i)])))))])) [] [] from (group_at 5 _ (acc ++ [RR.nd (opnd i)]) (by exact av2_app _ _) (by simp; omega) (by have := gkids_le 5 (acc ++ [RR.nd (opnd i)]); omega))) trivial (tn 6 z)))) (by kernel_rfl) ?_
     refine OUT z (by kernel_rfl) ?_
     exact LEAF .ret (S2 := (sx 79 [(8, (.ptr 8 0)), (9, (jI ((RR.to (opnd i) : Nat) : Int))), (10, (jI (max most (RR.most (opnd i))))), (11, (jB true))] [(8, (.cells 119 [(jI (Nd.kind (grp 5 (acc ++ [RR.nd (opnd i)])))), (jS (Nd.name (grp 5 (acc ++ [RR.nd (opnd i)])))), (jL (av2 (Nd.kids (grp 5 (acc ++ [RR.nd (opnd i)])))))]))] [((200, 120), g + 1)])) (by kernel_rfl) (WK (by kernel_rfl)) (ends (r := (.av (.tup [(.agg [(vI (Nd.kind (grp 5 (acc ++ [RR.nd (opnd i)])))), (vS (Nd.name (grp 5 (acc ++ [RR.nd (opnd i)])))), (.sl (av2 (Nd.kids (grp 5 (acc ++ [RR.nd (opnd i)])))))]), (vI ((RR.to (opnd i) : Nat) : Int)), (vI (max most (RR.most (opnd i)))), (vB true)]))) (by simp) (by kernel_rfl) (by rw [← hE]; first | (rw [show t.length + 1 - n = 0 by omega, listR]; rfl) | (rw [show t.length + 1 - n = t.length + 1 - (n + 1) + 1 by omega, listR]; first | (rw [if_pos (by simp [*])]; rfl) | (rw [if_neg (by simp [*]), if_pos (by omega)]; rfl) | (rw [if_neg (by simp [*]), if_neg (by omega), if_pos (by simp [*])]; rfl))) (by simp) (by simp))
    ·have hb4n : eqs (nth t (RR.to (opnd i))) (⟨#[97, 110, 100]⟩) = true := by simpa using hb4
     refine GO (kb hb4 (tn 1 (kn (wrE (((RR.to (opnd i) : Nat) : Int) + 1) ((RR.to (opnd i) + 1 : Nat) : Int) (by omega)) (tn 2 (kn (wrE (((n : Nat) : Int) + 1) ((n + 1 : Nat) : Int) (by omega)) (tn 1 z)))))) (by kernel_rfl) ?_
     exact AG (m := t.length + 1 - (n + 1)) ⟨RR.to (opnd i) + 1, n + 1, g + 1, acc ++ [RR.nd (opnd i)], max most (RR.most (opnd i)), by omega, by omega, by omega, by simp; omega, by rw [wsum_app]; omega, by rw [← hE, show t.length + 1 - n = t.length + 1 - (n + 1) + 1 by omega, listR, if_neg (by simp [*]), if_neg (by omega), if_neg (by simp [*])], rfl, rfl, rfl⟩ (wtr (S' := (sx 79 [(0, (jL (t.map strAV))), (1, (jI ((RR.to (opnd i) + 1 : Nat) : Int))), (2, (jI ((l : Nat) : Int))), (3, (jI 5)), (8, (.ptr 8 0)), (12, (jS (⟨#[97, 110, 100]⟩))), (13, (.own (200, 120) (g + 1) 3 ((av2 acc) ++ [(.agg [(vI (Nd.kind (RR.nd (opnd i)))), (vS (Nd.name (RR.nd (opnd i)))), (.sl (av2 (Nd.kids (RR.nd (opnd i)))))])]))), (14, (jI (max most (RR.most (opnd i))))), (15, (jI ((n + 1 : Nat) : Int)))] [(8, (.cells 119 [(jI 0), (jS (⟨#[]⟩)), .nil]))] [((200, 120), g + 1)])) (WK (by kernel_rfl)) (weak_sx (show WkX _ _ _ from ⟨rfl, (by rfl), rfl, rfl, rfl, rfl, ⟨rfl, (by omega), rfl, (by exact av2_app _ _)⟩, (by rfl), (by rfl), trivial⟩) (show WkBx _ _ from ⟨⟨rfl, ⟨rfl, rfl, rfl, trivial⟩⟩, trivial⟩) (show WkG _ _ _ from ⟨(by omega), (by omega), trivial⟩))) (by kernel_rfl) (by omega)
 ·have hb1p := of_decide_eq_false hb1
  refine GO (kb hb1 z) (by kernel_rfl) ?_
  refine OUT (tn 5 z) (by kernel_rfl) ?_
  exact LEAF .ret (S2 := (sx 79 [(8, (.ptr 8 0)), (9, (jI 0)), (10, (jI 0)), (11, (jB false))] [(8, (.cells 119 [(jI 0), (jS (⟨#[]⟩)), .nil]))] [((200, 120), g)])) (by kernel_rfl) (WK (by kernel_rfl)) (ends (r := (.av (.tup [(.agg [(vI 0), (vS (⟨#[]⟩)), (.sl [])]), (vI 0), (vI 0), (vB false)]))) (by simp) (by kernel_rfl) (by rw [← hE]; first | (rw [show t.length + 1 - n = 0 by omega, listR]; rfl) | (rw [show t.length + 1 - n = t.length + 1 - (n + 1) + 1 by omega, listR]; first | (rw [if_pos (by simp [*])]; rfl) | (rw [if_neg (by simp [*]), if_pos (by omega)]; rfl) | (rw [if_neg (by simp [*]), if_neg (by omega), if_pos (by simp [*])]; rfl))) (by simp) (by simp))
set_option maxHeartbeats 2000000 in
theorem rlist6_to (t : List ByteArray) (ht : t.length ≤ 4096) (opnd : Nat → RR) (i0 l : Nat) (hi0 : i0 ≤ t.length) (hop : ∀ j, i0 ≤ j → j ≤ t.length → Fair t j (opnd j)) (hcall : ∀ j, i0 ≤ j → j ≤ t.length → CallTo Tryz.prog 90 [(.av (.sl (t.map strAV))), (.av (.val (.int .i64 ((j : Nat) : Int)))), (.av (.val (.int .i64 ((l : Nat) : Int)))), (.av (.val (.int .i64 5)))] [] [] (RR.av (opnd j)) [] []) : CallTo Tryz.prog 90 [(jL (t.map strAV)), (jI ((i0 : Nat) : Int)), (jI ((l : Nat) : Int)), (jI 6)] [] [] (RR.av (listR opnd ⟨#[111, 114]⟩ 6 t (t.length + 1) i0 ([]) 0)) [] [] := by
 have hml := mlen t
 refine CallTo_of_body (n := 79) Tryz.func90 rfl (by kernel_rfl) Tryz.ntmps90 (by simp) (by simp) (by simp) (by simp [OkSV, SV.keys, ABox.svs, PV.keys, RR.av]) (by simp [OkSV, SV.keys, ABox.svs, PV.keys, RR.av]) (by simp [OkSV, SV.keys, ABox.svs, PV.keys, RR.av]) (by simp [OkSV, SV.keys, ABox.svs, PV.keys, RR.av]) rfl rfl ?_
 refine W_eq (sx 79 [(0, (jL (t.map strAV))), (1, (jI ((i0 : Nat) : Int))), (2, (jI ((l : Nat) : Int))), (3, (jI 6))] [] []) (by kernel_rfl) ?_
 refine WN ?_
 refine GO (tn 7 (kb ff (tn 3 z))) (by kernel_rfl) ?_
 refine LP (I := fun N M S => ∃ i : Nat, ∃ n : Nat, ∃ g : Nat, ∃ acc : List Nd, ∃ most : Int, (n ≤ t.length + 1) ∧ (i0 ≤ i) ∧ (i ≤ t.length) ∧ (acc.length ≤ n) ∧ (wsum acc ≤ i) ∧ (listR opnd ⟨#[111, 114]⟩ 6 t (t.length + 1 - n) i acc most = listR opnd ⟨#[111, 114]⟩ 6 t (t.length + 1) i0 ([]) 0) ∧ N = t.length + 1 - n ∧ M = () ∧ S = (sx 79 [(0, (jL (t.map strAV))), (1, (jI ((i : Nat) : Int))), (2, (jI ((l : Nat) : Int))), (3, (jI 6)), (8, (.ptr 8 0)), (12, (jS (⟨#[111, 114]⟩))), (13, (.own (200, 120) g 3 (av2 acc))), (14, (jI most)), (15, (jI ((n : Nat) : Int)))] [(8, (.cells 119 [(jI 0), (jS (⟨#[]⟩)), .nil]))] [((200, 120), g)])) (n := t.length + 1 - 0) (by kernel_rfl) ⟨i0, 0, 0, [], 0, by omega, Nat.le_refl _, by omega, Nat.le_refl _, by simp [wsum], by rw [Nat.sub_zero], rfl, rfl, rfl⟩ (wtr (S' := (sx 79 [(0, (jL (t.map strAV))), (1, (jI ((i0 : Nat) : Int))), (2, (jI ((l : Nat) : Int))), (3, (jI 6)), (8, (.ptr 8 0)), (12, (jS (⟨#[111, 114]⟩))), (13, .nil), (14, (jI 0)), (15, (jI 0))] [(8, (.cells 119 [(jI 0), (jS (⟨#[]⟩)), .nil]))] [])) (WK (by kernel_rfl)) (weak_sx (show WkX _ _ _ from ⟨rfl, (by rfl), rfl, rfl, rfl, rfl, ⟨rfl, by decide, rfl⟩, (by rfl), (by rfl), trivial⟩) (show WkBx _ _ from ⟨⟨rfl, ⟨rfl, rfl, rfl, trivial⟩⟩, trivial⟩) (show WkG _ _ _ from ⟨(by rfl), trivial⟩))) ?_
 rintro N M S ⟨i, n, g, acc, most, hn, hi, hi2, hA, hS, hE, rfl, rfl, rfl⟩
 have hf := hop i hi hi2
 refine GO (tn 4 z) (by kernel_rfl) ?_
 rcases Bool.eq_false_or_eq_true (decide (((n : Nat) : Int) ≤ (((t.map strAV).length : Nat) : Int))) with hb1 | hb1
 ·have hb1p := of_decide_eq_true hb1
  refine GO (kb hb1 (tn 8 (kb tt (tn 3 (kg (hcall i (by omega) (by omega)) trivial (tn 11 z)))))) (by kernel_rfl) ?_
  rcases Bool.eq_false_or_eq_true (!RR.ok (opnd i)) with hb2 | hb2
  ·have hb2n : RR.ok (opnd i) = false := by simpa using hb2
   refine GO (kb hb2 (tn 5 z)) (by kernel_rfl) ?_
   refine OUT z (by kernel_rfl) ?_
   exact LEAF .ret (S2 := (sx 79 [(8, (.ptr 8 0)), (9, (jI 0)), (10, (jI 0)), (11, (jB false))] [(8, (.cells 119 [(jI 0), (jS (⟨#[]⟩)), .nil]))] [((200, 120), g)])) (by kernel_rfl) (WK (by kernel_rfl)) (ends (r := (.av (.tup [(.agg [(vI 0), (vS (⟨#[]⟩)), (.sl [])]), (vI 0), (vI 0), (vB false)]))) (by simp) (by kernel_rfl) (by rw [← hE]; first | (rw [show t.length + 1 - n = 0 by omega, listR]; rfl) | (rw [show t.length + 1 - n = t.length + 1 - (n + 1) + 1 by omega, listR]; first | (rw [if_pos (by simp [*])]; rfl) | (rw [if_neg (by simp [*]), if_pos (by omega)]; rfl) | (rw [if_neg (by simp [*]), if_neg (by omega), if_pos (by simp [*])]; rfl))) (by simp) (by simp))
  ·have hb2n : RR.ok (opnd i) = true := by simpa using hb2
   have hf2 := hf (by simpa using hb2)
   have hws := wsum_app acc (opnd i).nd
   rcases Bool.eq_false_or_eq_true (decide (((RR.to (opnd i) : Nat) : Int) ≥ (((t.map strAV).length : Nat) : Int))) with hb3 | hb3
   ·have hb3p := of_decide_eq_true hb3
    refine GO (kb hb2 (tn 2 (kp (show Uni 3 [(.agg [(vI (Nd.kind (RR.nd (opnd i)))), (vS (Nd.name (RR.nd (opnd i)))), (.sl (av2 (Nd.kids (RR.nd (opnd i)))))])] from (by simp [Uni, AV.cells, AV.isTup])) (kp (show (g : Nat) = g ∧ Uni 3 [(.agg [(vI (Nd.kind (RR.nd (opnd i)))), (vS (Nd.name (RR.nd (opnd i)))), (.sl (av2 (Nd.kids (RR.nd (opnd i)))))])] ∧ (((av2 acc) : List AV).length + ([(.agg [(vI (Nd.kind (RR.nd (opnd i)))), (vS (Nd.name (RR.nd (opnd i)))), (.sl (av2 (Nd.kids (RR.nd (opnd i)))))])] : List AV).length) * 48 ≤ 140737488355328 from ⟨rfl, (by simp [Uni, AV.cells, AV.isTup]), by simp only [List.length_append, List.length_cons, List.length_nil, av2_len]; omega⟩) (kw (show (((av2 acc) ++ [(.agg [(vI (Nd.kind (RR.nd (opnd i)))), (vS (Nd.name (RR.nd (opnd i)))), (.sl (av2 (Nd.kids (RR.nd (opnd i)))))])]) : List AV) = _ from rfl) (tn 10 (kb hb3 (kb hb3 (kb hb3 (kb hb3 (kb hb3 (kb hb3 (kb hb3 (kb tt (tn 2 (kg (show CallTo Tryz.prog 112 [(jI 6), (jL ((av2 acc) ++ [(.agg [(vI (Nd.kind (RR.nd (opnd i)))), (vS (Nd.name (RR.nd (opnd i)))), (.sl (av2 (Nd.kids (RR.nd (opnd i)))))])]))] [] [] (.av (.agg [(vI (Nd.kind (grp 6 (acc ++ [RR.nd (opnd i)])))), (vS (Nd.name (grp 6 (acc ++ [RR.nd (opnd i)])))), (.sl (av2 (Nd.kids (grp 6 (acc ++ [RR.nd (opnd i)])))))])) [] [] from (group_at 6 _ (acc ++ [RR.nd (opnd i)]) (by exact av2_app _ _) (by simp; omega) (by have := gkids_le 6 (acc ++ [RR.nd (opnd i)]); omega))) trivial (tn 6 z))))))))))))))))) (by kernel_rfl) ?_
    refine OUT z (by kernel_rfl) ?_
    exact LEAF .ret (S2 := (sx 79 [(8, (.ptr 8 0)), (9, (jI ((RR.to (opnd i) : Nat) : Int))), (10, (jI (max most (RR.most (opnd i))))), (11, (jB true))] [(8, (.cells 119 [(jI (Nd.kind (grp 6 (acc ++ [RR.nd (opnd i)])))), (jS (Nd.name (grp 6 (acc ++ [RR.nd (opnd i)])))), (jL (av2 (Nd.kids (grp 6 (acc ++ [RR.nd (opnd i)])))))]))] [((200, 120), g + 1)])) (by kernel_rfl) (WK (by kernel_rfl)) (ends (r := (.av (.tup [(.agg [(vI (Nd.kind (grp 6 (acc ++ [RR.nd (opnd i)])))), (vS (Nd.name (grp 6 (acc ++ [RR.nd (opnd i)])))), (.sl (av2 (Nd.kids (grp 6 (acc ++ [RR.nd (opnd i)])))))]), (vI ((RR.to (opnd i) : Nat) : Int)), (vI (max most (RR.most (opnd i)))), (vB true)]))) (by simp) (by kernel_rfl) (by rw [← hE]; first | (rw [show t.length + 1 - n = 0 by omega, listR]; rfl) | (rw [show t.length + 1 - n = t.length + 1 - (n + 1) + 1 by omega, listR]; first | (rw [if_pos (by simp [*])]; rfl) | (rw [if_neg (by simp [*]), if_pos (by omega)]; rfl) | (rw [if_neg (by simp [*]), if_neg (by omega), if_pos (by simp [*])]; rfl))) (by simp) (by simp))
   ·have hb3p := of_decide_eq_false hb3
    refine GO (kb hb2 (tn 2 (kp (show Uni 3 [(.agg [(vI (Nd.kind (RR.nd (opnd i)))), (vS (Nd.name (RR.nd (opnd i)))), (.sl (av2 (Nd.kids (RR.nd (opnd i)))))])] from (by simp [Uni, AV.cells, AV.isTup])) (kp (show (g : Nat) = g ∧ Uni 3 [(.agg [(vI (Nd.kind (RR.nd (opnd i)))), (vS (Nd.name (RR.nd (opnd i)))), (.sl (av2 (Nd.kids (RR.nd (opnd i)))))])] ∧ (((av2 acc) : List AV).length + ([(.agg [(vI (Nd.kind (RR.nd (opnd i)))), (vS (Nd.name (RR.nd (opnd i)))), (.sl (av2 (Nd.kids (RR.nd (opnd i)))))])] : List AV).length) * 48 ≤ 140737488355328 from ⟨rfl, (by simp [Uni, AV.cells, AV.isTup]), by simp only [List.length_append, List.length_cons, List.length_nil, av2_len]; omega⟩) (kw (show (((av2 acc) ++ [(.agg [(vI (Nd.kind (RR.nd (opnd i)))), (vS (Nd.name (RR.nd (opnd i)))), (.sl (av2 (Nd.kids (RR.nd (opnd i)))))])]) : List AV) = _ from rfl) (tn 10 (kb hb3 (tn 1 (kb hb3 (tn 1 (kb hb3 (ke (show 0 ≤ ((RR.to (opnd i) : Nat) : Int) ∧ ((t.map strAV) : List AV)[RR.to (opnd i)]? = some (vS (nth t (RR.to (opnd i)))) from (nth_at (by omega))) (kb hb3 (tn 1 (kb hb3 (tn 1 (kb hb3 (tn 1 (kb hb3 z))))))))))))))))))) (by kernel_rfl) ?_
    rcases Bool.eq_false_or_eq_true (!eqs (nth t (RR.to (opnd i))) (⟨#[111, 114]⟩)) with hb4 | hb4
    ·have hb4n : eqs (nth t (RR.to (opnd i))) (⟨#[111, 114]⟩) = false := by simpa using hb4
     refine GO (kb hb4 (tn 2 (kg (show CallTo Tryz.prog 112 [(jI 6), (jL ((av2 acc) ++ [(.agg [(vI (Nd.kind (RR.nd (opnd i)))), (vS (Nd.name (RR.nd (opnd i)))), (.sl (av2 (Nd.kids (RR.nd (opnd i)))))])]))] [] [] (.av (.agg [(vI (Nd.kind (grp 6 (acc ++ [RR.nd (opnd i)])))), (vS (Nd.name (grp 6 (acc ++ [RR.nd (opnd i)])))), (.sl (av2 (Nd.kids (grp 6 (acc ++ [RR.nd (opnd i)])))))])) [] [] from (group_at 6 _ (acc ++ [RR.nd (opnd i)]) (by exact av2_app _ _) (by simp; omega) (by have := gkids_le 6 (acc ++ [RR.nd (opnd i)]); omega))) trivial (tn 6 z)))) (by kernel_rfl) ?_
     refine OUT z (by kernel_rfl) ?_
     exact LEAF .ret (S2 := (sx 79 [(8, (.ptr 8 0)), (9, (jI ((RR.to (opnd i) : Nat) : Int))), (10, (jI (max most (RR.most (opnd i))))), (11, (jB true))] [(8, (.cells 119 [(jI (Nd.kind (grp 6 (acc ++ [RR.nd (opnd i)])))), (jS (Nd.name (grp 6 (acc ++ [RR.nd (opnd i)])))), (jL (av2 (Nd.kids (grp 6 (acc ++ [RR.nd (opnd i)])))))]))] [((200, 120), g + 1)])) (by kernel_rfl) (WK (by kernel_rfl)) (ends (r := (.av (.tup [(.agg [(vI (Nd.kind (grp 6 (acc ++ [RR.nd (opnd i)])))), (vS (Nd.name (grp 6 (acc ++ [RR.nd (opnd i)])))), (.sl (av2 (Nd.kids (grp 6 (acc ++ [RR.nd (opnd i)])))))]), (vI ((RR.to (opnd i) : Nat) : Int)), (vI (max most (RR.most (opnd i)))), (vB true)]))) (by simp) (by kernel_rfl) (by rw [← hE]; first | (rw [show t.length + 1 - n = 0 by omega, listR]; rfl) | (rw [show t.length + 1 - n = t.length + 1 - (n + 1) + 1 by omega, listR]; first | (rw [if_pos (by simp [*])]; rfl) | (rw [if_neg (by simp [*]), if_pos (by omega)]; rfl) | (rw [if_neg (by simp [*]), if_neg (by omega), if_pos (by simp [*])]; rfl))) (by simp) (by simp))
    ·have hb4n : eqs (nth t (RR.to (opnd i))) (⟨#[111, 114]⟩) = true := by simpa using hb4
     refine GO (kb hb4 (tn 1 (kn (wrE (((RR.to (opnd i) : Nat) : Int) + 1) ((RR.to (opnd i) + 1 : Nat) : Int) (by omega)) (tn 2 (kn (wrE (((n : Nat) : Int) + 1) ((n + 1 : Nat) : Int) (by omega)) (tn 1 z)))))) (by kernel_rfl) ?_
     exact AG (m := t.length + 1 - (n + 1)) ⟨RR.to (opnd i) + 1, n + 1, g + 1, acc ++ [RR.nd (opnd i)], max most (RR.most (opnd i)), by omega, by omega, by omega, by simp; omega, by rw [wsum_app]; omega, by rw [← hE, show t.length + 1 - n = t.length + 1 - (n + 1) + 1 by omega, listR, if_neg (by simp [*]), if_neg (by omega), if_neg (by simp [*])], rfl, rfl, rfl⟩ (wtr (S' := (sx 79 [(0, (jL (t.map strAV))), (1, (jI ((RR.to (opnd i) + 1 : Nat) : Int))), (2, (jI ((l : Nat) : Int))), (3, (jI 6)), (8, (.ptr 8 0)), (12, (jS (⟨#[111, 114]⟩))), (13, (.own (200, 120) (g + 1) 3 ((av2 acc) ++ [(.agg [(vI (Nd.kind (RR.nd (opnd i)))), (vS (Nd.name (RR.nd (opnd i)))), (.sl (av2 (Nd.kids (RR.nd (opnd i)))))])]))), (14, (jI (max most (RR.most (opnd i))))), (15, (jI ((n + 1 : Nat) : Int)))] [(8, (.cells 119 [(jI 0), (jS (⟨#[]⟩)), .nil]))] [((200, 120), g + 1)])) (WK (by kernel_rfl)) (weak_sx (show WkX _ _ _ from ⟨rfl, (by rfl), rfl, rfl, rfl, rfl, ⟨rfl, (by omega), rfl, (by exact av2_app _ _)⟩, (by rfl), (by rfl), trivial⟩) (show WkBx _ _ from ⟨⟨rfl, ⟨rfl, rfl, rfl, trivial⟩⟩, trivial⟩) (show WkG _ _ _ from ⟨(by omega), (by omega), trivial⟩))) (by kernel_rfl) (by omega)
 ·have hb1p := of_decide_eq_false hb1
  refine GO (kb hb1 z) (by kernel_rfl) ?_
  refine OUT (tn 5 z) (by kernel_rfl) ?_
  exact LEAF .ret (S2 := (sx 79 [(8, (.ptr 8 0)), (9, (jI 0)), (10, (jI 0)), (11, (jB false))] [(8, (.cells 119 [(jI 0), (jS (⟨#[]⟩)), .nil]))] [((200, 120), g)])) (by kernel_rfl) (WK (by kernel_rfl)) (ends (r := (.av (.tup [(.agg [(vI 0), (vS (⟨#[]⟩)), (.sl [])]), (vI 0), (vI 0), (vB false)]))) (by simp) (by kernel_rfl) (by rw [← hE]; first | (rw [show t.length + 1 - n = 0 by omega, listR]; rfl) | (rw [show t.length + 1 - n = t.length + 1 - (n + 1) + 1 by omega, listR]; first | (rw [if_pos (by simp [*])]; rfl) | (rw [if_neg (by simp [*]), if_pos (by omega)]; rfl) | (rw [if_neg (by simp [*]), if_neg (by omega), if_pos (by simp [*])]; rfl))) (by simp) (by simp))
set_option maxHeartbeats 2000000 in
theorem oneR_to (t : List ByteArray) (ht : t.length ≤ 4096) (rec lst : Nat → Nat → RR) (i l : Nat) (hl : l ≤ i) (hi : i ≤ t.length) (hrec : ∀ j m, i < j → j ≤ t.length → m ≤ j → CallTo Tryz.prog 111 [(.av (.sl (t.map strAV))), (.av (.val (.int .i64 ((j : Nat) : Int)))), (.av (.val (.int .i64 ((m : Nat) : Int))))] [] [] (RR.av (rec j m)) [] []) (hlst : ∀ j m, i < j → j ≤ t.length → m ≤ j → CallTo Tryz.prog 90 [(.av (.sl (t.map strAV))), (.av (.val (.int .i64 ((j : Nat) : Int)))), (.av (.val (.int .i64 ((m : Nat) : Int)))), (.av (.val (.int .i64 6)))] [] [] (RR.av (lst j m)) [] []) : CallTo Tryz.prog 111 [(jL (t.map strAV)), (jI ((i : Nat) : Int)), (jI ((l : Nat) : Int))] [] [] (RR.av (oneR rec lst t i l)) [] [] := by
 have hml := mlen t
 refine CallTo_of_body (n := 122) Tryz.func111 rfl (by kernel_rfl) Tryz.ntmps111 (by simp) (by simp) (by simp) (by simp [OkSV, SV.keys, ABox.svs, PV.keys, RR.av]) (by simp [OkSV, SV.keys, ABox.svs, PV.keys, RR.av]) (by simp [OkSV, SV.keys, ABox.svs, PV.keys, RR.av]) (by simp [OkSV, SV.keys, ABox.svs, PV.keys, RR.av]) rfl rfl ?_
 refine W_eq (sx 122 [(0, (jL (t.map strAV))), (1, (jI ((i : Nat) : Int))), (2, (jI ((l : Nat) : Int)))] [] []) (by kernel_rfl) ?_
 refine WN ?_
 rcases Bool.eq_false_or_eq_true (decide (((i : Nat) : Int) ≥ (((t.map strAV).length : Nat) : Int))) with hb1 | hb1
 ·have hb1p := of_decide_eq_true hb1
  refine GO (tn 9 (kb hb1 (kb hb1 (kb hb1 (kb hb1 (kb hb1 (kb hb1 (tn 1 (kb tt (kb tt (kb tt (kb tt (kb tt (kb tt (tn 1 (kb tt (kb tt (kb tt (kb tt (kb tt (kb tt (kb tt (tn 5 z))))))))))))))))))))))) (by kernel_rfl) ?_
  exact LEAF .ret (S2 := (sx 122 [(6, (.ptr 6 0)), (7, (jI 0)), (8, (jI 0)), (9, (jB false))] [(6, (.cells 119 [(jI 0), (jS (⟨#[]⟩)), .nil]))] [])) (by kernel_rfl) (WK (by kernel_rfl)) (ends (r := (.av (.tup [(.agg [(vI 0), (vS (⟨#[]⟩)), (.sl [])]), (vI 0), (vI 0), (vB false)]))) (by simp) (by kernel_rfl) (by rw [oneR]; first | (rw [if_pos (by omega)]; rfl) | (rw [if_neg (by omega)]; simp only [Bool.false_eq_true, if_false, if_true, reduceCtorEq]; first | rfl | (simp only [RR.av, nav, Nd.kind, Nd.name, Nd.kids, av2, av1_eq]; done) | (rw [if_pos (by omega)]; rfl) | (rw [if_neg (by omega)]; rfl))) (by simp) (by simp))
 ·have hb1p := of_decide_eq_false hb1
  rcases Bool.eq_false_or_eq_true (eqs (nth t i) (⟨#[111, 114]⟩)) with hb2 | hb2
  ·refine GO (tn 9 (kb hb1 (tn 1 (kb hb1 (tn 1 (kb hb1 (ke (show 0 ≤ ((i : Nat) : Int) ∧ ((t.map strAV) : List AV)[i]? = some (vS (nth t i)) from (nth_at (by omega))) (kb hb1 (tn 1 (kb hb1 (tn 1 (kb hb1 (tn 1 (kb hb2 (kb hb2 (kb hb2 (kb hb2 (kb hb2 (kb hb2 (tn 1 (kb tt (kb tt (kb tt (kb tt (kb tt (kb tt (kb tt (tn 5 z)))))))))))))))))))))))))))) (by kernel_rfl) ?_
   exact LEAF .ret (S2 := (sx 122 [(6, (.ptr 6 0)), (7, (jI 0)), (8, (jI 0)), (9, (jB false))] [(6, (.cells 119 [(jI 0), (jS (⟨#[]⟩)), .nil]))] [])) (by kernel_rfl) (WK (by kernel_rfl)) (ends (r := (.av (.tup [(.agg [(vI 0), (vS (⟨#[]⟩)), (.sl [])]), (vI 0), (vI 0), (vB false)]))) (by simp) (by kernel_rfl) (by rw [oneR]; first | (rw [if_pos (by omega)]; rfl) | (rw [if_neg (by omega)]; simp only [hb2, Bool.false_eq_true, if_false, if_true, reduceCtorEq]; first | rfl | (simp only [RR.av, nav, Nd.kind, Nd.name, Nd.kids, av2, av1_eq]; done) | (rw [if_pos (by omega)]; rfl) | (rw [if_neg (by omega)]; rfl))) (by simp) (by simp))
  ·rcases Bool.eq_false_or_eq_true (eqs (nth t i) (⟨#[97, 110, 100]⟩)) with hb3 | hb3
   ·refine GO (tn 9 (kb hb1 (tn 1 (kb hb1 (tn 1 (kb hb1 (ke (show 0 ≤ ((i : Nat) : Int) ∧ ((t.map strAV) : List AV)[i]? = some (vS (nth t i)) from (nth_at (by omega))) (kb hb1 (tn 1 (kb hb1 (tn 1 (kb hb1 (tn 1 (kb hb2 (tn 1 (kb hb2 (tn 1 (kb hb2 (ke (show 0 ≤ ((i : Nat) : Int) ∧ ((t.map strAV) : List AV)[i]? = some (vS (nth t i)) from (nth_at (by omega))) (kb hb2 (tn 1 (kb hb2 (tn 1 (kb hb2 (tn 1 (kb hb3 (kb hb3 (kb hb3 (kb hb3 (kb hb3 (kb hb3 (kb tt (tn 5 z))))))))))))))))))))))))))))))))) (by kernel_rfl) ?_
    exact LEAF .ret (S2 := (sx 122 [(6, (.ptr 6 0)), (7, (jI 0)), (8, (jI 0)), (9, (jB false))] [(6, (.cells 119 [(jI 0), (jS (⟨#[]⟩)), .nil]))] [])) (by kernel_rfl) (WK (by kernel_rfl)) (ends (r := (.av (.tup [(.agg [(vI 0), (vS (⟨#[]⟩)), (.sl [])]), (vI 0), (vI 0), (vB false)]))) (by simp) (by kernel_rfl) (by rw [oneR]; first | (rw [if_pos (by omega)]; rfl) | (rw [if_neg (by omega)]; simp only [hb2, hb3, Bool.false_eq_true, if_false, if_true, reduceCtorEq]; first | rfl | (simp only [RR.av, nav, Nd.kind, Nd.name, Nd.kids, av2, av1_eq]; done) | (rw [if_pos (by omega)]; rfl) | (rw [if_neg (by omega)]; rfl))) (by simp) (by simp))
   ·refine GO (tn 9 (kb hb1 (tn 1 (kb hb1 (tn 1 (kb hb1 (ke (show 0 ≤ ((i : Nat) : Int) ∧ ((t.map strAV) : List AV)[i]? = some (vS (nth t i)) from (nth_at (by omega))) (kb hb1 (tn 1 (kb hb1 (tn 1 (kb hb1 (tn 1 (kb hb2 (tn 1 (kb hb2 (tn 1 (kb hb2 (ke (show 0 ≤ ((i : Nat) : Int) ∧ ((t.map strAV) : List AV)[i]? = some (vS (nth t i)) from (nth_at (by omega))) (kb hb2 (tn 1 (kb hb2 (tn 1 (kb hb2 (tn 1 (kb hb3 (tn 1 (kb hb3 (tn 1 (kb hb3 (ke (show 0 ≤ ((i : Nat) : Int) ∧ ((t.map strAV) : List AV)[i]? = some (vS (nth t i)) from (nth_at (by omega))) (kb hb3 (tn 1 (kb hb3 (tn 1 (kb hb3 z)))))))))))))))))))))))))))))))))))) (by kernel_rfl) ?_
    rcases Bool.eq_false_or_eq_true (eqs (nth t i) (⟨#[41]⟩)) with hb4 | hb4
    ·refine GO (kb hb4 (tn 5 z)) (by kernel_rfl) ?_
     exact LEAF .ret (S2 := (sx 122 [(6, (.ptr 6 0)), (7, (jI 0)), (8, (jI 0)), (9, (jB false))] [(6, (.cells 119 [(jI 0), (jS (⟨#[]⟩)), .nil]))] [])) (by kernel_rfl) (WK (by kernel_rfl)) (ends (r := (.av (.tup [(.agg [(vI 0), (vS (⟨#[]⟩)), (.sl [])]), (vI 0), (vI 0), (vB false)]))) (by simp) (by kernel_rfl) (by rw [oneR]; first | (rw [if_pos (by omega)]; rfl) | (rw [if_neg (by omega)]; simp only [hb2, hb3, hb4, Bool.false_eq_true, if_false, if_true, reduceCtorEq]; first | rfl | (simp only [RR.av, nav, Nd.kind, Nd.name, Nd.kids, av2, av1_eq]; done) | (rw [if_pos (by omega)]; rfl) | (rw [if_neg (by omega)]; rfl))) (by simp) (by simp))
    ·refine GO (kb hb4 (tn 2 (ke (show 0 ≤ ((i : Nat) : Int) ∧ ((t.map strAV) : List AV)[i]? = some (vS (nth t i)) from (nth_at (by omega))) (tn 3 z)))) (by kernel_rfl) ?_
     rcases Bool.eq_false_or_eq_true (eqs (nth t i) (⟨#[110, 111, 116]⟩)) with hb5 | hb5
     ·refine GO (kb hb5 (tn 2 (kn (wrE (((i : Nat) : Int) + 1) ((i + 1 : Nat) : Int) (by omega)) (tn 1 (kn (wrE (((l : Nat) : Int) + 1) ((l + 1 : Nat) : Int) (by omega)) (kg (hrec (i + 1) (l + 1) (by omega) (by omega) (by omega)) trivial (tn 11 (kp (show Uni 3 [(.agg [(vI (Nd.kind (RR.nd (rec (i + 1) (l + 1))))), (vS (Nd.name (RR.nd (rec (i + 1) (l + 1))))), (.sl (av2 (Nd.kids (RR.nd (rec (i + 1) (l + 1))))))])] from (by simp [Uni, AV.cells, AV.isTup])) (tn 8 z))))))))) (by kernel_rfl) ?_
      exact LEAF .ret (S2 := (sx 122 [(6, (.ptr 6 0)), (7, (jI ((RR.to (rec (i + 1) (l + 1)) : Nat) : Int))), (8, (jI (RR.most (rec (i + 1) (l + 1))))), (9, (jB (RR.ok (rec (i + 1) (l + 1)))))] [(6, (.cells 119 [(jI 4), (jS (⟨#[]⟩)), (jL [(.agg [(vI (Nd.kind (RR.nd (rec (i + 1) (l + 1))))), (vS (Nd.name (RR.nd (rec (i + 1) (l + 1))))), (.sl (av2 (Nd.kids (RR.nd (rec (i + 1) (l + 1))))))])])]))] [])) (by kernel_rfl) (WK (by kernel_rfl)) (ends (r := (.av (.tup [(.agg [(vI 4), (vS (⟨#[]⟩)), (.sl [(.agg [(vI (Nd.kind (RR.nd (rec (i + 1) (l + 1))))), (vS (Nd.name (RR.nd (rec (i + 1) (l + 1))))), (.sl (av2 (Nd.kids (RR.nd (rec (i + 1) (l + 1))))))])])]), (vI ((RR.to (rec (i + 1) (l + 1)) : Nat) : Int)), (vI (RR.most (rec (i + 1) (l + 1)))), (vB (RR.ok (rec (i + 1) (l + 1))))]))) (by simp) (by kernel_rfl) (by rw [oneR]; first | (rw [if_pos (by omega)]; rfl) | (rw [if_neg (by omega)]; simp only [hb2, hb3, hb4, hb5, Bool.false_eq_true, if_false, if_true, reduceCtorEq]; first | rfl | (simp only [RR.av, nav, Nd.kind, Nd.name, Nd.kids, av2, av1_eq]; done) | (rw [if_pos (by omega)]; rfl) | (rw [if_neg (by omega)]; rfl))) (by simp) (by simp))
     ·refine GO (kb hb5 (tn 2 z)) (by kernel_rfl) ?_
      rcases Bool.eq_false_or_eq_true (eqs (nth t i) (⟨#[40]⟩)) with hb6 | hb6
      ·rcases Bool.eq_false_or_eq_true (!RR.ok (lst (i + 1) (l + 1))) with hb7 | hb7
       ·have hb7n : RR.ok (lst (i + 1) (l + 1)) = false := by simpa using hb7
        refine GO (kb hb6 (tn 2 (kn (wrE (((i : Nat) : Int) + 1) ((i + 1 : Nat) : Int) (by omega)) (tn 1 (kn (wrE (((l : Nat) : Int) + 1) ((l + 1 : Nat) : Int) (by omega)) (kg (hlst (i + 1) (l + 1) (by omega) (by omega) (by omega)) trivial (tn 13 (kb hb7 (kb hb7 (kb hb7 (kb hb7 (kb hb7 (tn 1 (kb tt (kb tt (kb tt (kb tt (kb tt (kb tt (kb tt (tn 5 z))))))))))))))))))))) (by kernel_rfl) ?_
        exact LEAF .ret (S2 := (sx 122 [(6, (.ptr 6 0)), (7, (jI 0)), (8, (jI 0)), (9, (jB false))] [(6, (.cells 119 [(jI 0), (jS (⟨#[]⟩)), .nil]))] [])) (by kernel_rfl) (WK (by kernel_rfl)) (ends (r := (.av (.tup [(.agg [(vI 0), (vS (⟨#[]⟩)), (.sl [])]), (vI 0), (vI 0), (vB false)]))) (by simp) (by kernel_rfl) (by rw [oneR]; first | (rw [if_pos (by omega)]; rfl) | (rw [if_neg (by omega)]; simp only [hb2, hb3, hb4, hb5, hb6, hb7n, Bool.false_eq_true, if_false, if_true, reduceCtorEq]; first | rfl | (simp only [RR.av, nav, Nd.kind, Nd.name, Nd.kids, av2, av1_eq]; done) | (rw [if_pos (by omega)]; rfl) | (rw [if_neg (by omega)]; rfl))) (by simp) (by simp))
       ·have hb7n : RR.ok (lst (i + 1) (l + 1)) = true := by simpa using hb7
        rcases Bool.eq_false_or_eq_true (decide (((RR.to (lst (i + 1) (l + 1)) : Nat) : Int) ≥ (((t.map strAV).length : Nat) : Int))) with hb8 | hb8
        ·have hb8p := of_decide_eq_true hb8
         refine GO (kb hb6 (tn 2 (kn (wrE (((i : Nat) : Int) + 1) ((i + 1 : Nat) : Int) (by omega)) (tn 1 (kn (wrE (((l : Nat) : Int) + 1) ((l + 1 : Nat) : Int) (by omega)) (kg (hlst (i + 1) (l + 1) (by omega) (by omega) (by omega)) trivial (tn 13 (kb hb7 (tn 1 (kb hb7 (tn 1 (kb hb7 (tn 1 (kb hb7 (tn 1 (kb hb7 (tn 1 (kb hb8 (kb hb8 (kb hb8 (kb hb8 (kb hb8 (kb hb8 (kb tt (tn 5 z))))))))))))))))))))))))) (by kernel_rfl) ?_
         exact LEAF .ret (S2 := (sx 122 [(6, (.ptr 6 0)), (7, (jI 0)), (8, (jI 0)), (9, (jB false))] [(6, (.cells 119 [(jI 0), (jS (⟨#[]⟩)), .nil]))] [])) (by kernel_rfl) (WK (by kernel_rfl)) (ends (r := (.av (.tup [(.agg [(vI 0), (vS (⟨#[]⟩)), (.sl [])]), (vI 0), (vI 0), (vB false)]))) (by simp) (by kernel_rfl) (by rw [oneR]; first | (rw [if_pos (by omega)]; rfl) | (rw [if_neg (by omega)]; simp only [hb2, hb3, hb4, hb5, hb6, hb7n, Bool.false_eq_true, if_false, if_true, reduceCtorEq]; first | rfl | (simp only [RR.av, nav, Nd.kind, Nd.name, Nd.kids, av2, av1_eq]; done) | (rw [if_pos (by omega)]; rfl) | (rw [if_neg (by omega)]; rfl))) (by simp) (by simp))
        ·have hb8p := of_decide_eq_false hb8
         refine GO (kb hb6 (tn 2 (kn (wrE (((i : Nat) : Int) + 1) ((i + 1 : Nat) : Int) (by omega)) (tn 1 (kn (wrE (((l : Nat) : Int) + 1) ((l + 1 : Nat) : Int) (by omega)) (kg (hlst (i + 1) (l + 1) (by omega) (by omega) (by omega)) trivial (tn 13 (kb hb7 (tn 1 (kb hb7 (tn 1 (kb hb7 (tn 1 (kb hb7 (tn 1 (kb hb7 (tn 1 (kb hb8 (tn 1 (kb hb8 (tn 1 (kb hb8 (ke (show 0 ≤ ((RR.to (lst (i + 1) (l + 1)) : Nat) : Int) ∧ ((t.map strAV) : List AV)[RR.to (lst (i + 1) (l + 1))]? = some (vS (nth t (RR.to (lst (i + 1) (l + 1))))) from (nth_at (by omega))) (kb hb8 (tn 1 (kb hb8 (tn 1 (kb hb8 z)))))))))))))))))))))))))))) (by kernel_rfl) ?_
         rcases Bool.eq_false_or_eq_true (!eqs (nth t (RR.to (lst (i + 1) (l + 1)))) (⟨#[41]⟩)) with hb9 | hb9
         ·have hb9n : eqs (nth t (RR.to (lst (i + 1) (l + 1)))) (⟨#[41]⟩) = false := by simpa using hb9
          refine GO (kb hb9 (tn 5 z)) (by kernel_rfl) ?_
          exact LEAF .ret (S2 := (sx 122 [(6, (.ptr 6 0)), (7, (jI 0)), (8, (jI 0)), (9, (jB false))] [(6, (.cells 119 [(jI 0), (jS (⟨#[]⟩)), .nil]))] [])) (by kernel_rfl) (WK (by kernel_rfl)) (ends (r := (.av (.tup [(.agg [(vI 0), (vS (⟨#[]⟩)), (.sl [])]), (vI 0), (vI 0), (vB false)]))) (by simp) (by kernel_rfl) (by rw [oneR]; first | (rw [if_pos (by omega)]; rfl) | (rw [if_neg (by omega)]; simp only [hb2, hb3, hb4, hb5, hb6, hb7n, hb9n, Bool.false_eq_true, if_false, if_true, reduceCtorEq]; first | rfl | (simp only [RR.av, nav, Nd.kind, Nd.name, Nd.kids, av2, av1_eq]; done) | (rw [if_pos (by omega)]; rfl) | (rw [if_neg (by omega)]; rfl))) (by simp) (by simp))
         ·have hb9n : eqs (nth t (RR.to (lst (i + 1) (l + 1)))) (⟨#[41]⟩) = true := by simpa using hb9
          refine GO (kb hb9 (tn 2 (kn (wrE (((RR.to (lst (i + 1) (l + 1)) : Nat) : Int) + 1) ((RR.to (lst (i + 1) (l + 1)) + 1 : Nat) : Int) (by omega)) (tn 7 z)))) (by kernel_rfl) ?_
          exact LEAF .ret (S2 := (sx 122 [(6, (.ptr 6 0)), (7, (jI ((RR.to (lst (i + 1) (l + 1)) + 1 : Nat) : Int))), (8, (jI (max (RR.most (lst (i + 1) (l + 1))) ((l : Nat) : Int)))), (9, (jB true))] [(6, (.cells 119 [(jI (Nd.kind (RR.nd (lst (i + 1) (l + 1))))), (jS (Nd.name (RR.nd (lst (i + 1) (l + 1))))), (jL (av2 (Nd.kids (RR.nd (lst (i + 1) (l + 1))))))]))] [])) (by kernel_rfl) (WK (by kernel_rfl)) (ends (r := (.av (.tup [(.agg [(vI (Nd.kind (RR.nd (lst (i + 1) (l + 1))))), (vS (Nd.name (RR.nd (lst (i + 1) (l + 1))))), (.sl (av2 (Nd.kids (RR.nd (lst (i + 1) (l + 1))))))]), (vI ((RR.to (lst (i + 1) (l + 1)) + 1 : Nat) : Int)), (vI (max (RR.most (lst (i + 1) (l + 1))) ((l : Nat) : Int))), (vB true)]))) (by simp) (by kernel_rfl) (by rw [oneR]; first | (rw [if_pos (by omega)]; rfl) | (rw [if_neg (by omega)]; simp only [hb2, hb3, hb4, hb5, hb6, hb7n, hb9n, Bool.false_eq_true, if_false, if_true, reduceCtorEq]; first | rfl | (simp only [RR.av, nav, Nd.kind, Nd.name, Nd.kids, av2, av1_eq]; done) | (rw [if_pos (by omega)]; rfl) | (rw [if_neg (by omega)]; rfl))) (by simp) (by simp))
      ·refine GO (kb hb6 (tn 2 z)) (by kernel_rfl) ?_
       rcases Bool.eq_false_or_eq_true (eqs (nth t i) (⟨#[116, 114, 117, 101]⟩)) with hb10 | hb10
       ·refine GO (kb hb10 (tn 2 (kn (wrE (((i : Nat) : Int) + 1) ((i + 1 : Nat) : Int) (by omega)) (tn 5 z)))) (by kernel_rfl) ?_
        exact LEAF .ret (S2 := (sx 122 [(6, (.ptr 6 0)), (7, (jI ((i + 1 : Nat) : Int))), (8, (jI ((l : Nat) : Int))), (9, (jB true))] [(6, (.cells 119 [(jI 2), (jS (⟨#[]⟩)), .nil]))] [])) (by kernel_rfl) (WK (by kernel_rfl)) (ends (r := (.av (.tup [(.agg [(vI 2), (vS (⟨#[]⟩)), (.sl [])]), (vI ((i + 1 : Nat) : Int)), (vI ((l : Nat) : Int)), (vB true)]))) (by simp) (by kernel_rfl) (by rw [oneR]; first | (rw [if_pos (by omega)]; rfl) | (rw [if_neg (by omega)]; simp only [hb2, hb3, hb4, hb5, hb6, hb10, Bool.false_eq_true, if_false, if_true, reduceCtorEq]; first | rfl | (simp only [RR.av, nav, Nd.kind, Nd.name, Nd.kids, av2, av1_eq]; done) | (rw [if_pos (by omega)]; rfl) | (rw [if_neg (by omega)]; rfl))) (by simp) (by simp))
       ·refine GO (kb hb10 (tn 2 z)) (by kernel_rfl) ?_
        rcases Bool.eq_false_or_eq_true (eqs (nth t i) (⟨#[102, 97, 108, 115, 101]⟩)) with hb11 | hb11
        ·refine GO (kb hb11 (tn 2 (kn (wrE (((i : Nat) : Int) + 1) ((i + 1 : Nat) : Int) (by omega)) (tn 5 z)))) (by kernel_rfl) ?_
         exact LEAF .ret (S2 := (sx 122 [(6, (.ptr 6 0)), (7, (jI ((i + 1 : Nat) : Int))), (8, (jI ((l : Nat) : Int))), (9, (jB true))] [(6, (.cells 119 [(jI 3), (jS (⟨#[]⟩)), .nil]))] [])) (by kernel_rfl) (WK (by kernel_rfl)) (ends (r := (.av (.tup [(.agg [(vI 3), (vS (⟨#[]⟩)), (.sl [])]), (vI ((i + 1 : Nat) : Int)), (vI ((l : Nat) : Int)), (vB true)]))) (by simp) (by kernel_rfl) (by rw [oneR]; first | (rw [if_pos (by omega)]; rfl) | (rw [if_neg (by omega)]; simp only [hb2, hb3, hb4, hb5, hb6, hb10, hb11, Bool.false_eq_true, if_false, if_true, reduceCtorEq]; first | rfl | (simp only [RR.av, nav, Nd.kind, Nd.name, Nd.kids, av2, av1_eq]; done) | (rw [if_pos (by omega)]; rfl) | (rw [if_neg (by omega)]; rfl))) (by simp) (by simp))
        ·refine GO (kb hb11 (tn 2 (ke (show 0 ≤ ((i : Nat) : Int) ∧ ((t.map strAV) : List AV)[i]? = some (vS (nth t i)) from (nth_at (by omega))) (tn 3 (kn (wrE (((i : Nat) : Int) + 1) ((i + 1 : Nat) : Int) (by omega)) (tn 5 z)))))) (by kernel_rfl) ?_
         exact LEAF .ret (S2 := (sx 122 [(6, (.ptr 6 0)), (7, (jI ((i + 1 : Nat) : Int))), (8, (jI ((l : Nat) : Int))), (9, (jB true))] [(6, (.cells 119 [(jI 1), (jS (nth t i)), .nil]))] [])) (by kernel_rfl) (WK (by kernel_rfl)) (ends (r := (.av (.tup [(.agg [(vI 1), (vS (nth t i)), (.sl [])]), (vI ((i + 1 : Nat) : Int)), (vI ((l : Nat) : Int)), (vB true)]))) (by simp) (by kernel_rfl) (by rw [oneR]; first | (rw [if_pos (by omega)]; rfl) | (rw [if_neg (by omega)]; simp only [hb2, hb3, hb4, hb5, hb6, hb10, hb11, Bool.false_eq_true, if_false, if_true, reduceCtorEq]; first | rfl | (simp only [RR.av, nav, Nd.kind, Nd.name, Nd.kids, av2, av1_eq]; done) | (rw [if_pos (by omega)]; rfl) | (rw [if_neg (by omega)]; rfl))) (by simp) (by simp))
theorem rone_to (t : List ByteArray) (ht : t.length ≤ 4096) : ∀ (n i l : Nat), l ≤ i → i ≤ t.length → t.length ≤ i + n → CallTo Tryz.prog 111 [(.av (.sl (t.map strAV))), (.av (.val (.int .i64 ((i : Nat) : Int)))), (.av (.val (.int .i64 ((l : Nat) : Int))))] [] [] (RR.av (rone t n i l)) [] []
 | 0, i, l, h1, h2, h3 => oneR_to t ht _ _ i l h1 h2 (fun j m q1 q2 => by omega) (fun j m q1 q2 => by omega)
 | n + 1, i, l, h1, h2, h3 => oneR_to t ht _ _ i l h1 h2 (fun j m q1 q2 q3 => rone_to t ht n j m q3 q2 (by omega)) (fun j m q1 q2 q3 =>
   rlist6_to t ht _ j m q2 (fun k _ k2 => fair_and (fair_rone t n) k m k2) (fun k k1 k2 =>
    rlist5_to t ht _ k m k2 (fun k' _ k2' => fair_rone t n k' m k2') (fun k' k1' k2' => rone_to t ht n k' m (by omega) k2' (by omega))))
theorem ror_to (t : List ByteArray) (ht : t.length ≤ 4096) (n : Nat) (hn : t.length ≤ n) : CallTo Tryz.prog 90 [(.av (.sl (t.map strAV))), (.av (.val (.int .i64 ((0 : Nat) : Int)))), (.av (.val (.int .i64 ((0 : Nat) : Int)))), (.av (.val (.int .i64 6)))] [] [] (RR.av (rorR (rone t n) t 0 0)) [] [] :=
 rlist6_to t ht _ 0 0 (Nat.zero_le _) (fun k _ k2 => fair_and (fair_rone t n) k 0 k2) (fun k k1 k2 =>
  rlist5_to t ht _ k 0 k2 (fun k' _ k2' => fair_rone t n k' 0 k2') (fun k' k1' k2' => rone_to t ht n k' 0 (by omega) k2' (by omega)))
end Go.Proofs.YtdaglbjgdakmcaaGreat
namespace Go.Proofs.YtdaglbjgdakmcaaGreat
open Go Go.Eng
set_option maxHeartbeats 2000000 in
theorem Read_to (s : ByteArray) (hs : s.size ≤ maxLen) : CallTo Tryz.prog 68 [(jS s)] [] [] (NE (readR s)) [] [] := by
 obtain ⟨T, hT⟩ : ∃ T, toks s 0 = T := ⟨_, rfl⟩
 have hml := mlen T
 have hTl : T.length ≤ s.size := by rw [← hT]; exact toks_len s _ 0 rfl
 have hsz : ∀ x ∈ T, x.size ≤ s.size := by rw [← hT]; exact toks_size s _ 0 rfl
 refine CallTo_of_body (n := 71) Tryz.func68 rfl (by kernel_rfl) Tryz.ntmps68 (by simp) (by simp) (by simp) (by simp [OkSV, SV.keys, ABox.svs, PV.keys, NE]) (by simp [OkSV, SV.keys, ABox.svs, PV.keys, NE]) (by simp [OkSV, SV.keys, ABox.svs, PV.keys, NE]) (by simp [OkSV, SV.keys, ABox.svs, PV.keys, NE]) rfl rfl ?_
 refine W_eq (sx 71 [(0, (jS s))] [] []) (by kernel_rfl) ?_
 refine WN ?_
 refine GO (tn 5 z) (by kernel_rfl) ?_
 rcases Bool.eq_false_or_eq_true (decide (((ByteArray.size s : Nat) : Int) > 4096)) with hb1 | hb1
 ·have hb1p := of_decide_eq_true hb1
  refine GO (kb hb1 (tn 3 z)) (by kernel_rfl) ?_
  exact LEAF .ret (S2 := (sx 71 [(2, (.ptr 2 0)), (3, (jI 3))] [(2, (.cells 119 [(jI 0), (jS (⟨#[]⟩)), .nil]))] [])) (by kernel_rfl) (WK (by kernel_rfl)) (ends (r := (.av (.tup [(.agg [(vI 0), (vS (⟨#[]⟩)), (.sl [])]), (vI 3)]))) (by simp) (by kernel_rfl) (by rw [readR, if_pos (by omega)]; rfl) (by simp) (by simp))
 ·have hb1p := of_decide_eq_false hb1
  refine GO (kb hb1 (tn 1 (kg (show CallTo Tryz.prog 88 [(jS s)] [] [] (jL (T.map strAV)) [] [] from (by rw [← hT]; exact rtokens_to s (by omega))) trivial (tn 2 z)))) (by kernel_rfl) ?_
  refine LP (I := fun N M S => ∃ i : Nat, (i ≤ T.length) ∧ (badI T i = badI T 0) ∧ N = T.length - i ∧ M = () ∧ S = (sx 71 [(2, (.ptr 2 0)), (4, (jL (T.map strAV))), (5, (jI ((i : Nat) : Int)))] [(2, (.cells 119 [(jI 0), (jS (⟨#[]⟩)), .nil]))] [])) (n := T.length - 0) (by kernel_rfl) ⟨0, Nat.zero_le _, rfl, rfl, rfl, rfl⟩ (wtr (S' := (sx 71 [(2, (.ptr 2 0)), (4, (jL (T.map strAV))), (5, (jI 0))] [(2, (.cells 119 [(jI 0), (jS (⟨#[]⟩)), .nil]))] [])) (WK (by kernel_rfl)) (weak_sx (show WkX _ _ _ from ⟨rfl, rfl, (by rfl), trivial⟩) (show WkBx _ _ from ⟨⟨rfl, ⟨rfl, rfl, rfl, trivial⟩⟩, trivial⟩) (show WkG _ _ _ from trivial))) ?_
  rintro N M S ⟨i, hi, hE, rfl, rfl, rfl⟩
  refine GO (tn 4 z) (by kernel_rfl) ?_
  rcases Bool.eq_false_or_eq_true (decide (((i : Nat) : Int) < (((T.map strAV).length : Nat) : Int))) with hb2 | hb2
  ·have hb2p := of_decide_eq_true hb2
   rcases Bool.eq_false_or_eq_true (!eqs (nth T i) (⟨#[40]⟩)) with hb3 | hb3
   ·have hb3n : eqs (nth T i) (⟨#[40]⟩) = false := by simpa using hb3
    rcases Bool.eq_false_or_eq_true (!eqs (nth T i) (⟨#[41]⟩)) with hb4 | hb4
    ·have hb4n : eqs (nth T i) (⟨#[41]⟩) = false := by simpa using hb4
     rcases Bool.eq_false_or_eq_true (!kwB (nth T i)) with hb5 | hb5
     ·have hb5n : kwB (nth T i) = false := by simpa using hb5
      refine GO (kb hb2 (tn 2 (ke (show 0 ≤ ((i : Nat) : Int) ∧ ((T.map strAV) : List AV)[i]? = some (vS (nth T i)) from (nth_at (by omega))) (tn 3 (kb hb3 (tn 1 (kb hb3 (tn 1 (kb hb3 (ke (show 0 ≤ ((i : Nat) : Int) ∧ ((T.map strAV) : List AV)[i]? = some (vS (nth T i)) from (nth_at (by omega))) (kb hb3 (tn 1 (kb hb3 (tn 1 (kb hb3 (tn 1 (kb hb4 (tn 1 (kb hb4 (tn 1 (kb hb4 (ke (show 0 ≤ ((i : Nat) : Int) ∧ ((T.map strAV) : List AV)[i]? = some (vS (nth T i)) from (nth_at (by omega))) (kb hb4 (tn 1 (kb hb4 (kg (keyword_to (nth T i)) trivial (kb hb4 (tn 1 (kb hb4 (tn 1 (kb hb5 (tn 1 (kb hb5 (tn 1 (kb hb5 (ke (show 0 ≤ ((i : Nat) : Int) ∧ ((T.map strAV) : List AV)[i]? = some (vS (nth T i)) from (nth_at (by omega))) (kb hb5 (tn 1 (kb hb5 (kg (show CallTo Tryz.prog 16 [(jS (nth T i))] [] [] (jB (nameB (nth T i))) [] [] from (rName_to (nth T i) (by unfold maxLen; have := hsz _ (nth_mem (t := T) (i := i) (by omega)); omega))) trivial (kb hb5 (tn 1 (kb hb5 z))))))))))))))))))))))))))))))))))))))))))) (by kernel_rfl) ?_
      rcases Bool.eq_false_or_eq_true (!nameB (nth T i)) with hb6 | hb6
      ·have hb6n : nameB (nth T i) = false := by simpa using hb6
       refine GO (kb hb6 (tn 3 z)) (by kernel_rfl) ?_
       refine OUT z (by kernel_rfl) ?_
       exact LEAF .ret (S2 := (sx 71 [(2, (.ptr 2 0)), (3, (jI 6))] [(2, (.cells 119 [(jI 0), (jS (⟨#[]⟩)), .nil]))] [])) (by kernel_rfl) (WK (by kernel_rfl)) (ends (r := (.av (.tup [(.agg [(vI 0), (vS (⟨#[]⟩)), (.sl [])]), (vI 6)]))) (by simp) (by kernel_rfl) (by rw [readR, if_neg (by omega), hT, readT]; rw [if_pos (by rw [← hE, badI_step T i (by omega)]; first | (simp [badF, *]; done) | simp [badF, specB, *])]; rfl) (by simp) (by simp))
      ·have hb6n : nameB (nth T i) = true := by simpa using hb6
       refine GO (kb hb6 (tn 1 (kn (wrE (((i : Nat) : Int) + 1) ((i + 1 : Nat) : Int) (by omega)) (tn 1 z)))) (by kernel_rfl) ?_
       exact AG (m := T.length - (i + 1)) ⟨i + 1, by omega, by rw [← hE, badI_step T i (by omega)]; simp [badF, specB, *], rfl, rfl, rfl⟩ (wtr (S' := (sx 71 [(2, (.ptr 2 0)), (4, (jL (T.map strAV))), (5, (jI ((i + 1 : Nat) : Int)))] [(2, (.cells 119 [(jI 0), (jS (⟨#[]⟩)), .nil]))] [])) (WK (by kernel_rfl)) (weak_sx (show WkX _ _ _ from ⟨rfl, rfl, (by rfl), trivial⟩) (show WkBx _ _ from ⟨⟨rfl, ⟨rfl, rfl, rfl, trivial⟩⟩, trivial⟩) (show WkG _ _ _ from trivial))) (by kernel_rfl) (by omega)
     ·have hb5n : kwB (nth T i) = true := by simpa using hb5
      refine GO (kb hb2 (tn 2 (ke (show 0 ≤ ((i : Nat) : Int) ∧ ((T.map strAV) : List AV)[i]? = some (vS (nth T i)) from (nth_at (by omega))) (tn 3 (kb hb3 (tn 1 (kb hb3 (tn 1 (kb hb3 (ke (show 0 ≤ ((i : Nat) : Int) ∧ ((T.map strAV) : List AV)[i]? = some (vS (nth T i)) from (nth_at (by omega))) (kb hb3 (tn 1 (kb hb3 (tn 1 (kb hb3 (tn 1 (kb hb4 (tn 1 (kb hb4 (tn 1 (kb hb4 (ke (show 0 ≤ ((i : Nat) : Int) ∧ ((T.map strAV) : List AV)[i]? = some (vS (nth T i)) from (nth_at (by omega))) (kb hb4 (tn 1 (kb hb4 (kg (keyword_to (nth T i)) trivial (kb hb4 (tn 1 (kb hb4 (tn 1 (kb hb5 (kb hb5 (kb hb5 (kb hb5 (kb hb5 (kb hb5 (kb hb5 (kb ff (tn 1 (kn (wrE (((i : Nat) : Int) + 1) ((i + 1 : Nat) : Int) (by omega)) (tn 1 z))))))))))))))))))))))))))))))))))))))))) (by kernel_rfl) ?_
      exact AG (m := T.length - (i + 1)) ⟨i + 1, by omega, by rw [← hE, badI_step T i (by omega)]; simp [badF, specB, *], rfl, rfl, rfl⟩ (wtr (S' := (sx 71 [(2, (.ptr 2 0)), (4, (jL (T.map strAV))), (5, (jI ((i + 1 : Nat) : Int)))] [(2, (.cells 119 [(jI 0), (jS (⟨#[]⟩)), .nil]))] [])) (WK (by kernel_rfl)) (weak_sx (show WkX _ _ _ from ⟨rfl, rfl, (by rfl), trivial⟩) (show WkBx _ _ from ⟨⟨rfl, ⟨rfl, rfl, rfl, trivial⟩⟩, trivial⟩) (show WkG _ _ _ from trivial))) (by kernel_rfl) (by omega)
    ·have hb4n : eqs (nth T i) (⟨#[41]⟩) = true := by simpa using hb4
     refine GO (kb hb2 (tn 2 (ke (show 0 ≤ ((i : Nat) : Int) ∧ ((T.map strAV) : List AV)[i]? = some (vS (nth T i)) from (nth_at (by omega))) (tn 3 (kb hb3 (tn 1 (kb hb3 (tn 1 (kb hb3 (ke (show 0 ≤ ((i : Nat) : Int) ∧ ((T.map strAV) : List AV)[i]? = some (vS (nth T i)) from (nth_at (by omega))) (kb hb3 (tn 1 (kb hb3 (tn 1 (kb hb3 (tn 1 (kb hb4 (kb hb4 (kb hb4 (kb hb4 (kb hb4 (kb hb4 (kb hb4 (tn 1 (kb ff (kb ff (kb ff (kb ff (kb ff (kb ff (kb ff (kb ff (tn 1 (kn (wrE (((i : Nat) : Int) + 1) ((i + 1 : Nat) : Int) (by omega)) (tn 1 z))))))))))))))))))))))))))))))))))) (by kernel_rfl) ?_
     exact AG (m := T.length - (i + 1)) ⟨i + 1, by omega, by rw [← hE, badI_step T i (by omega)]; simp [badF, specB, *], rfl, rfl, rfl⟩ (wtr (S' := (sx 71 [(2, (.ptr 2 0)), (4, (jL (T.map strAV))), (5, (jI ((i + 1 : Nat) : Int)))] [(2, (.cells 119 [(jI 0), (jS (⟨#[]⟩)), .nil]))] [])) (WK (by kernel_rfl)) (weak_sx (show WkX _ _ _ from ⟨rfl, rfl, (by rfl), trivial⟩) (show WkBx _ _ from ⟨⟨rfl, ⟨rfl, rfl, rfl, trivial⟩⟩, trivial⟩) (show WkG _ _ _ from trivial))) (by kernel_rfl) (by omega)
   ·have hb3n : eqs (nth T i) (⟨#[40]⟩) = true := by simpa using hb3
    refine GO (kb hb2 (tn 2 (ke (show 0 ≤ ((i : Nat) : Int) ∧ ((T.map strAV) : List AV)[i]? = some (vS (nth T i)) from (nth_at (by omega))) (tn 3 (kb hb3 (kb hb3 (kb hb3 (kb hb3 (kb hb3 (kb hb3 (tn 1 (kb ff (kb ff (kb ff (kb ff (kb ff (kb ff (kb ff (tn 1 (kb ff (kb ff (kb ff (kb ff (kb ff (kb ff (kb ff (kb ff (tn 1 (kn (wrE (((i : Nat) : Int) + 1) ((i + 1 : Nat) : Int) (by omega)) (tn 1 z)))))))))))))))))))))))))))))) (by kernel_rfl) ?_
    exact AG (m := T.length - (i + 1)) ⟨i + 1, by omega, by rw [← hE, badI_step T i (by omega)]; simp [badF, specB, *], rfl, rfl, rfl⟩ (wtr (S' := (sx 71 [(2, (.ptr 2 0)), (4, (jL (T.map strAV))), (5, (jI ((i + 1 : Nat) : Int)))] [(2, (.cells 119 [(jI 0), (jS (⟨#[]⟩)), .nil]))] [])) (WK (by kernel_rfl)) (weak_sx (show WkX _ _ _ from ⟨rfl, rfl, (by rfl), trivial⟩) (show WkBx _ _ from ⟨⟨rfl, ⟨rfl, rfl, rfl, trivial⟩⟩, trivial⟩) (show WkG _ _ _ from trivial))) (by kernel_rfl) (by omega)
  ·have hb2p := of_decide_eq_false hb2
   refine GO (kb hb2 z) (by kernel_rfl) ?_
   rcases Bool.eq_false_or_eq_true (!RR.ok (rtop T)) with hb7 | hb7
   ·have hb7n : RR.ok (rtop T) = false := by simpa using hb7
    refine OUT (tn 1 (kg (show CallTo Tryz.prog 90 [(jL (T.map strAV)), (jI 0), (jI 0), (jI 6)] [] [] (.av (.tup [(.agg [(vI (Nd.kind (RR.nd (rtop T)))), (vS (Nd.name (RR.nd (rtop T)))), (.sl (av2 (Nd.kids (RR.nd (rtop T)))))]), (vI ((RR.to (rtop T) : Nat) : Int)), (vI (RR.most (rtop T))), (vB (RR.ok (rtop T)))])) [] [] from (ror_to T (by omega) T.length (Nat.le_refl _))) trivial (tn 13 (kb hb7 (kb hb7 (kb hb7 (kb hb7 (kb hb7 (kb tt (tn 3 z)))))))))) (by kernel_rfl) ?_
    exact LEAF .ret (S2 := (sx 71 [(2, (.ptr 2 0)), (3, (jI 5))] [(2, (.cells 119 [(jI 0), (jS (⟨#[]⟩)), .nil]))] [])) (by kernel_rfl) (WK (by kernel_rfl)) (ends (r := (.av (.tup [(.agg [(vI 0), (vS (⟨#[]⟩)), (.sl [])]), (vI 5)]))) (by simp) (by kernel_rfl) (by rw [readR, if_neg (by omega), hT, readT]; rw [if_neg (by rw [← hE, badI_end T i (by omega)]; simp)]; rw [if_pos hb7n]; rfl) (by simp) (by simp))
   ·have hb7n : RR.ok (rtop T) = true := by simpa using hb7
    refine OUT (tn 1 (kg (show CallTo Tryz.prog 90 [(jL (T.map strAV)), (jI 0), (jI 0), (jI 6)] [] [] (.av (.tup [(.agg [(vI (Nd.kind (RR.nd (rtop T)))), (vS (Nd.name (RR.nd (rtop T)))), (.sl (av2 (Nd.kids (RR.nd (rtop T)))))]), (vI ((RR.to (rtop T) : Nat) : Int)), (vI (RR.most (rtop T))), (vB (RR.ok (rtop T)))])) [] [] from (ror_to T (by omega) T.length (Nat.le_refl _))) trivial (tn 13 (kb hb7 (tn 1 (kb hb7 (tn 1 (kb hb7 (tn 1 (kb hb7 (tn 1 (kb hb7 z)))))))))))) (by kernel_rfl) ?_
    rcases Bool.eq_false_or_eq_true (((RR.to (rtop T) : Nat) : Int) != (((T.map strAV).length : Nat) : Int)) with hb8 | hb8
    ·have hb8p := bne_iff_ne.1 hb8
     refine GO (kb hb8 (tn 3 z)) (by kernel_rfl) ?_
     exact LEAF .ret (S2 := (sx 71 [(2, (.ptr 2 0)), (3, (jI 5))] [(2, (.cells 119 [(jI 0), (jS (⟨#[]⟩)), .nil]))] [])) (by kernel_rfl) (WK (by kernel_rfl)) (ends (r := (.av (.tup [(.agg [(vI 0), (vS (⟨#[]⟩)), (.sl [])]), (vI 5)]))) (by simp) (by kernel_rfl) (by rw [readR, if_neg (by omega), hT, readT]; rw [if_neg (by rw [← hE, badI_end T i (by omega)]; simp)]; rw [if_neg (by rw [hb7n]; simp)]; rw [if_pos (by omega)]; rfl) (by simp) (by simp))
    ·have hb8p := eq_of_bne_false hb8
     refine GO (kb hb8 (tn 2 z)) (by kernel_rfl) ?_
     rcases Bool.eq_false_or_eq_true (decide ((RR.most (rtop T) : Int) > 16)) with hb9 | hb9
     ·have hb9p := of_decide_eq_true hb9
      refine GO (kb hb9 (tn 3 z)) (by kernel_rfl) ?_
      exact LEAF .ret (S2 := (sx 71 [(2, (.ptr 2 0)), (3, (jI 11))] [(2, (.cells 119 [(jI 0), (jS (⟨#[]⟩)), .nil]))] [])) (by kernel_rfl) (WK (by kernel_rfl)) (ends (r := (.av (.tup [(.agg [(vI 0), (vS (⟨#[]⟩)), (.sl [])]), (vI 11)]))) (by simp) (by kernel_rfl) (by rw [readR, if_neg (by omega), hT, readT]; rw [if_neg (by rw [← hE, badI_end T i (by omega)]; simp)]; rw [if_neg (by rw [hb7n]; simp)]; rw [if_neg (by omega), if_pos (by omega)]; rfl) (by simp) (by simp))
     ·have hb9p := of_decide_eq_false hb9
      refine GO (kb hb9 (tn 3 z)) (by kernel_rfl) ?_
      exact LEAF .ret (S2 := (sx 71 [(2, (.ptr 2 0)), (3, (jI 0))] [(2, (.cells 119 [(jI (Nd.kind (RR.nd (rtop T)))), (jS (Nd.name (RR.nd (rtop T)))), (jL (av2 (Nd.kids (RR.nd (rtop T)))))]))] [])) (by kernel_rfl) (WK (by kernel_rfl)) (ends (r := (.av (.tup [(.agg [(vI (Nd.kind (RR.nd (rtop T)))), (vS (Nd.name (RR.nd (rtop T)))), (.sl (av2 (Nd.kids (RR.nd (rtop T)))))]), (vI 0)]))) (by simp) (by kernel_rfl) (by rw [readR, if_neg (by omega), hT, readT]; rw [if_neg (by rw [← hE, badI_end T i (by omega)]; simp)]; rw [if_neg (by rw [hb7n]; simp)]; rw [if_neg (by omega), if_neg (by omega)]; rfl) (by simp) (by simp))
set_option maxHeartbeats 2000000 in
theorem valueR_step (v : Nd → Bool) (fl : List ByteArray) (hfl : fl.length ≤ maxLen) (x : Nd) (hk : x.kind = 4 → 1 ≤ x.kids.length) (hl : x.kids.length ≤ 1000000) (hrec : ∀ i, i < x.kids.length → CallTo Tryz.prog 69 [(.av (nav (ndth x.kids i))), (.av (.sl (fl.map strAV)))] [] [] (.av (.val (.bool (v (ndth x.kids i))))) [] []) : CallTo Tryz.prog 69 [(.av (.agg [(vI (Nd.kind x)), (vS (Nd.name x)), (.sl (av2 (Nd.kids x)))])), (jL (fl.map strAV))] [] [] (.av (.val (.bool (valB v fl x)))) [] [] := by
 have hml := av2_len x.kids
 refine CallTo_of_body (n := 52) Tryz.func69 rfl (by kernel_rfl) Tryz.ntmps69 (by simp) (by simp) (by simp) (by simp [OkSV, SV.keys, ABox.svs, PV.keys]) (by simp [OkSV, SV.keys, ABox.svs, PV.keys]) (by simp [OkSV, SV.keys, ABox.svs, PV.keys]) (by simp [OkSV, SV.keys, ABox.svs, PV.keys]) rfl rfl ?_
 refine W_eq (sx 52 [(0, (.av (.agg [(vI (Nd.kind x)), (vS (Nd.name x)), (.sl (av2 (Nd.kids x)))]))), (1, (jL (fl.map strAV)))] [] []) (by kernel_rfl) ?_
 refine WN ?_
 refine GO (tn 6 z) (by kernel_rfl) ?_
 rcases Bool.eq_false_or_eq_true ((Nd.kind x : Int) == 1) with hb1 | hb1
 ·have hb1p := eq_of_beq hb1
  refine GO (kb hb1 (tn 3 (kg (has_to fl (Nd.name x) (by omega)) trivial (tn 1 z)))) (by kernel_rfl) ?_
  exact LEAF .ret (S2 := (sx 52 [(4, (jB (hasI fl (Nd.name x) 0)))] [] [])) (by kernel_rfl) (WK (by kernel_rfl)) (ends (r := (jB (hasI fl (Nd.name x) 0))) (by simp) (by kernel_rfl) (bres (by rw [valB]; simp only [hb1, Bool.false_eq_true, if_false, if_true, Bool.or_true, Bool.true_or, Bool.or_false, Bool.or_self])) (by simp) (by simp))
 ·have hb1p := ne_of_beq_false hb1
  refine GO (kb hb1 (tn 2 z)) (by kernel_rfl) ?_
  rcases Bool.eq_false_or_eq_true ((Nd.kind x : Int) == 2) with hb2 | hb2
  ·have hb2p := eq_of_beq hb2
   refine GO (kb hb2 (tn 1 z)) (by kernel_rfl) ?_
   exact LEAF .ret (S2 := (sx 52 [(4, (jB true))] [] [])) (by kernel_rfl) (WK (by kernel_rfl)) (ends (r := (jB true)) (by simp) (by kernel_rfl) (bres (by rw [valB]; simp only [hb1, hb2, Bool.false_eq_true, if_false, if_true, Bool.or_true, Bool.true_or, Bool.or_false, Bool.or_self])) (by simp) (by simp))
  ·have hb2p := ne_of_beq_false hb2
   refine GO (kb hb2 (tn 2 z)) (by kernel_rfl) ?_
   rcases Bool.eq_false_or_eq_true ((Nd.kind x : Int) == 4) with hb3 | hb3
   ·have hb3p := eq_of_beq hb3
    refine GO (kb hb3 (tn 2 (ke (show 0 ≤ (0 : Int) ∧ ((av2 (Nd.kids x)) : List AV)[0]? = some (.agg [(vI (Nd.kind (ndth (Nd.kids x) 0))), (vS (Nd.name (ndth (Nd.kids x) 0))), (.sl (av2 (Nd.kids (ndth (Nd.kids x) 0))))]) from (av2_at (i := 0) (by omega))) (tn 2 (kg (hrec 0 (by omega)) trivial (tn 2 z)))))) (by kernel_rfl) ?_
    exact LEAF .ret (S2 := (sx 52 [(4, (jB (!v (ndth (Nd.kids x) 0))))] [] [])) (by kernel_rfl) (WK (by kernel_rfl)) (ends (r := (jB (!v (ndth (Nd.kids x) 0)))) (by simp) (by kernel_rfl) (bres (by rw [valB]; simp only [hb1, hb2, hb3, Bool.false_eq_true, if_false, if_true, Bool.or_true, Bool.true_or, Bool.or_false, Bool.or_self])) (by simp) (by simp))
   ·have hb3p := ne_of_beq_false hb3
    refine GO (kb hb3 (tn 2 z)) (by kernel_rfl) ?_
    rcases Bool.eq_false_or_eq_true ((Nd.kind x : Int) == 5) with hb4 | hb4
    ·have hb4p := eq_of_beq hb4
     refine GO (kb hb4 (kb hb4 (tn 1 z))) (by kernel_rfl) ?_
     refine LP (I := fun N M S => ∃ i : Nat, (i ≤ x.kids.length) ∧ (valL v x.kind (x.kids.drop i) = valL v x.kind x.kids) ∧ N = x.kids.length - i ∧ M = () ∧ S = (sx 52 [(1, (jL (fl.map strAV))), (2, (.ptr 2 0)), (5, (jI ((i : Nat) : Int)))] [(2, (.cells 119 [(jI (Nd.kind x)), (jS (Nd.name x)), (jL (av2 (Nd.kids x)))]))] [])) (n := x.kids.length - 0) (by kernel_rfl) ⟨0, Nat.zero_le _, rfl, rfl, rfl, rfl⟩ (wtr (S' := (sx 52 [(1, (jL (fl.map strAV))), (2, (.ptr 2 0)), (5, (jI 0))] [(2, (.cells 119 [(jI (Nd.kind x)), (jS (Nd.name x)), (jL (av2 (Nd.kids x)))]))] [])) (WK (by kernel_rfl)) (weak_sx (show WkX _ _ _ from ⟨rfl, rfl, (by rfl), trivial⟩) (show WkBx _ _ from ⟨⟨rfl, ⟨rfl, rfl, rfl, trivial⟩⟩, trivial⟩) (show WkG _ _ _ from trivial))) ?_
     rintro N M S ⟨i, hi, hE, rfl, rfl, rfl⟩
     refine GO (tn 5 z) (by kernel_rfl) ?_
     rcases Bool.eq_false_or_eq_true (decide (((i : Nat) : Int) < (((av2 (Nd.kids x)).length : Nat) : Int))) with hb5 | hb5
     ·have hb5p := of_decide_eq_true hb5
      refine GO (kb hb5 z) (by kernel_rfl) ?_
      have d6 := (show 0 ≤ ((i : Nat) : Int) ∧ ((av2 (Nd.kids x)) : List AV)[i]? = some (.agg [(vI (Nd.kind (ndth (Nd.kids x) i))), (vS (Nd.name (ndth (Nd.kids x) i))), (.sl (av2 (Nd.kids (ndth (Nd.kids x) i))))]) from (av2_at (i := i) (by omega)))
      have d7 := (hrec i (by omega))
      refine DR3 (tn 3 (ko (eO d6) (kp d6 (tn 2 (ko (cO d7) (kp d7 (tn 5 z))))))) (by kernel_rfl) (by kernel_rfl) (by kernel_rfl) ?_
      rcases Bool.eq_false_or_eq_true (v (ndth (Nd.kids x) i) == ((Nd.kind x : Int) == 6)) with hb8 | hb8
      ·refine GO (kb hb8 (tn 4 z)) (by kernel_rfl) ?_
       refine OUT z (by kernel_rfl) ?_
       exact LEAF .ret (S2 := (sx 52 [(4, (jB ((Nd.kind x : Int) == 6)))] [] [])) (by kernel_rfl) (WK (by kernel_rfl)) (ends (r := (jB ((Nd.kind x : Int) == 6))) (by simp) (by kernel_rfl) (bres (by rw [valB]; simp only [hb1, hb2, hb3, hb4, Bool.false_eq_true, if_false, if_true, Bool.or_true, Bool.true_or, Bool.or_false, Bool.or_self]; rw [← hE, valL_step v x.kind x.kids i (by omega), if_pos hb8]; first | done | simp only [hb1, hb2, hb3, hb4])) (by simp) (by simp))
      ·refine GO (kb hb8 (tn 1 (kn (wrE (((i : Nat) : Int) + 1) ((i + 1 : Nat) : Int) (by omega)) (tn 1 z)))) (by kernel_rfl) ?_
       exact AG (m := x.kids.length - (i + 1)) ⟨i + 1, by omega, by rw [← hE, valL_step v x.kind x.kids i (by omega), if_neg (by rw [hb8]; simp)], rfl, rfl, rfl⟩ (wtr (S' := (sx 52 [(1, (jL (fl.map strAV))), (2, (.ptr 2 0)), (5, (jI ((i + 1 : Nat) : Int)))] [(2, (.cells 119 [(jI (Nd.kind x)), (jS (Nd.name x)), (jL (av2 (Nd.kids x)))]))] [])) (WK (by kernel_rfl)) (weak_sx (show WkX _ _ _ from ⟨rfl, rfl, (by rfl), trivial⟩) (show WkBx _ _ from ⟨⟨rfl, ⟨rfl, rfl, rfl, trivial⟩⟩, trivial⟩) (show WkG _ _ _ from trivial))) (by kernel_rfl) (by omega)
     ·have hb5p := of_decide_eq_false hb5
      refine GO (kb hb5 z) (by kernel_rfl) ?_
      refine OUT (tn 4 z) (by kernel_rfl) ?_
      exact LEAF .ret (S2 := (sx 52 [(4, (jB ((Nd.kind x : Int) == 5)))] [] [])) (by kernel_rfl) (WK (by kernel_rfl)) (ends (r := (jB ((Nd.kind x : Int) == 5))) (by simp) (by kernel_rfl) (bres (by rw [valB]; simp only [hb1, hb2, hb3, hb4, Bool.false_eq_true, if_false, if_true, Bool.or_true, Bool.true_or, Bool.or_false, Bool.or_self]; rw [← hE, valL_end v x.kind x.kids i (by omega)]; first | done | simp only [hb1, hb2, hb3, hb4])) (by simp) (by simp))
    ·have hb4p := ne_of_beq_false hb4
     refine GO (kb hb4 (tn 2 z)) (by kernel_rfl) ?_
     rcases Bool.eq_false_or_eq_true ((Nd.kind x : Int) == 6) with hb9 | hb9
     ·have hb9p := eq_of_beq hb9
      refine GO (kb hb9 (tn 1 z)) (by kernel_rfl) ?_
      refine LP (I := fun N M S => ∃ i : Nat, (i ≤ x.kids.length) ∧ (valL v x.kind (x.kids.drop i) = valL v x.kind x.kids) ∧ N = x.kids.length - i ∧ M = () ∧ S = (sx 52 [(1, (jL (fl.map strAV))), (2, (.ptr 2 0)), (5, (jI ((i : Nat) : Int)))] [(2, (.cells 119 [(jI (Nd.kind x)), (jS (Nd.name x)), (jL (av2 (Nd.kids x)))]))] [])) (n := x.kids.length - 0) (by kernel_rfl) ⟨0, Nat.zero_le _, rfl, rfl, rfl, rfl⟩ (wtr (S' := (sx 52 [(1, (jL (fl.map strAV))), (2, (.ptr 2 0)), (5, (jI 0))] [(2, (.cells 119 [(jI (Nd.kind x)), (jS (Nd.name x)), (jL (av2 (Nd.kids x)))]))] [])) (WK (by kernel_rfl)) (weak_sx (show WkX _ _ _ from ⟨rfl, rfl, (by rfl), trivial⟩) (show WkBx _ _ from ⟨⟨rfl, ⟨rfl, rfl, rfl, trivial⟩⟩, trivial⟩) (show WkG _ _ _ from trivial))) ?_
      rintro N M S ⟨i, hi, hE, rfl, rfl, rfl⟩
      refine GO (tn 5 z) (by kernel_rfl) ?_
      rcases Bool.eq_false_or_eq_true (decide (((i : Nat) : Int) < (((av2 (Nd.kids x)).length : Nat) : Int))) with hb10 | hb10
      ·have hb10p := of_decide_eq_true hb10
       refine GO (kb hb10 z) (by kernel_rfl) ?_
       have d11 := (show 0 ≤ ((i : Nat) : Int) ∧ ((av2 (Nd.kids x)) : List AV)[i]? = some (.agg [(vI (Nd.kind (ndth (Nd.kids x) i))), (vS (Nd.name (ndth (Nd.kids x) i))), (.sl (av2 (Nd.kids (ndth (Nd.kids x) i))))]) from (av2_at (i := i) (by omega)))
       have d12 := (hrec i (by omega))
       refine DR3 (tn 3 (ko (eO d11) (kp d11 (tn 2 (ko (cO d12) (kp d12 (tn 5 z))))))) (by kernel_rfl) (by kernel_rfl) (by kernel_rfl) ?_
       rcases Bool.eq_false_or_eq_true (v (ndth (Nd.kids x) i) == ((Nd.kind x : Int) == 6)) with hb13 | hb13
       ·refine GO (kb hb13 (tn 4 z)) (by kernel_rfl) ?_
        refine OUT z (by kernel_rfl) ?_
        exact LEAF .ret (S2 := (sx 52 [(4, (jB ((Nd.kind x : Int) == 6)))] [] [])) (by kernel_rfl) (WK (by kernel_rfl)) (ends (r := (jB ((Nd.kind x : Int) == 6))) (by simp) (by kernel_rfl) (bres (by rw [valB]; simp only [hb1, hb2, hb3, hb4, hb9, Bool.false_eq_true, if_false, if_true, Bool.or_true, Bool.true_or, Bool.or_false, Bool.or_self]; rw [← hE, valL_step v x.kind x.kids i (by omega), if_pos hb13]; first | done | simp only [hb1, hb2, hb3, hb4, hb9])) (by simp) (by simp))
       ·refine GO (kb hb13 (tn 1 (kn (wrE (((i : Nat) : Int) + 1) ((i + 1 : Nat) : Int) (by omega)) (tn 1 z)))) (by kernel_rfl) ?_
        exact AG (m := x.kids.length - (i + 1)) ⟨i + 1, by omega, by rw [← hE, valL_step v x.kind x.kids i (by omega), if_neg (by rw [hb13]; simp)], rfl, rfl, rfl⟩ (wtr (S' := (sx 52 [(1, (jL (fl.map strAV))), (2, (.ptr 2 0)), (5, (jI ((i + 1 : Nat) : Int)))] [(2, (.cells 119 [(jI (Nd.kind x)), (jS (Nd.name x)), (jL (av2 (Nd.kids x)))]))] [])) (WK (by kernel_rfl)) (weak_sx (show WkX _ _ _ from ⟨rfl, rfl, (by rfl), trivial⟩) (show WkBx _ _ from ⟨⟨rfl, ⟨rfl, rfl, rfl, trivial⟩⟩, trivial⟩) (show WkG _ _ _ from trivial))) (by kernel_rfl) (by omega)
      ·have hb10p := of_decide_eq_false hb10
       refine GO (kb hb10 z) (by kernel_rfl) ?_
       refine OUT (tn 4 z) (by kernel_rfl) ?_
       exact LEAF .ret (S2 := (sx 52 [(4, (jB ((Nd.kind x : Int) == 5)))] [] [])) (by kernel_rfl) (WK (by kernel_rfl)) (ends (r := (jB ((Nd.kind x : Int) == 5))) (by simp) (by kernel_rfl) (bres (by rw [valB]; simp only [hb1, hb2, hb3, hb4, hb9, Bool.false_eq_true, if_false, if_true, Bool.or_true, Bool.true_or, Bool.or_false, Bool.or_self]; rw [← hE, valL_end v x.kind x.kids i (by omega)]; first | done | simp only [hb1, hb2, hb3, hb4, hb9])) (by simp) (by simp))
     ·have hb9p := ne_of_beq_false hb9
      refine GO (kb hb9 (tn 1 z)) (by kernel_rfl) ?_
      exact LEAF .ret (S2 := (sx 52 [(4, (jB false))] [] [])) (by kernel_rfl) (WK (by kernel_rfl)) (ends (r := (jB false)) (by simp) (by kernel_rfl) (bres (by rw [valB]; simp only [hb1, hb2, hb3, hb4, hb9, Bool.false_eq_true, if_false, if_true, Bool.or_true, Bool.true_or, Bool.or_false, Bool.or_self])) (by simp) (by simp))
mutual
theorem valueR_to (fl : List ByteArray) (hfl : fl.length ≤ maxLen) : ∀ x : Nd, okN x → CallTo Tryz.prog 69 [(.av (nav x)), (.av (.sl (fl.map strAV)))] [] [] (.av (.val (.bool (valR fl x)))) [] []
 | .mk k nm kids, h => by
  simp only [okN] at h
  rw [valR_eq]
  exact valueR_step (valR fl) fl hfl (.mk k nm kids) h.1 h.2.1 (fun i hi => valuesR_to fl hfl kids h.2.2 i hi)
theorem valuesR_to (fl : List ByteArray) (hfl : fl.length ≤ maxLen) : ∀ l : List Nd, okNs l → ∀ i, i < l.length → CallTo Tryz.prog 69 [(.av (nav (ndth l i))), (.av (.sl (fl.map strAV)))] [] [] (.av (.val (.bool (valR fl (ndth l i))))) [] []
 | [], _, i, hi => by simp at hi
 | x :: l, h, 0, _ => by simp only [okNs] at h; exact valueR_to fl hfl x h.1
 | x :: l, h, i + 1, hi => by simp only [okNs] at h; exact valuesR_to fl hfl l h.2 i (by simpa using hi)
end
end Go.Proofs.YtdaglbjgdakmcaaGreat
namespace Go.Proofs.YtdaglbjgdakmcaaGreat
open Go Go.Eng
set_option maxHeartbeats 2000000 in
theorem parse_to (s : ByteArray) (hs : s.size ≤ maxLen) : CallTo Tryz.prog 38 [(jS s)] [] [] (NE (parseP s)) [] [] := by
 obtain ⟨T, hT⟩ : ∃ T, toks s 0 = T := ⟨_, rfl⟩
 have hml := mlen T
 have hTl : T.length ≤ s.size := by rw [← hT]; exact toks_len s _ 0 rfl
 have hsz : ∀ x ∈ T, x.size ≤ s.size := by rw [← hT]; exact toks_size s _ 0 rfl
 refine CallTo_of_body (n := 53) Tryz.func38 rfl (by kernel_rfl) Tryz.ntmps38 (by simp) (by simp) (by simp) (by simp [OkSV, SV.keys, ABox.svs, PV.keys, NE]) (by simp [OkSV, SV.keys, ABox.svs, PV.keys, NE]) (by simp [OkSV, SV.keys, ABox.svs, PV.keys, NE]) (by simp [OkSV, SV.keys, ABox.svs, PV.keys, NE]) rfl rfl ?_
 refine W_eq (sx 53 [(0, (jS s))] [] []) (by kernel_rfl) ?_
 refine WN ?_
 refine GO (tn 5 z) (by kernel_rfl) ?_
 rcases Bool.eq_false_or_eq_true (decide (((ByteArray.size s : Nat) : Int) > 4096)) with hb1 | hb1
 ·have hb1p := of_decide_eq_true hb1
  refine GO (kb hb1 (tn 3 z)) (by kernel_rfl) ?_
  exact LEAF .ret (S2 := (sx 53 [(2, (.ptr 2 0)), (3, (jI 3))] [(2, (.cells 77 [(jI 0), (jS (⟨#[]⟩)), .nil]))] [])) (by kernel_rfl) (WK (by kernel_rfl)) (ends (r := (.av (.tup [(.agg [(vI 0), (vS (⟨#[]⟩)), (.sl [])]), (vI 3)]))) (by simp) (by kernel_rfl) (by rw [parseP, if_pos (by omega)]; rfl) (by simp) (by simp))
 ·have hb1p := of_decide_eq_false hb1
  refine GO (kb hb1 (tn 1 (kg (show CallTo Tryz.prog 40 [(jS s)] [] [] (jL (T.map strAV)) [] [] from (by rw [← hT]; exact tokens_to s (by omega))) trivial (tn 7 z)))) (by kernel_rfl) ?_
  refine LP (I := fun N M S => ∃ i : Nat, (i ≤ T.length) ∧ (badI T i = badI T 0) ∧ N = T.length - i ∧ M = () ∧ S = (sx 53 [(2, (.ptr 2 0)), (4, (.ptr 4 0)), (17, (jL (T.map strAV))), (18, (jI (((T.map strAV).length : Nat) : Int))), (19, (jI ((i : Nat) : Int)))] [(4, (.cells 107 [(jL (T.map strAV)), (jI 0), (jI 0)])), (2, (.cells 77 [(jI 0), (jS (⟨#[]⟩)), .nil]))] [])) (n := T.length - 0) (by kernel_rfl) ⟨0, Nat.zero_le _, rfl, rfl, rfl, rfl⟩ (wtr (S' := (sx 53 [(2, (.ptr 2 0)), (4, (.ptr 4 0)), (17, (jL (T.map strAV))), (18, (jI (((T.map strAV).length : Nat) : Int))), (19, (jI 0))] [(4, (.cells 107 [(jL (T.map strAV)), (jI 0), (jI 0)])), (2, (.cells 77 [(jI 0), (jS (⟨#[]⟩)), .nil]))] [])) (WK (by kernel_rfl)) (weak_sx (show WkX _ _ _ from ⟨rfl, rfl, rfl, rfl, (by rfl), trivial⟩) (show WkBx _ _ from ⟨⟨rfl, ⟨rfl, rfl, rfl, trivial⟩⟩, ⟨rfl, ⟨rfl, rfl, rfl, trivial⟩⟩, trivial⟩) (show WkG _ _ _ from trivial))) ?_
  rintro N M S ⟨i, hi, hE, rfl, rfl, rfl⟩
  refine GO (tn 1 z) (by kernel_rfl) ?_
  rcases Bool.eq_false_or_eq_true (decide (((i : Nat) : Int) < (((T.map strAV).length : Nat) : Int))) with hb2 | hb2
  ·have hb2p := of_decide_eq_true hb2
   rcases Bool.eq_false_or_eq_true (!specB (nth T i)) with hb3 | hb3
   ·have hb3n : specB (nth T i) = false := by simpa using hb3
    refine GO (kb hb2 (ke (show 0 ≤ ((i : Nat) : Int) ∧ ((T.map strAV) : List AV)[i]? = some (vS (nth T i)) from (nth_at (by omega))) (tn 3 (kg (special_to (nth T i)) trivial (tn 2 (kb hb3 (tn 1 (kb hb3 (kg (show CallTo Tryz.prog 60 [(jS (nth T i))] [] [] (jB (nameB (nth T i))) [] [] from (Name_to (nth T i) (by unfold maxLen; have := hsz _ (nth_mem (t := T) (i := i) (by omega)); omega))) trivial (kb hb3 (tn 1 (kb hb3 z)))))))))))) (by kernel_rfl) ?_
    rcases Bool.eq_false_or_eq_true (!nameB (nth T i)) with hb4 | hb4
    ·have hb4n : nameB (nth T i) = false := by simpa using hb4
     refine GO (kb hb4 (tn 3 z)) (by kernel_rfl) ?_
     refine OUT z (by kernel_rfl) ?_
     exact LEAF .ret (S2 := (sx 53 [(2, (.ptr 2 0)), (3, (jI 6))] [(2, (.cells 77 [(jI 0), (jS (⟨#[]⟩)), .nil]))] [])) (by kernel_rfl) (WK (by kernel_rfl)) (ends (r := (.av (.tup [(.agg [(vI 0), (vS (⟨#[]⟩)), (.sl [])]), (vI 6)]))) (by simp) (by kernel_rfl) (by rw [parseP, if_neg (by omega), hT, parseT]; rw [if_pos (by rw [← hE, badI_step T i (by omega)]; first | (simp [badF, *]; done) | simp [badF, specB, *])]; rfl) (by simp) (by simp))
    ·have hb4n : nameB (nth T i) = true := by simpa using hb4
     refine GO (kb hb4 (kn (wrE (((i : Nat) : Int) + 1) ((i + 1 : Nat) : Int) (by omega)) (tn 1 z))) (by kernel_rfl) ?_
     exact AG (m := T.length - (i + 1)) ⟨i + 1, by omega, by rw [← hE, badI_step T i (by omega)]; simp [badF, *], rfl, rfl, rfl⟩ (wtr (S' := (sx 53 [(2, (.ptr 2 0)), (4, (.ptr 4 0)), (17, (jL (T.map strAV))), (18, (jI (((T.map strAV).length : Nat) : Int))), (19, (jI ((i + 1 : Nat) : Int)))] [(4, (.cells 107 [(jL (T.map strAV)), (jI 0), (jI 0)])), (2, (.cells 77 [(jI 0), (jS (⟨#[]⟩)), .nil]))] [])) (WK (by kernel_rfl)) (weak_sx (show WkX _ _ _ from ⟨rfl, rfl, rfl, rfl, (by rfl), trivial⟩) (show WkBx _ _ from ⟨⟨rfl, ⟨rfl, rfl, rfl, trivial⟩⟩, ⟨rfl, ⟨rfl, rfl, rfl, trivial⟩⟩, trivial⟩) (show WkG _ _ _ from trivial))) (by kernel_rfl) (by omega)
   ·have hb3n : specB (nth T i) = true := by simpa using hb3
    refine GO (kb hb2 (ke (show 0 ≤ ((i : Nat) : Int) ∧ ((T.map strAV) : List AV)[i]? = some (vS (nth T i)) from (nth_at (by omega))) (tn 3 (kg (special_to (nth T i)) trivial (tn 2 (kb hb3 (kb hb3 (kb hb3 (kb hb3 (kb ff (kn (wrE (((i : Nat) : Int) + 1) ((i + 1 : Nat) : Int) (by omega)) (tn 1 z)))))))))))) (by kernel_rfl) ?_
    exact AG (m := T.length - (i + 1)) ⟨i + 1, by omega, by rw [← hE, badI_step T i (by omega)]; simp [badF, *], rfl, rfl, rfl⟩ (wtr (S' := (sx 53 [(2, (.ptr 2 0)), (4, (.ptr 4 0)), (17, (jL (T.map strAV))), (18, (jI (((T.map strAV).length : Nat) : Int))), (19, (jI ((i + 1 : Nat) : Int)))] [(4, (.cells 107 [(jL (T.map strAV)), (jI 0), (jI 0)])), (2, (.cells 77 [(jI 0), (jS (⟨#[]⟩)), .nil]))] [])) (WK (by kernel_rfl)) (weak_sx (show WkX _ _ _ from ⟨rfl, rfl, rfl, rfl, (by rfl), trivial⟩) (show WkBx _ _ from ⟨⟨rfl, ⟨rfl, rfl, rfl, trivial⟩⟩, ⟨rfl, ⟨rfl, rfl, rfl, trivial⟩⟩, trivial⟩) (show WkG _ _ _ from trivial))) (by kernel_rfl) (by omega)
  ·have hb2p := of_decide_eq_false hb2
   refine GO (kb hb2 z) (by kernel_rfl) ?_
   rcases Bool.eq_false_or_eq_true (!PR.ok (ptop T)) with hb5 | hb5
   ·have hb5n : PR.ok (ptop T) = false := by simpa using hb5
    refine OUT (kg (show CallTo Tryz.prog 61 [(.ptr 4 0), (jI 0)] [(4, (.cells 107 [(jL (T.map strAV)), (jI 0), (jI 0)]))] [] (.av (.tup [(.agg [(vI (Nd.kind (PR.nd (ptop T)))), (vS (Nd.name (PR.nd (ptop T)))), (.sl (av2 (Nd.kids (PR.nd (ptop T)))))]), (vB (PR.ok (ptop T)))])) [(4, (.cells 107 [(jL (T.map strAV)), (jI (((ptop T).pos : Nat) : Int)), (jI ((ptop T).deep))]))] [] from (by have h := CallTo_ren (swap_inv (4, 0) (1000, 0) rfl) (cond_to T (by omega) 0 T.length (Nat.le_refl _)); exact h)) trivial (tn 9 (kb hb5 (kb hb5 (kb hb5 (kb hb5 (kb hb5 (kb hb5 (kb hb5 (kb tt (tn 3 z))))))))))) (by kernel_rfl) ?_
    exact LEAF .ret (S2 := (sx 53 [(2, (.ptr 2 0)), (3, (jI 5))] [(2, (.cells 77 [(jI 0), (jS (⟨#[]⟩)), .nil]))] [])) (by kernel_rfl) (WK (by kernel_rfl)) (ends (r := (.av (.tup [(.agg [(vI 0), (vS (⟨#[]⟩)), (.sl [])]), (vI 5)]))) (by simp) (by kernel_rfl) (by rw [parseP, if_neg (by omega), hT, parseT]; rw [if_neg (by rw [← hE, badI_end T i (by omega)]; simp)]; rw [if_pos hb5n]; rfl) (by simp) (by simp))
   ·have hb5n : PR.ok (ptop T) = true := by simpa using hb5
    refine OUT (kg (show CallTo Tryz.prog 61 [(.ptr 4 0), (jI 0)] [(4, (.cells 107 [(jL (T.map strAV)), (jI 0), (jI 0)]))] [] (.av (.tup [(.agg [(vI (Nd.kind (PR.nd (ptop T)))), (vS (Nd.name (PR.nd (ptop T)))), (.sl (av2 (Nd.kids (PR.nd (ptop T)))))]), (vB (PR.ok (ptop T)))])) [(4, (.cells 107 [(jL (T.map strAV)), (jI (((ptop T).pos : Nat) : Int)), (jI ((ptop T).deep))]))] [] from (by have h := CallTo_ren (swap_inv (4, 0) (1000, 0) rfl) (cond_to T (by omega) 0 T.length (Nat.le_refl _)); exact h)) trivial (tn 9 (kb hb5 (tn 1 (kb hb5 (tn 1 (kb hb5 (tn 1 (kb hb5 (tn 1 (kb hb5 (tn 1 (kb hb5 (tn 1 (kb hb5 z))))))))))))))) (by kernel_rfl) ?_
    rcases Bool.eq_false_or_eq_true (decide ((((ptop T).pos : Nat) : Int) < (((T.map strAV).length : Nat) : Int))) with hb6 | hb6
    ·have hb6p := of_decide_eq_true hb6
     refine GO (kb hb6 (tn 3 z)) (by kernel_rfl) ?_
     exact LEAF .ret (S2 := (sx 53 [(2, (.ptr 2 0)), (3, (jI 5))] [(2, (.cells 77 [(jI 0), (jS (⟨#[]⟩)), .nil]))] [])) (by kernel_rfl) (WK (by kernel_rfl)) (ends (r := (.av (.tup [(.agg [(vI 0), (vS (⟨#[]⟩)), (.sl [])]), (vI 5)]))) (by simp) (by kernel_rfl) (by rw [parseP, if_neg (by omega), hT, parseT]; rw [if_neg (by rw [← hE, badI_end T i (by omega)]; simp)]; rw [if_neg (by rw [hb5n]; simp)]; rw [if_pos (by omega)]; rfl) (by simp) (by simp))
    ·have hb6p := of_decide_eq_false hb6
     refine GO (kb hb6 (tn 3 z)) (by kernel_rfl) ?_
     rcases Bool.eq_false_or_eq_true (decide (((ptop T).deep : Int) > 16)) with hb7 | hb7
     ·have hb7p := of_decide_eq_true hb7
      refine GO (kb hb7 (tn 3 z)) (by kernel_rfl) ?_
      exact LEAF .ret (S2 := (sx 53 [(2, (.ptr 2 0)), (3, (jI 11))] [(2, (.cells 77 [(jI 0), (jS (⟨#[]⟩)), .nil]))] [])) (by kernel_rfl) (WK (by kernel_rfl)) (ends (r := (.av (.tup [(.agg [(vI 0), (vS (⟨#[]⟩)), (.sl [])]), (vI 11)]))) (by simp) (by kernel_rfl) (by rw [parseP, if_neg (by omega), hT, parseT]; rw [if_neg (by rw [← hE, badI_end T i (by omega)]; simp)]; rw [if_neg (by rw [hb5n]; simp)]; rw [if_neg (by omega), if_pos (by omega)]; rfl) (by simp) (by simp))
     ·have hb7p := of_decide_eq_false hb7
      refine GO (kb hb7 (tn 3 z)) (by kernel_rfl) ?_
      exact LEAF .ret (S2 := (sx 53 [(2, (.ptr 2 0)), (3, (jI 0))] [(2, (.cells 77 [(jI (Nd.kind (PR.nd (ptop T)))), (jS (Nd.name (PR.nd (ptop T)))), (jL (av2 (Nd.kids (PR.nd (ptop T)))))]))] [])) (by kernel_rfl) (WK (by kernel_rfl)) (ends (r := (.av (.tup [(.agg [(vI (Nd.kind (PR.nd (ptop T)))), (vS (Nd.name (PR.nd (ptop T)))), (.sl (av2 (Nd.kids (PR.nd (ptop T)))))]), (vI 0)]))) (by simp) (by kernel_rfl) (by rw [parseP, if_neg (by omega), hT, parseT]; rw [if_neg (by rw [← hE, badI_end T i (by omega)]; simp)]; rw [if_neg (by rw [hb5n]; simp)]; rw [if_neg (by omega), if_neg (by omega)]; rfl) (by simp) (by simp))
set_option maxHeartbeats 2000000 in
theorem valueP_step (v : Nd → Bool) (fl : List ByteArray) (x : Nd) (hk : x.kind = 3 → 1 ≤ x.kids.length) (hl : x.kids.length ≤ 1000000) (hrec : ∀ i, i < x.kids.length → CallTo Tryz.prog 39 [(.av (nav (ndth x.kids i))), (.av (.rm (setF fl []) (trues (setF fl []))))] [] [] (.av (.val (.bool (v (ndth x.kids i))))) [] []) : CallTo Tryz.prog 39 [(.av (.agg [(vI (Nd.kind x)), (vS (Nd.name x)), (.sl (av2 (Nd.kids x)))])), (.av (.rm (setF fl []) (trues (setF fl []))))] [] [] (.av (.val (.bool (valPB v fl x)))) [] [] := by
 have hml := av2_len x.kids
 refine CallTo_of_body (n := 56) Tryz.func39 rfl (by kernel_rfl) Tryz.ntmps39 (by simp) (by simp) (by simp) (by simp [OkSV, SV.keys, ABox.svs, PV.keys]) (by simp [OkSV, SV.keys, ABox.svs, PV.keys]) (by simp [OkSV, SV.keys, ABox.svs, PV.keys]) (by simp [OkSV, SV.keys, ABox.svs, PV.keys]) rfl rfl ?_
 refine W_eq (sx 56 [(0, (.av (.agg [(vI (Nd.kind x)), (vS (Nd.name x)), (.sl (av2 (Nd.kids x)))]))), (1, (.av (.rm (setF fl []) (trues (setF fl [])))))] [] []) (by kernel_rfl) ?_
 refine WN ?_
 refine GO (tn 6 z) (by kernel_rfl) ?_
 rcases Bool.eq_false_or_eq_true ((Nd.kind x : Int) == 1) with hb1 | hb1
 ·have hb1p := eq_of_beq hb1
  refine GO (kb hb1 (tn 4 z)) (by kernel_rfl) ?_
  refine LP (I := fun N M S => ∃ i : Nat, (i ≤ x.kids.length) ∧ (anyI v x.kids i = anyI v x.kids 0) ∧ N = x.kids.length - i ∧ M = () ∧ S = (sx 56 [(1, (.av (.rm (setF fl []) (trues (setF fl []))))), (14, (jL (av2 (Nd.kids x)))), (15, (jI (((av2 (Nd.kids x)).length : Nat) : Int))), (16, (jI ((i : Nat) : Int)))] [] [])) (n := x.kids.length - 0) (by kernel_rfl) ⟨0, Nat.zero_le _, rfl, rfl, rfl, rfl⟩ (wtr (S' := (sx 56 [(1, (.av (.rm (setF fl []) (trues (setF fl []))))), (14, (jL (av2 (Nd.kids x)))), (15, (jI (((av2 (Nd.kids x)).length : Nat) : Int))), (16, (jI 0))] [] [])) (WK (by kernel_rfl)) (weak_sx (show WkX _ _ _ from ⟨rfl, rfl, rfl, (by rfl), trivial⟩) (show WkBx _ _ from trivial) (show WkG _ _ _ from trivial))) ?_
  rintro N M S ⟨i, hi, hE, rfl, rfl, rfl⟩
  refine GO (tn 1 z) (by kernel_rfl) ?_
  rcases Bool.eq_false_or_eq_true (decide (((i : Nat) : Int) < (((av2 (Nd.kids x)).length : Nat) : Int))) with hb2 | hb2
  ·have hb2p := of_decide_eq_true hb2
   refine GO (kb hb2 (ke (show 0 ≤ ((i : Nat) : Int) ∧ ((av2 (Nd.kids x)) : List AV)[i]? = some (.agg [(vI (Nd.kind (ndth (Nd.kids x) i))), (vS (Nd.name (ndth (Nd.kids x) i))), (.sl (av2 (Nd.kids (ndth (Nd.kids x) i))))]) from (av2_at (i := i) (by omega))) (tn 5 (kg (hrec i (by omega)) trivial z)))) (by kernel_rfl) ?_
   rcases Bool.eq_false_or_eq_true (v (ndth (Nd.kids x) i)) with hb3 | hb3
   ·refine GO (kb hb3 (tn 1 z)) (by kernel_rfl) ?_
    refine OUT z (by kernel_rfl) ?_
    exact LEAF .ret (S2 := (sx 56 [(4, (jB true))] [] [])) (by kernel_rfl) (WK (by kernel_rfl)) (ends (r := (jB true)) (by simp) (by kernel_rfl) (bres (by rw [valPB]; simp only [hb1, Bool.false_eq_true, if_false, if_true]; rw [← hE, anyI_step v x.kids i (by omega), hb3]; simp)) (by simp) (by simp))
   ·refine GO (kb hb3 (kn (wrE (((i : Nat) : Int) + 1) ((i + 1 : Nat) : Int) (by omega)) (tn 1 z))) (by kernel_rfl) ?_
    exact AG (m := x.kids.length - (i + 1)) ⟨i + 1, by omega, by rw [← hE, anyI_step v x.kids i (by omega), hb3]; simp, rfl, rfl, rfl⟩ (wtr (S' := (sx 56 [(1, (.av (.rm (setF fl []) (trues (setF fl []))))), (14, (jL (av2 (Nd.kids x)))), (15, (jI (((av2 (Nd.kids x)).length : Nat) : Int))), (16, (jI ((i + 1 : Nat) : Int)))] [] [])) (WK (by kernel_rfl)) (weak_sx (show WkX _ _ _ from ⟨rfl, rfl, rfl, (by rfl), trivial⟩) (show WkBx _ _ from trivial) (show WkG _ _ _ from trivial))) (by kernel_rfl) (by omega)
  ·have hb2p := of_decide_eq_false hb2
   refine GO (kb hb2 z) (by kernel_rfl) ?_
   refine OUT (tn 1 z) (by kernel_rfl) ?_
   exact LEAF .ret (S2 := (sx 56 [(4, (jB false))] [] [])) (by kernel_rfl) (WK (by kernel_rfl)) (ends (r := (jB false)) (by simp) (by kernel_rfl) (bres (by rw [valPB]; simp only [hb1, Bool.false_eq_true, if_false, if_true]; rw [← hE, anyI_end v x.kids i (by omega)])) (by simp) (by simp))
 ·have hb1p := ne_of_beq_false hb1
  refine GO (kb hb1 (tn 2 z)) (by kernel_rfl) ?_
  rcases Bool.eq_false_or_eq_true ((Nd.kind x : Int) == 2) with hb4 | hb4
  ·have hb4p := eq_of_beq hb4
   refine GO (kb hb4 (tn 4 z)) (by kernel_rfl) ?_
   refine LP (I := fun N M S => ∃ i : Nat, (i ≤ x.kids.length) ∧ (allI v x.kids i = allI v x.kids 0) ∧ N = x.kids.length - i ∧ M = () ∧ S = (sx 56 [(1, (.av (.rm (setF fl []) (trues (setF fl []))))), (27, (jL (av2 (Nd.kids x)))), (28, (jI (((av2 (Nd.kids x)).length : Nat) : Int))), (29, (jI ((i : Nat) : Int)))] [] [])) (n := x.kids.length - 0) (by kernel_rfl) ⟨0, Nat.zero_le _, rfl, rfl, rfl, rfl⟩ (wtr (S' := (sx 56 [(1, (.av (.rm (setF fl []) (trues (setF fl []))))), (27, (jL (av2 (Nd.kids x)))), (28, (jI (((av2 (Nd.kids x)).length : Nat) : Int))), (29, (jI 0))] [] [])) (WK (by kernel_rfl)) (weak_sx (show WkX _ _ _ from ⟨rfl, rfl, rfl, (by rfl), trivial⟩) (show WkBx _ _ from trivial) (show WkG _ _ _ from trivial))) ?_
   rintro N M S ⟨i, hi, hE, rfl, rfl, rfl⟩
   refine GO (tn 1 z) (by kernel_rfl) ?_
   rcases Bool.eq_false_or_eq_true (decide (((i : Nat) : Int) < (((av2 (Nd.kids x)).length : Nat) : Int))) with hb5 | hb5
   ·have hb5p := of_decide_eq_true hb5
    refine GO (kb hb5 (ke (show 0 ≤ ((i : Nat) : Int) ∧ ((av2 (Nd.kids x)) : List AV)[i]? = some (.agg [(vI (Nd.kind (ndth (Nd.kids x) i))), (vS (Nd.name (ndth (Nd.kids x) i))), (.sl (av2 (Nd.kids (ndth (Nd.kids x) i))))]) from (av2_at (i := i) (by omega))) (tn 5 (kg (hrec i (by omega)) trivial (tn 1 z))))) (by kernel_rfl) ?_
    rcases Bool.eq_false_or_eq_true (!v (ndth (Nd.kids x) i)) with hb6 | hb6
    ·have hb6n : v (ndth (Nd.kids x) i) = false := by simpa using hb6
     refine GO (kb hb6 (tn 1 z)) (by kernel_rfl) ?_
     refine OUT z (by kernel_rfl) ?_
     exact LEAF .ret (S2 := (sx 56 [(4, (jB false))] [] [])) (by kernel_rfl) (WK (by kernel_rfl)) (ends (r := (jB false)) (by simp) (by kernel_rfl) (bres (by rw [valPB]; simp only [hb1, hb4, Bool.false_eq_true, if_false, if_true]; rw [← hE, allI_step v x.kids i (by omega), hb6n]; simp)) (by simp) (by simp))
    ·have hb6n : v (ndth (Nd.kids x) i) = true := by simpa using hb6
     refine GO (kb hb6 (kn (wrE (((i : Nat) : Int) + 1) ((i + 1 : Nat) : Int) (by omega)) (tn 1 z))) (by kernel_rfl) ?_
     exact AG (m := x.kids.length - (i + 1)) ⟨i + 1, by omega, by rw [← hE, allI_step v x.kids i (by omega), hb6n]; simp, rfl, rfl, rfl⟩ (wtr (S' := (sx 56 [(1, (.av (.rm (setF fl []) (trues (setF fl []))))), (27, (jL (av2 (Nd.kids x)))), (28, (jI (((av2 (Nd.kids x)).length : Nat) : Int))), (29, (jI ((i + 1 : Nat) : Int)))] [] [])) (WK (by kernel_rfl)) (weak_sx (show WkX _ _ _ from ⟨rfl, rfl, rfl, (by rfl), trivial⟩) (show WkBx _ _ from trivial) (show WkG _ _ _ from trivial))) (by kernel_rfl) (by omega)
   ·have hb5p := of_decide_eq_false hb5
    refine GO (kb hb5 z) (by kernel_rfl) ?_
    refine OUT (tn 1 z) (by kernel_rfl) ?_
    exact LEAF .ret (S2 := (sx 56 [(4, (jB true))] [] [])) (by kernel_rfl) (WK (by kernel_rfl)) (ends (r := (jB true)) (by simp) (by kernel_rfl) (bres (by rw [valPB]; simp only [hb1, hb4, Bool.false_eq_true, if_false, if_true]; rw [← hE, allI_end v x.kids i (by omega)])) (by simp) (by simp))
  ·have hb4p := ne_of_beq_false hb4
   refine GO (kb hb4 (tn 2 z)) (by kernel_rfl) ?_
   rcases Bool.eq_false_or_eq_true ((Nd.kind x : Int) == 3) with hb7 | hb7
   ·have hb7p := eq_of_beq hb7
    refine GO (kb hb7 (tn 2 (ke (show 0 ≤ (0 : Int) ∧ ((av2 (Nd.kids x)) : List AV)[0]? = some (.agg [(vI (Nd.kind (ndth (Nd.kids x) 0))), (vS (Nd.name (ndth (Nd.kids x) 0))), (.sl (av2 (Nd.kids (ndth (Nd.kids x) 0))))]) from (av2_at (i := 0) (by omega))) (tn 2 (kg (hrec 0 (by omega)) trivial (tn 2 z)))))) (by kernel_rfl) ?_
    exact LEAF .ret (S2 := (sx 56 [(4, (jB (!v (ndth (Nd.kids x) 0))))] [] [])) (by kernel_rfl) (WK (by kernel_rfl)) (ends (r := (jB (!v (ndth (Nd.kids x) 0)))) (by simp) (by kernel_rfl) (bres (by rw [valPB]; simp only [hb1, hb4, hb7, Bool.false_eq_true, if_false, if_true])) (by simp) (by simp))
   ·have hb7p := ne_of_beq_false hb7
    refine GO (kb hb7 (tn 2 z)) (by kernel_rfl) ?_
    rcases Bool.eq_false_or_eq_true ((Nd.kind x : Int) == 6) with hb8 | hb8
    ·have hb8p := eq_of_beq hb8
     refine GO (kb hb8 (tn 3 (kl (show mgetT false (vB false) (setF fl []) (trues (setF fl [])) (Nd.name x) = (vB (hasI fl (Nd.name x) 0)) from (mget_set fl _)) (tn 1 z)))) (by kernel_rfl) ?_
     exact LEAF .ret (S2 := (sx 56 [(4, (jB (hasI fl (Nd.name x) 0)))] [] [])) (by kernel_rfl) (WK (by kernel_rfl)) (ends (r := (jB (hasI fl (Nd.name x) 0))) (by simp) (by kernel_rfl) (bres (by rw [valPB]; simp only [hb1, hb4, hb7, hb8, Bool.false_eq_true, if_false, if_true])) (by simp) (by simp))
    ·have hb8p := ne_of_beq_false hb8
     refine GO (kb hb8 (tn 4 z)) (by kernel_rfl) ?_
     exact LEAF .ret (S2 := (sx 56 [(4, (jB ((Nd.kind x : Int) == 4)))] [] [])) (by kernel_rfl) (WK (by kernel_rfl)) (ends (r := (jB ((Nd.kind x : Int) == 4))) (by simp) (by kernel_rfl) (bres (by rw [valPB]; simp only [hb1, hb4, hb7, hb8, Bool.false_eq_true, if_false, if_true])) (by simp) (by simp))
mutual
theorem valueP_to (fl : List ByteArray) : ∀ x : Nd, okP x → CallTo Tryz.prog 39 [(.av (nav x)), (.av (.rm (setF fl []) (trues (setF fl []))))] [] [] (.av (.val (.bool (valP fl x)))) [] []
 | .mk k nm kids, h => by
  simp only [okP] at h
  rw [valP_eq]
  exact valueP_step (valP fl) fl (.mk k nm kids) h.1 h.2.1 (fun i hi => valuesP_to fl kids h.2.2 i hi)
theorem valuesP_to (fl : List ByteArray) : ∀ l : List Nd, okPs l → ∀ i, i < l.length → CallTo Tryz.prog 39 [(.av (nav (ndth l i))), (.av (.rm (setF fl []) (trues (setF fl []))))] [] [] (.av (.val (.bool (valP fl (ndth l i))))) [] []
 | [], _, i, hi => by simp at hi
 | x :: l, h, 0, _ => by simp only [okPs] at h; exact valueP_to fl x h.1
 | x :: l, h, i + 1, hi => by simp only [okPs] at h; exact valuesP_to fl l h.2 i (by simpa using hi)
end
set_option maxHeartbeats 2000000 in
theorem setOf_to (l : List ByteArray) (hl : l.length ≤ maxLen) : CallTo Tryz.prog 23 [(jL (l.map strAV))] [] [] (.av (.rm (setF l []) (trues (setF l [])))) [] [] := by
 unfold maxLen at hl
 have hml := mlen l
 refine CallTo_of_body (n := 19) Tryz.func23 rfl (by kernel_rfl) Tryz.ntmps23 (by simp) (by simp) (by simp) (by simp [OkSV, SV.keys, ABox.svs, PV.keys]) (by simp [OkSV, SV.keys, ABox.svs, PV.keys]) (by simp [OkSV, SV.keys, ABox.svs, PV.keys]) (by simp [OkSV, SV.keys, ABox.svs, PV.keys]) rfl rfl ?_
 refine W_eq (sx 19 [(0, (jL (l.map strAV)))] [] []) (by kernel_rfl) ?_
 refine W_gend ?_
 refine WN ?_
 refine GO (tn 8 z) (by kernel_rfl) ?_
 refine LP (I := fun N M S => ∃ i : Nat, ∃ ks : List ByteArray, (i ≤ l.length) ∧ (setF (l.drop i) ks = setF l []) ∧ N = l.length - i ∧ M = () ∧ S = (sx 19 [(3, (.mp 8)), (9, (jL (l.map strAV))), (10, (jI (((l.map strAV).length : Nat) : Int))), (11, (jI ((i : Nat) : Int)))] [(8, (.map ks (trues ks)))] [])) (n := l.length - 0) (by kernel_rfl) ⟨0, [], Nat.zero_le _, rfl, rfl, rfl, rfl⟩ (wtr (S' := (sx 19 [(3, (.mp 8)), (9, (jL (l.map strAV))), (10, (jI (((l.map strAV).length : Nat) : Int))), (11, (jI 0))] [(8, (.map ([]) ([])))] [])) (WK (by kernel_rfl)) (weak_sx (show WkX _ _ _ from ⟨rfl, rfl, rfl, (by rfl), trivial⟩) (show WkBx _ _ from ⟨rfl, trivial⟩) (show WkG _ _ _ from trivial))) ?_
 rintro N M S ⟨i, ks, hi, hE, rfl, rfl, rfl⟩
 refine GO (tn 1 z) (by kernel_rfl) ?_
 rcases Bool.eq_false_or_eq_true (decide (((i : Nat) : Int) < (((l.map strAV).length : Nat) : Int))) with hb1 | hb1
 ·have hb1p := of_decide_eq_true hb1
  refine GO (kb hb1 (ke (show 0 ≤ ((i : Nat) : Int) ∧ ((l.map strAV) : List AV)[i]? = some (vS (nth l i)) from (nth_at (by assumption))) (tn 5 (kn (wrE (((i : Nat) : Int) + 1) ((i + 1 : Nat) : Int) (by omega)) (tn 1 z))))) (by kernel_rfl) ?_
  exact AG (m := l.length - (i + 1)) ⟨i + 1, mputK ks (nth l i), by omega, by rw [← hE]; exact (setF_step l ks i (by omega)).symm, rfl, rfl, rfl⟩ (wtr (S' := (sx 19 [(3, (.mp 8)), (9, (jL (l.map strAV))), (10, (jI (((l.map strAV).length : Nat) : Int))), (11, (jI ((i + 1 : Nat) : Int)))] [(8, (.map (mputK ks (nth l i)) (mputV ks (trues ks) (nth l i) (vB true))))] [])) (WK (by kernel_rfl)) (weak_sx (show WkX _ _ _ from ⟨rfl, rfl, rfl, (by rfl), trivial⟩) (show WkBx _ _ from ⟨(by show ABox.map _ _ = ABox.map _ _; rw [mput_trues]), trivial⟩) (show WkG _ _ _ from trivial))) (by kernel_rfl) (by omega)
 ·have hb1p := of_decide_eq_false hb1
  refine GO (kb hb1 z) (by kernel_rfl) ?_
  refine OUT (tn 2 z) (by kernel_rfl) ?_
  exact LEAF .ret (S2 := (sx 19 [(2, (.mp 8))] [(8, (.map ks (trues ks)))] [])) (by kernel_rfl) (WK (by kernel_rfl)) ⟨St.frozen _ 8 ks (trues ks), ghost_freeze (by kernel_rfl), (ends (r := (.av (.rm ks (trues ks)))) (by simp) (by kernel_rfl) (by rw [← hE, setF_end l ks i (by omega)]) (by simp) (by simp))⟩
set_option maxHeartbeats 2000000 in
theorem Eval_to (s : ByteArray) (hs : s.size ≤ maxLen) (fl : List ByteArray) (hfl : fl.length ≤ maxLen) : CallTo Tryz.prog 20 [(jS s), (jL (fl.map strAV))] [] [] (.av (.tup [.val (.bool (evalP s fl).1), .val (.int .i64 (evalP s fl).2)])) [] [] := by
 refine CallTo_of_body (n := 20) Tryz.func20 rfl (by kernel_rfl) Tryz.ntmps20 (by simp) (by simp) (by simp) (by simp [OkSV, SV.keys, ABox.svs, PV.keys]) (by simp [OkSV, SV.keys, ABox.svs, PV.keys]) (by simp [OkSV, SV.keys, ABox.svs, PV.keys]) (by simp [OkSV, SV.keys, ABox.svs, PV.keys]) rfl rfl ?_
 refine W_eq (sx 20 [(0, (jS s)), (1, (jL (fl.map strAV)))] [] []) (by kernel_rfl) ?_
 refine WN ?_
 refine GO (tn 3 (kg (parse_to s hs) trivial (tn 8 z))) (by kernel_rfl) ?_
 rcases Bool.eq_false_or_eq_true (((parseP s).2 : Int) != 0) with hb1 | hb1
 ·have hb1p := bne_iff_ne.1 hb1
  refine GO (kb hb1 (tn 3 z)) (by kernel_rfl) ?_
  exact LEAF .ret (S2 := (sx 20 [(4, (jB false)), (5, (jI ((parseP s).2)))] [] [])) (by kernel_rfl) (WK (by kernel_rfl)) (ends (r := (.av (.tup [(vB false), (vI ((parseP s).2))]))) (by simp) (by kernel_rfl) (by rw [evalP]; first | (rw [if_pos (by assumption)]; done) | (rw [if_neg (by assumption)]; done)) (by simp) (by simp))
 ·have hb1p := eq_of_bne_false hb1
  refine GO (kb hb1 z) (by kernel_rfl) ?_
  have d2 := (setOf_to fl hfl)
  have d3 := (valueP_to fl _ (ok_parseP s))
  refine DR3 (tn 2 (ko (cO d2) (kp d2 (tn 1 (ko (cO d3) (kp d3 (tn 3 z))))))) (by kernel_rfl) (by kernel_rfl) (by kernel_rfl) ?_
  exact LEAF .ret (S2 := (sx 20 [(4, (jB (valP fl ((parseP s).1)))), (5, (jI 0))] [] [])) (by kernel_rfl) (WK (by kernel_rfl)) (ends (r := (.av (.tup [(vB (valP fl ((parseP s).1))), (vI 0)]))) (by simp) (by kernel_rfl) (by rw [evalP]; first | (rw [if_pos (by assumption)]; done) | (rw [if_neg (by assumption)]; done)) (by simp) (by simp))
set_option maxHeartbeats 2000000 in
theorem Names_to (s : ByteArray) (hs : s.size ≤ maxLen) : CallTo Tryz.prog 21 [(jS s)] [] [] (.av (.tup [.sl ((namesP s).1.map strAV), .val (.int .i64 (namesP s).2)])) [] [] := by
 obtain ⟨T, hT⟩ : ∃ T, toks s 0 = T := ⟨_, rfl⟩
 have hml := mlen T
 have hTl : T.length ≤ s.size := by rw [← hT]; exact toks_len s _ 0 rfl
 have hsz : ∀ x ∈ T, x.size ≤ s.size := by rw [← hT]; exact toks_size s _ 0 rfl
 have h46 : (parseP s).2 = 0 → s.size ≤ 4096 := by intro h; unfold parseP at h; split at h; (simp at h); omega
 refine CallTo_of_body (n := 43) Tryz.func21 rfl (by kernel_rfl) Tryz.ntmps21 (by simp) (by simp) (by simp) (by simp [OkSV, SV.keys, ABox.svs, PV.keys]) (by simp [OkSV, SV.keys, ABox.svs, PV.keys]) (by simp [OkSV, SV.keys, ABox.svs, PV.keys]) (by simp [OkSV, SV.keys, ABox.svs, PV.keys]) rfl rfl ?_
 refine W_eq (sx 43 [(0, (jS s))] [] []) (by kernel_rfl) ?_
 refine WN ?_
 refine GO (tn 3 (kg (parse_to s hs) trivial (tn 8 z))) (by kernel_rfl) ?_
 rcases Bool.eq_false_or_eq_true (((parseP s).2 : Int) != 0) with hb1 | hb1
 ·have hb1p := bne_iff_ne.1 hb1
  refine GO (kb hb1 (tn 3 z)) (by kernel_rfl) ?_
  exact LEAF .ret (S2 := (sx 43 [(2, .nil), (3, (jI ((parseP s).2)))] [] [])) (by kernel_rfl) (WK (by kernel_rfl)) (ends (r := (.av (.tup [(.sl []), (vI ((parseP s).2))]))) (by simp) (by kernel_rfl) (by rw [namesP]; first | (rw [if_neg (by assumption)]; rfl) | (rw [if_pos (by assumption), hT, ← hE, namesL_end T acc i (by omega)])) (by simp) (by simp))
 ·have hb1p := eq_of_bne_false hb1
  refine GO (kb hb1 (tn 4 (kg (show CallTo Tryz.prog 40 [(jS s)] [] [] (jL (T.map strAV)) [] [] from (by rw [← hT]; exact tokens_to s (by omega))) trivial (tn 2 z)))) (by kernel_rfl) ?_
  refine LP (I := fun N M S => ∃ i : Nat, ∃ g : Nat, ∃ acc : List ByteArray, (i ≤ T.length) ∧ (acc.length ≤ i) ∧ (namesL (T.drop i) acc = namesL T []) ∧ N = T.length - i ∧ M = () ∧ S = (sx 43 [(6, (.own (200, 10) g 1 (acc.map strAV))), (7, (.mp 18)), (20, (jL (T.map strAV))), (21, (jI (((T.map strAV).length : Nat) : Int))), (22, (jI ((i : Nat) : Int)))] [(18, (.map acc (trues acc)))] [((200, 10), g)])) (n := T.length - 0) (by kernel_rfl) ⟨0, 0, [], Nat.zero_le _, Nat.le_refl _, rfl, rfl, rfl, rfl⟩ (wtr (S' := (sx 43 [(6, .nil), (7, (.mp 18)), (20, (jL (T.map strAV))), (21, (jI (((T.map strAV).length : Nat) : Int))), (22, (jI 0))] [(18, (.map ([]) ([])))] [])) (WK (by kernel_rfl)) (weak_sx (show WkX _ _ _ from ⟨⟨rfl, by decide, rfl⟩, rfl, rfl, rfl, (by rfl), trivial⟩) (show WkBx _ _ from ⟨rfl, trivial⟩) (show WkG _ _ _ from ⟨(by rfl), trivial⟩))) ?_
  rintro N M S ⟨i, g, acc, hi, hA, hE, rfl, rfl, rfl⟩
  refine GO (tn 1 z) (by kernel_rfl) ?_
  rcases Bool.eq_false_or_eq_true (decide (((i : Nat) : Int) < (((T.map strAV).length : Nat) : Int))) with hb2 | hb2
  ·have hb2p := of_decide_eq_true hb2
   rcases Bool.eq_false_or_eq_true (!specB (nth T i)) with hb3 | hb3
   ·have hb3n : specB (nth T i) = false := by simpa using hb3
    refine GO (kb hb2 (ke (show 0 ≤ ((i : Nat) : Int) ∧ ((T.map strAV) : List AV)[i]? = some (vS (nth T i)) from (nth_at (by omega))) (tn 3 (kg (special_to (nth T i)) trivial (tn 2 (kb hb3 (tn 1 (kb hb3 (tn 1 (kb hb3 (kl (show mgetT false (vB false) acc (trues acc) (nth T i) = (vB (hasI acc (nth T i) 0)) from (mget_has acc _)) (kb hb3 (tn 1 (kb hb3 z)))))))))))))) (by kernel_rfl) ?_
    rcases Bool.eq_false_or_eq_true (!hasI acc (nth T i) 0) with hb4 | hb4
    ·have hb4n : hasI acc (nth T i) 0 = false := by simpa using hb4
     refine GO (kb hb4 (tn 5 (kp (show Uni 1 [(vS (nth T i))] from (by simp [Uni, AV.cells, AV.isTup])) (kp (show (g : Nat) = g ∧ Uni 1 [(vS (nth T i))] ∧ (((acc.map strAV) : List AV).length + ([(vS (nth T i))] : List AV).length) * 16 ≤ 140737488355328 from ⟨rfl, by simp [Uni, AV.cells, AV.isTup], by simp; omega⟩) (kw (show (((acc.map strAV) ++ [(vS (nth T i))]) : List AV) = _ from rfl) (tn 1 (kn (wrE (((i : Nat) : Int) + 1) ((i + 1 : Nat) : Int) (by omega)) (tn 1 z)))))))) (by kernel_rfl) ?_
     exact AG (m := T.length - (i + 1)) ⟨i + 1, g + 1, acc ++ [nth T i], by omega, by first | omega | (simp; omega), by rw [← hE, namesL_step T acc i (by omega)]; simp [*], rfl, rfl, rfl⟩ (wtr (S' := (sx 43 [(6, (.own (200, 10) (g + 1) 1 ((acc.map strAV) ++ [(vS (nth T i))]))), (7, (.mp 18)), (20, (jL (T.map strAV))), (21, (jI (((T.map strAV).length : Nat) : Int))), (22, (jI ((i + 1 : Nat) : Int)))] [(18, (.map (mputK acc (nth T i)) (mputV acc (trues acc) (nth T i) (vB true))))] [((200, 10), g + 1)])) (WK (by kernel_rfl)) (weak_sx (show WkX _ _ _ from ⟨⟨rfl, (by omega), rfl, (by simp [strAV])⟩, rfl, rfl, rfl, (by rfl), trivial⟩) (show WkBx _ _ from ⟨(map_new (by assumption)), trivial⟩) (show WkG _ _ _ from ⟨(by rfl), (by rfl), trivial⟩))) (by kernel_rfl) (by omega)
    ·have hb4n : hasI acc (nth T i) 0 = true := by simpa using hb4
     refine GO (kb hb4 (kn (wrE (((i : Nat) : Int) + 1) ((i + 1 : Nat) : Int) (by omega)) (tn 1 z))) (by kernel_rfl) ?_
     exact AG (m := T.length - (i + 1)) ⟨i + 1, g, acc, by omega, by first | omega | (simp; omega), by rw [← hE, namesL_step T acc i (by omega)]; simp [*], rfl, rfl, rfl⟩ (wtr (S' := (sx 43 [(6, (.own (200, 10) g 1 (acc.map strAV))), (7, (.mp 18)), (20, (jL (T.map strAV))), (21, (jI (((T.map strAV).length : Nat) : Int))), (22, (jI ((i + 1 : Nat) : Int)))] [(18, (.map acc (trues acc)))] [((200, 10), g)])) (WK (by kernel_rfl)) (weak_sx (show WkX _ _ _ from ⟨⟨rfl, (by omega), rfl, (by simp [strAV])⟩, rfl, rfl, rfl, (by rfl), trivial⟩) (show WkBx _ _ from ⟨rfl, trivial⟩) (show WkG _ _ _ from ⟨(by rfl), (by rfl), trivial⟩))) (by kernel_rfl) (by omega)
   ·have hb3n : specB (nth T i) = true := by simpa using hb3
    refine GO (kb hb2 (ke (show 0 ≤ ((i : Nat) : Int) ∧ ((T.map strAV) : List AV)[i]? = some (vS (nth T i)) from (nth_at (by omega))) (tn 3 (kg (special_to (nth T i)) trivial (tn 2 (kb hb3 (kb hb3 (kb hb3 (kb hb3 (kb hb3 (kb ff (kn (wrE (((i : Nat) : Int) + 1) ((i + 1 : Nat) : Int) (by omega)) (tn 1 z))))))))))))) (by kernel_rfl) ?_
    exact AG (m := T.length - (i + 1)) ⟨i + 1, g, acc, by omega, by first | omega | (simp; omega), by rw [← hE, namesL_step T acc i (by omega)]; simp [*], rfl, rfl, rfl⟩ (wtr (S' := (sx 43 [(6, (.own (200, 10) g 1 (acc.map strAV))), (7, (.mp 18)), (20, (jL (T.map strAV))), (21, (jI (((T.map strAV).length : Nat) : Int))), (22, (jI ((i + 1 : Nat) : Int)))] [(18, (.map acc (trues acc)))] [((200, 10), g)])) (WK (by kernel_rfl)) (weak_sx (show WkX _ _ _ from ⟨⟨rfl, (by omega), rfl, (by simp [strAV])⟩, rfl, rfl, rfl, (by rfl), trivial⟩) (show WkBx _ _ from ⟨rfl, trivial⟩) (show WkG _ _ _ from ⟨(by rfl), (by rfl), trivial⟩))) (by kernel_rfl) (by omega)
  ·have hb2p := of_decide_eq_false hb2
   refine GO (kb hb2 z) (by kernel_rfl) ?_
   refine OUT (tn 3 z) (by kernel_rfl) ?_
   exact LEAF .ret (S2 := (sx 43 [(2, (.own (200, 10) g 1 (acc.map strAV))), (3, (jI 0))] [] [((200, 10), g)])) (by kernel_rfl) (WK (by kernel_rfl)) (ends (r := (.av (.tup [(.sl (acc.map strAV)), (vI 0)]))) (by simp) (by kernel_rfl) (by rw [namesP]; first | (rw [if_neg (by assumption)]; rfl) | (rw [if_pos (by assumption), hT, ← hE, namesL_end T acc i (by omega)])) (by simp) (by simp))
end Go.Proofs.YtdaglbjgdakmcaaGreat
namespace Go.Proofs.YtdaglbjgdakmcaaGreat
open Go Go.Eng
theorem zNot : ByteArray.size ⟨#[110, 111, 116, 32]⟩ = 4 := rfl
theorem zTrue : ByteArray.size ⟨#[116, 114, 117, 101]⟩ = 4 := rfl
theorem zFalse : ByteArray.size ⟨#[102, 97, 108, 115, 101]⟩ = 5 := rfl
theorem zOpen : ByteArray.size ⟨#[40]⟩ = 1 := rfl
theorem zClose : ByteArray.size ⟨#[41]⟩ = 1 := rfl
theorem zOrS : ByteArray.size ⟨#[32, 111, 114, 32]⟩ = 4 := rfl
theorem zAndS : ByteArray.size ⟨#[32, 97, 110, 100, 32]⟩ = 5 := rfl
theorem zNil : ByteArray.size ⟨#[]⟩ = 0 := rfl
mutual
def wgt : Nd → Nat
 | .mk _ nm kids => 16 + nm.size + wgts kids
def wgts : List Nd → Nat
 | [] => 0
 | x :: l => wgt x + wgts l
end
theorem wgts_app : ∀ (l m : List Nd), wgts (l ++ m) = wgts l + wgts m
 | [], m => by simp [wgts]
 | x :: l, m => by simp only [List.cons_append, wgts, wgts_app l m]; omega
theorem wgts_one (x : Nd) : wgts [x] = wgt x := by simp [wgts]
theorem wgt_nd0 : wgt nd0 = 16 := by simp only [nd0, wgt, wgts, zNil]
mutual
theorem wr_le : ∀ (x : Nd) (σ : WS), (wr x σ).1.size + 8 ≤ σ.1.size + wgt x
 | .mk k nm kids, σ => by
  simp only [wr, wgt]
  split
  ·have := wrO_le kids 0 σ; omega
  split
  ·have := wrA_le kids 0 σ; omega
  split
  ·have := wrH_le kids (wput ⟨#[110, 111, 116, 32]⟩ σ)
   simp only [wput_size, zNot, zTrue, zFalse, zOpen, zClose, zOrS, zAndS, zNil] at this; omega
  split
  ·simp only [wput_size, zNot, zTrue, zFalse, zOpen, zClose, zOrS, zAndS, zNil]; omega
  split
  ·simp only [wput_size, zNot, zTrue, zFalse, zOpen, zClose, zOrS, zAndS, zNil]; omega
  ·rw [wput_size]; omega
theorem wrH_le : ∀ (l : List Nd) (σ : WS), (wrH l σ).1.size ≤ σ.1.size + wgts l
 | [], σ => by simp only [wrH, wput_size, zNot, zTrue, zFalse, zOpen, zClose, zOrS, zAndS, zNil, wgts]; omega
 | x :: l, σ => by
  simp only [wrH, wgts]
  split
  ·have h1 := wr_le x (wput ⟨#[40]⟩ σ)
   simp only [wput_size, zNot, zTrue, zFalse, zOpen, zClose, zOrS, zAndS, zNil] at h1 ⊢; omega
  ·have := wr_le x σ; omega
theorem wrO_le : ∀ (l : List Nd) (i : Nat) (σ : WS), (wrO l i σ).1.size ≤ σ.1.size + wgts l
 | [], i, σ => by simp only [wrO, wgts]; omega
 | x :: l, i, σ => by
  simp only [wrO, wgts]
  have h1 := wrO_le l (i + 1) (wr x (if 0 < i then wput ⟨#[32, 111, 114, 32]⟩ σ else σ))
  have h2 := wr_le x (if 0 < i then wput ⟨#[32, 111, 114, 32]⟩ σ else σ)
  have h3 : (if 0 < i then wput ⟨#[32, 111, 114, 32]⟩ σ else σ).1.size ≤ σ.1.size + 4 := by
   split
   ·simp only [wput_size, zNot, zTrue, zFalse, zOpen, zClose, zOrS, zAndS, zNil]; omega
   ·omega
  omega
theorem wrA_le : ∀ (l : List Nd) (i : Nat) (σ : WS), (wrA l i σ).1.size ≤ σ.1.size + wgts l
 | [], i, σ => by simp only [wrA, wgts]; omega
 | x :: l, i, σ => by
  simp only [wrA, wgts]
  have h3 : (if 0 < i then wput ⟨#[32, 97, 110, 100, 32]⟩ σ else σ).1.size ≤ σ.1.size + 5 := by
   split
   ·simp only [wput_size, zNot, zTrue, zFalse, zOpen, zClose, zOrS, zAndS, zNil]; omega
   ·omega
  generalize (if 0 < i then wput ⟨#[32, 97, 110, 100, 32]⟩ σ else σ) = τ at h3
  have h1 := wrA_le l (i + 1) (if x.kind == 1 then wput ⟨#[41]⟩ (wr x (wput ⟨#[40]⟩ τ)) else wr x τ)
  have h4 : (if x.kind == 1 then wput ⟨#[41]⟩ (wr x (wput ⟨#[40]⟩ τ)) else wr x τ).1.size + 6 ≤ τ.1.size + wgt x := by
   split
   ·have h2 := wr_le x (wput ⟨#[40]⟩ τ)
    simp only [wput_size, zNot, zTrue, zFalse, zOpen, zClose, zOrS, zAndS, zNil] at h2 ⊢; omega
   ·have h2 := wr_le x τ; omega
  omega
end
def Pos (x : Nd) : Prop := ∀ σ : WS, σ.1.size < (wr x σ).1.size
def Small (t : List ByteArray) : Prop := ∀ x ∈ t, 0 < x.size ∧ x.size ≤ 4096
def Wee (p : Nat) (r : PR) : Prop := r.ok = true → p ≤ r.pos ∧ wgt r.nd ≤ 5000 * (r.pos - p) ∧ Pos r.nd
theorem pos_not (x : Nd) : Pos (.mk 3 ⟨#[]⟩ [x]) := by
 intro σ
 simp only [wr]
 have := wrH_grows [x] (wput ⟨#[110, 111, 116, 32]⟩ σ)
 simp only [wput_size, zNot, zTrue, zFalse, zOpen, zClose, zOrS, zAndS, zNil] at this ⊢; simp at this ⊢; omega
theorem pos_or {l : List Nd} (h : ∀ x ∈ l, Pos x) (hl : l ≠ []) : Pos (.mk 1 ⟨#[]⟩ l) := by
 intro σ
 match l, hl with
 | x :: l, _ =>
  simp only [wr]
  simp only [wrO]
  have h1 := h x (by simp) σ
  have h2 := wrO_grows l (0 + 1) (wr x (if 0 < 0 then wput ⟨#[32, 111, 114, 32]⟩ σ else σ))
  simp at h2 ⊢; omega
theorem pos_and {l : List Nd} (h : ∀ x ∈ l, Pos x) (hl : l ≠ []) : Pos (.mk 2 ⟨#[]⟩ l) := by
 intro σ
 match l, hl with
 | x :: l, _ =>
  simp only [wr]
  simp only [wrA]
  have h1 := h x (by simp) σ
  have h4 : σ.1.size < (if x.kind == 1 then wput ⟨#[41]⟩ (wr x (wput ⟨#[40]⟩ σ)) else wr x σ).1.size := by
   split
   ·have := wr_grows x (wput ⟨#[40]⟩ σ)
    simp only [wput_size, zNot, zTrue, zFalse, zOpen, zClose, zOrS, zAndS, zNil] at this ⊢; omega
   ·exact h1
  have h2 := wrA_grows l (0 + 1) (if x.kind == 1 then wput ⟨#[41]⟩ (wr x (wput ⟨#[40]⟩ σ)) else wr x σ)
  simp at h2 h4 ⊢; omega
theorem wee_one {rec cnd : Nat → Int → Nat → PR} {t : List ByteArray} (ht : Small t) (hr : ∀ p d l, p ≤ t.length → Wee p (rec p d l)) (hc : ∀ p d l, p ≤ t.length → Wee p (cnd p d l)) (p : Nat) (d : Int) (l : Nat) : Wee p (oneP rec cnd t p d l) := by
 unfold oneP
 split
 ·rename_i h; have := (accP_t h).2
  intro ho
  obtain ⟨h1, h2, h3⟩ := hr (p + 1) (max d (l : Int)) (l + 1) (by omega) ho
  refine ⟨by simp only; omega, ?_, pos_not _⟩
  simp only [wgt, wgts, zNot, zTrue, zFalse, zOpen, zClose, zOrS, zAndS, zNil]; omega
 split
 ·rename_i h; have := (accP_t h).2
  split
  ·rename_i hok
   intro ho
   obtain ⟨h1, h2, h3⟩ := hc (p + 1) (max d (l : Int)) (l + 1) (by omega) hok
   have := (accP_t ho).1
   refine ⟨by simp only; omega, ?_, h3⟩
   simp only; omega
  ·intro ho; simp at ho
 split
 ·intro _; refine ⟨by simp only; omega, by simp only [wgt, wgts, zNot, zTrue, zFalse, zOpen, zClose, zOrS, zAndS, zNil]; omega, fun σ => ?_⟩
  simp only [wr]; simp only [Int.reduceBEq, Bool.false_eq_true, if_false, if_true, wput_size, zNot, zTrue, zFalse, zOpen, zClose, zOrS, zAndS, zNil]; omega
 split
 ·intro _; refine ⟨by simp only; omega, by simp only [wgt, wgts, zNot, zTrue, zFalse, zOpen, zClose, zOrS, zAndS, zNil]; omega, fun σ => ?_⟩
  simp only [wr]; simp only [Int.reduceBEq, Bool.false_eq_true, if_false, if_true, wput_size, zNot, zTrue, zFalse, zOpen, zClose, zOrS, zAndS, zNil]; omega
 split
 ·intro ho; simp at ho
 split
 ·intro ho; simp at ho
 ·rename_i h1 h2
  obtain ⟨s1, s2⟩ := ht _ (nth_mem (t := t) (i := p) (by omega))
  intro _; refine ⟨by simp only; omega, by simp only [wgt, wgts]; omega, fun σ => ?_⟩
  simp only [wr]; simp; rw [wput_size]; omega
theorem wgts_ndth {l : List Nd} (h : l.length = 1) : wgt (ndth l 0) = wgts l := by
 match l, h with
 | [x], _ => simp [ndth, wgts]
theorem wee_list {opnd : Nat → Int → PR} {word : ByteArray} {k : Int} (hk : k = 1 ∨ k = 2) {t : List ByteArray} (hf : ∀ p d, p ≤ t.length → FairP t p (opnd p d)) (ho : ∀ p d, p ≤ t.length → Wee p (opnd p d)) (p0 : Nat) :
  ∀ (m p : Nat) (d : Int) (acc : List Nd), p ≤ t.length → ((acc = [] ∧ p = p0) ∨ (acc ≠ [] ∧ p0 ≤ p ∧ wgts acc + 5000 ≤ 5000 * (p - p0))) → (∀ x ∈ acc, Pos x) → Wee p0 (listP opnd word k t m p d acc)
 | 0, p, d, acc, _, _, _ => by simp only [listP]; intro h; simp at h
 | m + 1, p, d, acc, hp, hi, ha => by
  simp only [listP]
  split
  ·intro h; simp at h
  ·rename_i h1
   have hok : (opnd p d).ok = true := by simpa using h1
   obtain ⟨f1, f2, f3⟩ := hf p d hp
   have f4 := f3 hok
   obtain ⟨w1, w2, w3⟩ := ho p d hp hok
   have ha' : ∀ x ∈ acc ++ [(opnd p d).nd], Pos x := by
    intro x hx
    rcases List.mem_append.1 hx with hx | hx
    ·exact ha x hx
    ·simp at hx; subst hx; exact w3
   have hw : wgts (acc ++ [(opnd p d).nd]) = wgts acc + wgt (opnd p d).nd := by rw [wgts_app, wgts_one]
   split
   ·rename_i h2
    have := (accP_t h2).2
    refine wee_list hk hf ho p0 m _ _ _ (by omega) (.inr ⟨by simp, ?_, ?_⟩) ha'
    ·rcases hi with ⟨_, hi⟩ | ⟨_, hi, _⟩ <;> omega
    ·rw [hw]
     rcases hi with ⟨hi, hi2⟩ | ⟨_, hi, hi2⟩
     ·subst hi; simp only [wgts]; omega
     ·omega
   ·intro _
    refine ⟨?_, ?_, ?_⟩
    ·rcases hi with ⟨_, hi⟩ | ⟨_, hi, _⟩ <;> (simp only; omega)
    ·simp only
     unfold mkP
     split
     ·rename_i hlen
      rw [wgts_ndth hlen, hw]
      rcases hi with ⟨hi, hi2⟩ | ⟨_, hi, hi2⟩
      ·subst hi; simp only [wgts]; omega
      ·omega
     ·rename_i hlen
      simp only [wgt, hw, zNot, zTrue, zFalse, zOpen, zClose, zOrS, zAndS, zNil]
      rcases hi with ⟨hi, hi2⟩ | ⟨_, hi, hi2⟩
      ·subst hi; simp at hlen
      ·omega
    ·unfold mkP
     split
     ·rename_i hlen
      have : ndth (acc ++ [(opnd p d).nd]) 0 ∈ acc ++ [(opnd p d).nd] := by
       unfold ndth; rw [List.getD_eq_getElem?_getD, List.getElem?_eq_getElem (by omega)]; exact List.getElem_mem _
      exact ha' _ this
     ·rcases hk with rfl | rfl
      ·exact pos_or ha' (by simp)
      ·exact pos_and ha' (by simp)
theorem wee_all {one : Nat → Int → Nat → PR} {t : List ByteArray} (hf : ∀ p d l, p ≤ t.length → FairP t p (one p d l)) (h : ∀ p d l, p ≤ t.length → Wee p (one p d l)) (p : Nat) (d : Int) (l : Nat) (hp : p ≤ t.length) : Wee p (allP one t p d l) :=
 wee_list (.inr rfl) (fun p d hp => hf p d l hp) (fun p d hp => h p d l hp) p _ p d [] hp (.inl ⟨rfl, rfl⟩) (by simp)
theorem wee_cnd {one : Nat → Int → Nat → PR} {t : List ByteArray} (hf : ∀ p d l, p ≤ t.length → FairP t p (one p d l)) (h : ∀ p d l, p ≤ t.length → Wee p (one p d l)) (p : Nat) (d : Int) (l : Nat) (hp : p ≤ t.length) : Wee p (cndP one t p d l) :=
 wee_list (.inl rfl) (fun p d hp => fairP_all hf p d l hp) (fun p d hp => wee_all hf h p d l hp) p _ p d [] hp (.inl ⟨rfl, rfl⟩) (by simp)
theorem wee_pone {t : List ByteArray} (ht : Small t) : ∀ (n p : Nat) (d : Int) (l : Nat), p ≤ t.length → Wee p (pone t n p d l)
 | 0, p, d, l, _ => wee_one ht (fun p d l _ h => by simp at h) (fun p d l _ h => by simp at h) p d l
 | n + 1, p, d, l, _ => wee_one ht (wee_pone ht n) (wee_cnd (fairP_pone t n) (wee_pone ht n)) p d l
theorem toks_pos (s : ByteArray) : ∀ (n i : Nat), s.size - i = n → ∀ x ∈ toks s i, 0 < x.size := by
 intro n
 induction n using Nat.strongRecOn with
 | _ n ih =>
  intro i hn x hx
  by_cases hi : s.size ≤ i
  ·rw [toks_end s i hi] at hx; simp at hx
  ·have hlt : i < s.size := by omega
   cases hb : sepB ((byt s i : Nat) : Int) with
   | true =>
    by_cases h32 : ((byt s i : Nat) : Int) = 32
    ·rw [toks_sp s i hlt h32] at hx; exact ih (s.size - (i + 1)) (by omega) (i + 1) rfl x hx
    ·have : ((byt s i : Nat) : Int) = 40 ∨ ((byt s i : Nat) : Int) = 41 := by
      simp only [sepB, Bool.or_eq_true, beq_iff_eq] at hb
      rcases hb with (hb | hb) | hb
      ·exact absurd hb h32
      ·exact .inl hb
      ·exact .inr hb
     rw [toks_par s i hlt this] at hx
     rcases List.mem_cons.1 hx with rfl | hx
     ·rw [ByteArray.size_extract]; omega
     ·exact ih (s.size - (i + 1)) (by omega) (i + 1) rfl x hx
   | false =>
    have hw := wend_gt s i hlt hb
    rw [toks_word s i hlt hb] at hx
    rcases List.mem_cons.1 hx with rfl | hx
    ·rw [ByteArray.size_extract]; omega
    ·exact ih (s.size - wend s i) (by omega) (wend s i) rfl x hx
theorem small_toks (s : ByteArray) (h : s.size ≤ 4096) : Small (toks s 0) := fun x hx =>
 ⟨toks_pos s _ 0 rfl x hx, by have := toks_size s _ 0 rfl x hx; omega⟩
theorem parse_ok {s : ByteArray} (h : (parseP s).2 = 0) : s.size ≤ 4096 ∧ badI (toks s 0) 0 = false ∧ (ptop (toks s 0)).ok = true ∧ (ptop (toks s 0)).pos = (toks s 0).length ∧ (ptop (toks s 0)).deep ≤ 16 ∧ (parseP s).1 = (ptop (toks s 0)).nd := by
 unfold parseP at h ⊢
 split at h
 ·simp at h
 ·rename_i h0
  rw [if_neg h0]
  unfold parseT at h ⊢
  split at h
  ·simp at h
  rename_i h1
  split at h
  ·simp at h
  rename_i h2
  split at h
  ·simp at h
  rename_i h3
  split at h
  ·simp at h
  rename_i h4
  have hf := (fairP_cnd (fairP_pone (toks s 0) (toks s 0).length) 0 0 0 (Nat.zero_le _)).2.1
  rw [if_neg h1, if_neg h2, if_neg h3, if_neg h4]
  refine ⟨by omega, by simpa using h1, by simpa using h2, ?_, by omega, rfl⟩
  show (cndP (pone (toks s 0) (toks s 0).length) (toks s 0) 0 0 0).pos = _
  unfold ptop at h3
  omega
theorem norm_wee {s : ByteArray} (h : (parseP s).2 = 0) : wgt (parseP s).1 ≤ 20480000 ∧ Pos (parseP s).1 := by
 obtain ⟨h1, h2, h3, h4, h5, h6⟩ := parse_ok h
 rw [h6]
 obtain ⟨w1, w2, w3⟩ := wee_cnd (fairP_pone _ _) (wee_pone (small_toks s h1) _) 0 0 0 (Nat.zero_le _) h3
 have hl := toks_len s _ 0 rfl
 refine ⟨?_, w3⟩
 have e : (cndP (pone (toks s 0) (toks s 0).length) (toks s 0) 0 0 0) = ptop (toks s 0) := rfl
 rw [e] at w2; omega
theorem parse_bad {s : ByteArray} (h : (parseP s).2 ≠ 0) : (parseP s).1 = nd0 := by
 unfold parseP at h ⊢
 split
 ·rfl
 ·rename_i h0
  rw [if_neg h0] at h
  unfold parseT at h ⊢
  split
  ·rfl
  split
  ·rfl
  split
  ·rfl
  split
  ·rfl
  ·rename_i h1 h2 h3 h4; rw [if_neg h1, if_neg h2, if_neg h3, if_neg h4] at h; simp at h
theorem norm_le (s : ByteArray) : (wr (parseP s).1 (⟨#[]⟩, 0)).1.size ≤ 1000000000 := by
 have h := wr_le (parseP s).1 (⟨#[]⟩, 0)
 simp only [zNot, zTrue, zFalse, zOpen, zClose, zOrS, zAndS, zNil] at h
 by_cases h0 : (parseP s).2 = 0
 ·have := (norm_wee h0).1; omega
 ·rw [parse_bad h0] at h ⊢; rw [wgt_nd0] at h; omega
theorem norm_pos {s : ByteArray} (h : (parseP s).2 = 0) : 0 < (wr (parseP s).1 (⟨#[]⟩, 0)).1.size := by
 have h1 := (norm_wee h).2 (⟨#[]⟩, 0)
 exact Nat.lt_of_le_of_lt (Nat.zero_le _) h1
def normP (s : ByteArray) : ByteArray × Int := if (parseP s).2 = 0 then ((wr (parseP s).1 (⟨#[]⟩, 0)).1, 0) else (⟨#[]⟩, (parseP s).2)
theorem eqs_self (s : ByteArray) : eqs s s = true := by simp [eqs]
theorem bytes_len (s : ByteArray) : (bytesAV s).length = s.size := by simp [bytesAV]
theorem bytes_cat (a b : ByteArray) : bytesAV (a ++ b) = bytesAV a ++ bytesAV b := by simp [bytesAV]
theorem bytes_uni (s : ByteArray) : Uni 1 (bytesAV s) := by
 intro x hx
 simp only [bytesAV, List.mem_map] at hx
 obtain ⟨b, _, rfl⟩ := hx
 simp [AV.cells, AV.isTup]
end Go.Proofs.YtdaglbjgdakmcaaGreat
namespace Go.Proofs.YtdaglbjgdakmcaaGreat
open Go Go.Eng Go.RowKit
theorem bsize : (Tryz.prog.info? 85).map (·.size) = some 2 := by kernel_rfl
theorem blies : liesAt Tryz.prog Tryz.prog.depth 85 (2 / Tryz.prog.cellsOf 85) 0 85 1 = true := by kernel_rfl
theorem bcells : Tryz.prog.cellsOf 5 = 1 := by kernel_rfl
set_option maxHeartbeats 1000000 in
theorem copyCheck_used (b : Nat) (w : World) (h0 : w.cell? ⟨b, 0, none⟩ = some (.pointer (some ⟨b, 0, none⟩))) :
  Calls Tryz.prog 87 #[.pointer (some ⟨b, 0, none⟩)] w fun e w' => e = .returned (.tuple #[]) ∧ w' = w := by
 obtain ⟨j, hj, _⟩ := Option.map_eq_some_iff.1 bsize
 go_enter Tryz.func87, Tryz.ntmps87
 go_wp2
 rw [Lib.run_neq_ptr_same w _ Tryz.underlying82 hj]
 go_wp2
 go_end0
 exact ⟨rfl, rfl⟩
set_option maxHeartbeats 1000000 in
theorem copyCheck_fresh (b : Nat) (w : World) (h0 : w.cell? ⟨b, 0, none⟩ = some (.pointer none)) (hsh : w.shape? b = some (85, 2)) (hfz : w.frozen? ⟨b, 0, none⟩ = false) :
  Calls Tryz.prog 87 #[.pointer (some ⟨b, 0, none⟩)] w fun e w' => e = .returned (.tuple #[]) ∧ w' = w.setCell ⟨b, 0, none⟩ (.pointer (some ⟨b, 0, none⟩)) := by
 obtain ⟨j, hj, hjs⟩ := Option.map_eq_some_iff.1 bsize
 go_enter Tryz.func87, Tryz.ntmps87
 go_wp2
 rw [Lib.run_to_unsafe w ⟨b, 0, none⟩ Tryz.underlying82 Tryz.underlying141 hj (by rw [hjs]; decide) hsh (Nat.zero_lt_succ 1)]
 simp only [Result.andThen]
 rw [Oper.upon_value]
 go_wp2
 rw [run_callFunc_extern Tryz.func110 (by kernel_rfl) (by kernel_rfl) (by kernel_rfl) (e := Extern.AbiNoEscape.same) (by kernel_rfl)]
 rw [Lib.run_noEscape]
 simp only [Result.andThen]
 rw [Oper.upon_value]
 go_wp2
 rw [Lib.run_from_unsafe w ⟨b, 0, none⟩ Tryz.underlying141 Tryz.underlying82 hj hsh blies]
 simp only [Result.andThen]
 rw [Oper.upon_value]
 go_wp2
 go_end0
 exact ⟨rfl, rfl⟩
set_option maxHeartbeats 1000000 in
theorem String_calls (b g n cap : Nat) (p : Value) (cur : Array Value) (l : List UInt8) (w : World) (h0 : l ≠ []) (hn : n = l.length) (hcap : l.length ≤ cap) (hcs : l.length ≤ cur.size) (h63 : l.length ≤ 9223372036854775807)
  (hbk : w.heap[b]? = some (.cells #[p, .slice (some ⟨g, 0, none⟩) n cap] 85 (0, 0))) (hg : w.heap[g]? = some (.cells cur 5 (0, 0))) (hcell : ∀ j x, l[j]? = some x → w.cell? ⟨g, j, none⟩ = some (.int .u8 x.toNat)) :
  Calls Tryz.prog 43 #[.pointer (some ⟨b, 0, none⟩)] w fun e w' => e = .returned (.string ⟨l.toArray⟩) ∧ w'.heap = (w.freeze ⟨g, 0, none⟩ l.length).heap ∧ w'.os = w.os ∧ w'.tape = w.tape ∧ w'.output = w.output := by
 subst hn
 have hl0 : l.length ≠ 0 := by simpa using h0
 have c1 : w.drew.cell? ⟨b, 1, none⟩ = some (.slice (some ⟨g, 0, none⟩) l.length cap) := by
  have : w.drew.heap[b]? = some (.cells #[p, .slice (some ⟨g, 0, none⟩) l.length cap] 85 (0, 0)) := hbk
  rw [Lib.cell_of_heap this]; rfl
 have hSD : (Builtin.unsafeSliceData_ #[83] 115 #[.slice (some ⟨g, 0, none⟩) l.length cap]).run Tryz.prog w.drew = .ok (.pointer (some ⟨g, 0, none⟩)) w.drew :=
  Lib.run_unsafeSliceData_row _ _ _ _ _ _ (by omega)
 have hUS : (Builtin.unsafeString_ #[115, 3] 9 #[.pointer (some ⟨g, 0, none⟩), .int .i64 l.length]).run Tryz.prog w.drew = .ok (.string ⟨l.toArray⟩) (w.drew.freeze ⟨g, 0, none⟩ l.length) := by
  refine Lib.run_unsafeString_row w.drew 115 3 9 5 Tryz.underlying115 bcells g cur.size (by have hg' : w.drew.heap[g]? = some (.cells cur 5 (0, 0)) := hg; simp [World.shape?, hg']) l h0 hcs h63 ?_
  intro j x hx
  rw [addr_add, Nat.zero_add]
  exact hcell j x hx
 clear hbk hg hcell hcs hcap
 go_enter Tryz.func43, Tryz.ntmps43
 go_wp2
 go_region
 all_goals (go_wp2; go_ret; refine ⟨rfl, ?_⟩; unfold World.freeze; rw [if_neg hl0, if_neg hl0]; exact ⟨rfl, rfl, rfl, rfl⟩)
theorem step_owned {G : Gh} {w w' : World} (hw : Wf G w) {id blk : Nat} (ho : G.ow (id, 0) = some blk) (hU : G.U blk = 0) (hsz : w'.heap.size = w.heap.size) (hos : w'.os = w.os) (htp : w'.tape = w.tape) (hout : w'.output = w.output) (hoth : ∀ k, k ≠ blk → w'.heap[k]? = w.heap[k]?) :
  Step G w G w' ∧ Wf G w' ∧ ∀ κ', κ' ≠ (id, 0) → Keep G w G w' κ' := by
 have hkp : ∀ κ', κ' ≠ (id, 0) → Keep G w G w' κ' := fun κ' hk' => ⟨rfl, fun b hb => ⟨hoth b (fun he => by subst he; exact hk' (hw.inj κ' (id, 0) b hb ho)), rfl⟩⟩
 refine ⟨⟨⟨fun b => Nat.le_refl _, imm_of (fun b hb => hoth b (fun he => by subst he; omega)), by omega, hos, htp, hout, fun _ _ => rfl, fun _ => Nat.le_refl _, fun κ h0 _ => hkp κ (by intro e; rw [e] at h0; simp at h0)⟩, fun b hb hn => ⟨hoth b (fun he => hn _ (he ▸ ho)), rfl⟩, fun κ b h => .inl ⟨κ, h⟩⟩, ⟨hw.inj, fun κ b h => ?_, fun b hb => ?_⟩, hkp⟩
 ·rw [hsz]; exact hw.lt κ b h
 ·exact hw.zero b (by omega)
theorem two_of {G : Gh} {w : World} {x y : SV} {arr : Array Value} (h : RepSs G w [x, y] arr.toList) : ∃ u v, arr = #[u, v] ∧ RepS G w x u ∧ RepS G w y v := by
 obtain ⟨u, us, h1, h2, v, us', h3, h4, h5⟩ := h
 simp only [RepSs] at h5; subst h5 h3
 refine ⟨u, v, ?_, h2, h4⟩
 apply Array.ext'; rw [h1]
theorem copyCheck_to (c0 s : SV) (hc : c0 = .av (.val (.pointer none)) ∨ c0 = .ptr 1000 0) (hs : s.keys = []) : CallTo Tryz.prog 87 [.ptr 1000 0] [(1000, .cells 85 [c0, s])] [] j0 [(1000, .cells 85 [.ptr 1000 0, s])] [] := by
 refine ⟨⟨_, Tryz.func87, by kernel_rfl, by kernel_rfl⟩, fun G w vs hw hargs hbx _ => ?_⟩
 obtain ⟨u, us', rfl, ⟨blk, ho, rfl⟩, hnil⟩ := hargs
 simp only [RepSs] at hnil; subst hnil
 obtain ⟨blk', arr, g1, g2, g3, g4, g5⟩ := hbx (1000, .cells 85 [c0, s]) (by simp)
 simp only at g1; rw [ho] at g1; simp at g1; subst g1
 obtain ⟨v0, v1, rfl, r0, r1⟩ := two_of g4
 have hc0 : w.cell? ⟨blk, 0, none⟩ = some v0 := by rw [Lib.cell_of_heap g2]; rfl
 have htup : ∀ (G : Gh) (w : World), RepS G w j0 (.tuple #[]) := fun G w => by simp only [RepS, Rep]; exact ⟨#[], rfl, by simp [RepL]⟩
 rcases hc with rfl | rfl
 ·simp only [RepS, Rep] at r0
  obtain ⟨rfl, _⟩ := r0
  have hlt := hw.lt _ _ ho
  refine (copyCheck_fresh blk w hc0 (by simp [World.shape?, g2]) (Lib.frozen_of_heap g2 0)).mono ?_
  rintro e w' ⟨rfl, rfl⟩
  have hh : (w.setCell ⟨blk, 0, none⟩ (.pointer (some ⟨blk, 0, none⟩))).heap[blk]? = some (.cells #[.pointer (some ⟨blk, 0, none⟩), v1] 85 (0, 0)) := by
   simp [World.setCell, Array.getElem?_modify, g2]
  obtain ⟨s1, s2, s3⟩ := step_owned (w' := w.setCell ⟨blk, 0, none⟩ (.pointer (some ⟨blk, 0, none⟩))) hw ho g3 (by simp [World.setCell]) rfl rfl rfl (fun k hk => by simp [World.setCell, Array.getElem?_modify, Ne.symm hk])
  refine ⟨.tuple #[], G, rfl, s1, s2, htup _ _, fun p hp => ?_, fun i hi => s3 (i, 0) (by intro e; apply hi; have := congrArg Prod.fst e; simp at this; subst this; simp), fun _ => rfl, fun _ => rfl⟩
  simp at hp; subst hp
  refine ⟨blk, _, ho, hh, g3, ⟨_, _, rfl, ⟨blk, ho, rfl⟩, _, [], rfl, r1.persist s1.toExt (fun _ _ => rfl), rfl⟩, ?_⟩
  intro x hx
  simp at hx g5
  rcases hx with rfl | rfl
  ·rfl
  ·exact g5.2
 ·obtain ⟨blk2, ho2, rfl⟩ := r0
  rw [ho] at ho2; simp at ho2; subst ho2
  refine (copyCheck_used blk w hc0).mono ?_
  rintro e w' ⟨rfl, rfl⟩
  refine ⟨.tuple #[], G, rfl, Step.refl _ _, hw, htup _ _, fun p hp => ?_, fun i hi => ⟨rfl, fun _ _ => ⟨rfl, rfl⟩⟩, fun _ => rfl, fun _ => rfl⟩
  simp at hp; subst hp
  exact ⟨blk, _, ho, g2, g3, g4, g5⟩
theorem copyCheck_son (s : SV) (hs : s.keys = []) : CallTo Tryz.prog 87 [.ptr 1000 0] [(1000, .cells 85 [.son 1000, s])] [] j0 [(1000, .cells 85 [.son 1000, s])] [] := by
 have hn := copyCheck_to (.av (.val (.pointer none))) s (.inl rfl) hs
 have hp := copyCheck_to (.ptr 1000 0) s (.inr rfl) hs
 refine ⟨hn.1, fun G w vs hw hargs hbx hg => ?_⟩
 have hb0 := hbx (1000, .cells 85 [.son 1000, s]) (by simp)
 obtain ⟨blk', arr, g1, g2, g3, g4, g5⟩ := hb0
 obtain ⟨v0, v1, rfl, r0, r1⟩ := two_of g4
 have post : Calls Tryz.prog 87 vs.toArray w (fun e w' => ∃ v G', e = .returned v ∧ Step G w G' w' ∧ Wf G' w' ∧ RepS G' w' j0 v ∧ (∀ p ∈ [(1000, ABox.cells 85 [.ptr 1000 0, s])], RepB G' w' p.1 p.2) ∧
   (∀ i : Nat, i ∉ [(1000, ABox.cells 85 [.ptr 1000 0, s])].map (·.1) → Keep G w G' w' (i, 0)) ∧ (∀ i, G'.ow (i, 0) = G.ow (i, 0)) ∧ ∀ κ : Key, G'.gen κ = (([] : List (Key × Nat)).lookup κ).getD (G.gen κ)) := by
  rcases r0 with rfl | ⟨blk, h1, rfl⟩
  ·exact hn.2 G w vs hw hargs (fun p hp => by simp at hp; subst hp; exact ⟨blk', _, g1, g2, g3, ⟨_, _, rfl, by simp only [RepS, Rep]; exact ⟨trivial, rfl⟩, _, [], rfl, r1, rfl⟩, g5⟩) hg
  ·exact hp.2 G w vs hw hargs (fun p hp => by simp at hp; subst hp; exact ⟨blk', _, g1, g2, g3, ⟨_, _, rfl, ⟨blk, h1, rfl⟩, _, [], rfl, r1, rfl⟩, g5⟩) hg
 refine post.mono ?_
 rintro e w' ⟨v, G', q1, q2, q3, q4, q5, q6, q7, q8⟩
 refine ⟨v, G', q1, q2, q3, q4, fun p hp => ?_, q6, q7, q8⟩
 simp at hp; subst hp
 obtain ⟨b2, arr2, e1, e2, e3, e4, e5⟩ := q5 (1000, .cells 85 [.ptr 1000 0, s]) (by simp)
 obtain ⟨u0, u1, rfl, f0, f1⟩ := two_of e4
 exact ⟨b2, _, e1, e2, e3, ⟨_, _, rfl, .inr f0, _, [], rfl, f1, rfl⟩, e5⟩
theorem RepL_bytes_eq {U : Nat → Nat} {w : World} : ∀ (l : List UInt8) (es : List Value), RepL U w (l.map (fun b => AV.val (.int .u8 b.toNat))) es → es = l.map (fun b => Value.int .u8 b.toNat)
 | [], es, h => by simpa [RepL] using h
 | b :: l, es, h => by
  simp only [List.map_cons, RepL] at h
  obtain ⟨u, us', rfl, h2, h3⟩ := h
  simp only [Rep] at h2
  rw [h2.1, RepL_bytes_eq l us' h3]; rfl
theorem String_to (c0 : SV) (k : Nat) (g : Nat) (s : ByteArray) (h0 : 0 < s.size) (h63 : s.size ≤ 9223372036854775807) :
  CallTo Tryz.prog 43 [.ptr 1000 0] [(1000, .cells 85 [c0, .own (k, 6) g 1 (bytesAV s)])] [((k, 6), g)] (.av (.val (.string s))) [(1000, .cells 85 [c0, .av (.sl (bytesAV s))])] [((k, 6), g + 1)] := by
 refine ⟨⟨_, Tryz.func43, by kernel_rfl, by kernel_rfl⟩, fun G w vs hw hargs hbx hgn => ?_⟩
 obtain ⟨u, us', rfl, ⟨blk, ho, rfl⟩, hnil⟩ := hargs
 simp only [RepSs] at hnil; subst hnil
 obtain ⟨blk', arr, g1, g2, g3, g4, g5⟩ := hbx (1000, .cells 85 [c0, .own (k, 6) g 1 (bytesAV s)]) (by simp)
 simp only at g1; rw [ho] at g1; simp at g1; subst g1
 have hgen : G.gen (k, 6) = g := hgn ((k, 6), g) (by simp)
 obtain ⟨v0, v1, rfl, r0, r1⟩ := two_of g4
 have rsl := r1.own_sl
 obtain ⟨_, _, a, cap, es, rfl, q2, q3, q4, qn, qsp, q5, q6⟩ := r1
 have hlen : (bytesAV s).length = s.size := by simp [bytesAV]
 have hes := RepL_bytes_eq s.data.toList es q2
 have hvc : vcells es = es := vcells_one es (fun v hv => by rw [hes] at hv; simp at hv; obtain ⟨b, _, rfl⟩ := hv; rfl)
 rcases q6 hgen with ⟨rfl, _⟩ | ⟨gb, off, cur, e, rfl, o1, o2, o3, o4, rfl, o5⟩
 ·have := qn rfl
  rw [this] at hes
  have h1 := congrArg List.length hes
  rw [List.length_map, show s.data.toList.length = s.size by simp] at h1
  simp only [List.length_nil] at h1
  exact absurd h1.symm (Nat.ne_of_gt h0)
 ·have he : e = 5 := by simpa using o5
  subst he
  have hne : gb ≠ blk := fun h => by
   have := hw.inj (k, 6) (1000, 0) blk (by rw [← h]; exact o1) ho
   simp at this
  have hl0 : s.data.toList ≠ [] := by intro h; have h1 := congrArg List.length h; rw [show s.data.toList.length = s.size by simp] at h1; simp only [List.length_nil] at h1; exact absurd h1 (Nat.ne_of_gt h0)
  have hll : s.data.toList.length = s.size := by simp
  refine (String_calls blk gb (bytesAV s).length cap v0 cur s.data.toList w hl0 (by rw [hlen, hll]) (by rw [hll, ← hlen]; exact q4) (by rw [hll]; simp only [Nat.zero_add, Nat.mul_one] at o3; rw [hlen] at q4; exact Nat.le_trans q4 o3) (by rw [hll]; exact h63) g2 o2 (fun j x hx => ?_)).mono ?_
  ·rcases q5 with h | ⟨b', off', h1, h2, h3⟩
   ·rw [hvc, hes] at h; simp at h; exact absurd h (by simpa using hl0)
   ·simp at h1; obtain ⟨rfl, rfl⟩ := h1
    have := (h3 j (.int .u8 x.toNat) (by rw [hvc, hes]; simp [hx])).1
    simpa using this
  ·rintro e w' ⟨rfl, hh, hos, htp, hout⟩
   have hfz : w'.heap = w.heap.modify gb (fun | .cells c elem (lo, hi) => .cells c elem (if lo == hi then (0, 0 + s.data.toList.length) else (min lo 0, max hi (0 + s.data.toList.length))) | o => o) := by
    rw [hh]; unfold World.freeze; rw [if_neg (by rw [hll]; omega)]; rfl
   have hoth : ∀ i, i ≠ gb → w'.heap[i]? = w.heap[i]? := fun i hi => by rw [hfz, Array.getElem?_modify, if_neg (Ne.symm hi)]
   have hsize : w'.heap.size = w.heap.size := by rw [hfz]; simp
   obtain ⟨fz, hgb⟩ : ∃ fz, w'.heap[gb]? = some (.cells cur 5 fz) := by rw [hfz, Array.getElem?_modify, if_pos rfl, o2]; exact ⟨_, rfl⟩
   have hcell : ∀ b o, w'.cell? ⟨b, o, none⟩ = w.cell? ⟨b, o, none⟩ := fun b o => by
    by_cases hb : b = gb
    ·subst hb; simp [World.cell?, hgb, o2]
    ·exact cell_of_heap (hoth b hb) o
   have himm : Imm G.U w w' := ⟨fun b o _ => hcell b o, fun b es' cl _ hm => by
    have : b ≠ gb := by intro h; subst h; rw [o2] at hm; simp at hm
    rw [hoth b this]; exact hm⟩
   have hkp : ∀ κ, κ ≠ (k, 6) → Keep G w { G with gen := fun κ => if κ = (k, 6) then G.gen κ + 1 else G.gen κ } w' κ := fun κ hκ => ⟨rfl, fun b hb => ⟨hoth b (fun h => by subst h; exact hκ (hw.inj κ (k, 6) b hb o1)), rfl⟩⟩
   have hext : Ext G w { G with gen := fun κ => if κ = (k, 6) then G.gen κ + 1 else G.gen κ } w' := by
    refine ⟨fun _ => Nat.le_refl _, himm, by omega, hos, htp, hout, fun _ _ => rfl, fun κ => ?_, fun κ _ hg => hkp κ (fun h => ?_)⟩
    ·simp only; split <;> omega
    ·subst h; simp at hg
   refine ⟨.string ⟨s.data.toList.toArray⟩, { G with gen := fun κ => if κ = (k, 6) then G.gen κ + 1 else G.gen κ }, rfl, ⟨hext, fun b _ hn => ⟨hoth b (fun h => hn (k, 6) (by rw [h]; exact o1)), rfl⟩, fun κ b h => .inl ⟨κ, h⟩⟩,
    ⟨hw.inj, fun κ b h => by rw [hsize]; exact hw.lt κ b h, fun b hb => hw.zero b (by omega)⟩, ?_, fun p hp => ?_, fun i hi => hkp (i, 0) (by simp), fun _ => rfl, fun κ => ?_⟩
   ·simp only [RepS, Rep]; exact ⟨by simp, rfl⟩
   ·simp at hp; subst hp
    refine ⟨blk, _, ho, by rw [hoth blk (Ne.symm hne)]; exact g2, g3, ⟨_, _, rfl, r0.persist hext (fun κ hκ => ?_), _, [], rfl, Rep.mono (fun _ => Nat.le_refl _) himm _ _ rsl, rfl⟩, g5⟩
    rfl
   ·simp only [List.lookup_cons, List.lookup_nil]
    by_cases hk : κ = (k, 6)
    ·subst hk; simp [hgen]
    ·have : (κ == (k, 6)) = false := by simpa using hk
     simp [this, hk]
end Go.Proofs.YtdaglbjgdakmcaaGreat
namespace Go.Proofs.YtdaglbjgdakmcaaGreat
open Go Go.Eng
set_option maxHeartbeats 2000000 in
theorem WriteString_to (σ : WS) (s : ByteArray) (hsz : (wput s σ).1.size ≤ 1000000000) : CallTo Tryz.prog 62 [(.ptr 1000 0), (jS s)] [(1000, (.cells 85 [(.son 1000), (.own (1300, 6) ((σ).2) 1 (bytesAV ((σ).1)))]))] [((1300, 6), (σ).2)] (.av (.tup [.val (.int .i64 ((ByteArray.size s : Nat) : Int)), .val .nilIface])) [(1000, (.cells 85 [(.son 1000), (.own (1300, 6) ((wput s σ).2) 1 (bytesAV ((wput s σ).1)))]))] [((1300, 6), (wput s σ).2)] := by
 rw [wput_size] at hsz
 refine CallTo_of_body (n := 19) Tryz.func62 rfl (by kernel_rfl) Tryz.ntmps62 (by simp) (by simp) (by simp) (by simp [OkSV, SV.keys, ABox.svs, PV.keys]) (by simp [OkSV, SV.keys, ABox.svs, PV.keys]) (by simp [OkSV, SV.keys, ABox.svs, PV.keys]) (by simp [OkSV, SV.keys, ABox.svs, PV.keys]) rfl rfl ?_
 refine W_eq (sx 19 [(0, (.ptr 1000 0)), (1, (jS s))] [(1000, (.cells 85 [(.son 1000), (.own (1300, 6) ((σ).2) 1 (bytesAV ((σ).1)))]))] [((1300, 6), (σ).2)]) (by kernel_rfl) ?_
 refine WN ?_
 refine GO (tn 3 (kg (show CallTo Tryz.prog 87 [(.ptr 1000 0)] [(1000, (.cells 85 [(.son 1000), (.own (1300, 6) ((σ).2) 1 (bytesAV ((σ).1)))]))] [] j0 [(1000, (.cells 85 [(.son 1000), (.own (1300, 6) ((σ).2) 1 (bytesAV ((σ).1)))]))] [] from (copyCheck_son _ rfl)) trivial (tn 6 (kp (show ((σ).2 : Nat) = (σ).2 ∧ Uni 1 (bytesAV s) ∧ (((bytesAV ((σ).1)) : List AV).length + ((bytesAV s) : List AV).length) * 1 ≤ 140737488355328 from ⟨rfl, bytes_uni _, by simp only [bytes_len]; omega⟩) (kw (show (((bytesAV ((σ).1)) ++ (bytesAV s)) : List AV) = _ from rfl) (tn 7 z)))))) (by kernel_rfl) ?_
 exact LEAF .ret (S2 := (sx 19 [(4, (jI ((ByteArray.size s : Nat) : Int))), (5, (.av (.val (.nilIface))))] [(1000, (.cells 85 [(.son 1000), (.own (1300, 6) ((σ).2 + 1) 1 ((bytesAV ((σ).1)) ++ (bytesAV s)))]))] [((1300, 6), (σ).2 + 1)])) (by kernel_rfl) (WK (by kernel_rfl)) (ends (r := (.av (.tup [(vI ((ByteArray.size s : Nat) : Int)), (.val (.nilIface))]))) (by simp) (by kernel_rfl) rfl (by simp [sx, List.lookup_cons, wput, bytes_cat]) (by simp [sx, St.gen, List.lookup_cons, wput]))
set_option maxHeartbeats 2000000 in
theorem operand_step (w : Nd → WS → WS) (hg : Grows w) (x : Nd) (b : Bool) (σ : WS) (hsz : (opB w x b σ).1.size ≤ 1000000000) (hw1 : ∀ τ, (w x τ).1.size ≤ 1000000000 → CallTo Tryz.prog 42 [(.av (nav x)), (jP 1000 0)] [(1000, (.cells 85 [(.son 1000), (.own (1300, 6) ((τ).2) 1 (bytesAV ((τ).1)))]))] [((1300, 6), (τ).2)] j0 [(1000, (.cells 85 [(.son 1000), (.own (1300, 6) ((w x τ).2) 1 (bytesAV ((w x τ).1)))]))] [((1300, 6), (w x τ).2)]) : CallTo Tryz.prog 63 [(.av (.agg [(vI (Nd.kind x)), (vS (Nd.name x)), (.sl (av2 (Nd.kids x)))])), (.ptr 1000 0), (jB b)] [(1000, (.cells 85 [(.son 1000), (.own (1300, 6) ((σ).2) 1 (bytesAV ((σ).1)))]))] [((1300, 6), (σ).2)] j0 [(1000, (.cells 85 [(.son 1000), (.own (1300, 6) ((opB w x b σ).2) 1 (bytesAV ((opB w x b σ).1)))]))] [((1300, 6), (opB w x b σ).2)] := by
 refine CallTo_of_body (n := 18) Tryz.func63 rfl (by kernel_rfl) Tryz.ntmps63 (by simp) (by simp) (by simp) (by simp [OkSV, SV.keys, ABox.svs, PV.keys]) (by simp [OkSV, SV.keys, ABox.svs, PV.keys]) (by simp [OkSV, SV.keys, ABox.svs, PV.keys]) (by simp [OkSV, SV.keys, ABox.svs, PV.keys]) rfl rfl ?_
 refine W_eq (sx 18 [(0, (.av (.agg [(vI (Nd.kind x)), (vS (Nd.name x)), (.sl (av2 (Nd.kids x)))]))), (1, (.ptr 1000 0)), (2, (jB b))] [(1000, (.cells 85 [(.son 1000), (.own (1300, 6) ((σ).2) 1 (bytesAV ((σ).1)))]))] [((1300, 6), (σ).2)]) (by kernel_rfl) ?_
 refine WN ?_
 refine GO (tn 3 z) (by kernel_rfl) ?_
 rcases Bool.eq_false_or_eq_true (!b) with hb1 | hb1
 ·have hb1n : b = false := by simpa using hb1
  have hq : (opB w x b σ) = w x σ := by rw [opB, hb1n]; rfl
  rw [hq] at hsz
  refine GO (kb hb1 (tn 2 (kg (hw1 (σ) (by omega)) (show ((σ).2 : Nat) = (σ).2 ∧ True from ⟨rfl, trivial⟩) z))) (by kernel_rfl) ?_
  have hF : opB w x b σ = w x (σ) := by rw [opB, hb1n]; rfl
  exact LEAF .ret (S2 := (sx 18 [] [(1000, (.cells 85 [(.son 1000), (.own (1300, 6) ((w x (σ)).2) 1 (bytesAV ((w x (σ)).1)))]))] [((1300, 6), (w x (σ)).2)])) (by kernel_rfl) (WK (by kernel_rfl)) (ends (r := j0) (by simp) (by kernel_rfl) rfl (by rw [hF]; simp [sx, List.lookup_cons]) (by rw [hF]; simp [sx, St.gen, List.lookup_cons]))
 ·have hb1n : b = true := by simpa using hb1
  have hq : (opB w x b σ) = wput ⟨#[41]⟩ (w x (wput ⟨#[40]⟩ σ)) := by rw [opB, hb1n]; rfl
  rw [hq] at hsz
  have h1 := hg x (wput ⟨#[40]⟩ σ)
  have h2 := wput_size ⟨#[41]⟩ (w x (wput ⟨#[40]⟩ σ))
  refine GO (kb hb1 (tn 1 (kg (WriteString_to (σ) (⟨#[40]⟩) (by omega)) (show ((σ).2 : Nat) = (σ).2 ∧ True from ⟨rfl, trivial⟩) (tn 2 (kg (hw1 (wput (⟨#[40]⟩) (σ)) (by omega)) (show ((wput (⟨#[40]⟩) (σ)).2 : Nat) = (wput (⟨#[40]⟩) (σ)).2 ∧ True from ⟨rfl, trivial⟩) (tn 1 (kg (WriteString_to (w x (wput (⟨#[40]⟩) (σ))) (⟨#[41]⟩) (by omega)) (show ((w x (wput (⟨#[40]⟩) (σ))).2 : Nat) = (w x (wput (⟨#[40]⟩) (σ))).2 ∧ True from ⟨rfl, trivial⟩) z))))))) (by kernel_rfl) ?_
  have hF : opB w x b σ = wput (⟨#[41]⟩) (w x (wput (⟨#[40]⟩) (σ))) := by rw [opB, hb1n]; rfl
  exact LEAF .normal (S2 := (sx 18 [] [(1000, (.cells 85 [(.son 1000), (.own (1300, 6) ((wput (⟨#[41]⟩) (w x (wput (⟨#[40]⟩) (σ)))).2) 1 (bytesAV ((wput (⟨#[41]⟩) (w x (wput (⟨#[40]⟩) (σ)))).1)))]))] [((1300, 6), (wput (⟨#[41]⟩) (w x (wput (⟨#[40]⟩) (σ)))).2)])) (by kernel_rfl) (WK (by kernel_rfl)) (ends (r := j0) (by simp) (by kernel_rfl) rfl (by rw [hF]; simp [sx, List.lookup_cons]) (by rw [hF]; simp [sx, St.gen, List.lookup_cons]))
set_option maxHeartbeats 2000000 in
theorem write_step (w : Nd → WS → WS) (hg : Grows w) (x : Nd) (σ : WS) (hk : x.kind = 3 → 1 ≤ x.kids.length) (hl : x.kids.length ≤ 1000000) (hsz : (wrB w x σ).1.size ≤ 1000000000) (hrec : ∀ i τ, i < x.kids.length → (w (ndth x.kids i) τ).1.size ≤ 1000000000 → CallTo Tryz.prog 42 [(.av (nav (ndth x.kids i))), (jP 1000 0)] [(1000, (.cells 85 [(.son 1000), (.own (1300, 6) ((τ).2) 1 (bytesAV ((τ).1)))]))] [((1300, 6), (τ).2)] j0 [(1000, (.cells 85 [(.son 1000), (.own (1300, 6) ((w (ndth x.kids i) τ).2) 1 (bytesAV ((w (ndth x.kids i) τ).1)))]))] [((1300, 6), (w (ndth x.kids i) τ).2)]) (hop : ∀ i b τ, i < x.kids.length → (opB w (ndth x.kids i) b τ).1.size ≤ 1000000000 → CallTo Tryz.prog 63 [(.av (nav (ndth x.kids i))), (jP 1000 0), (jB b)] [(1000, (.cells 85 [(.son 1000), (.own (1300, 6) ((τ).2) 1 (bytesAV ((τ).1)))]))] [((1300, 6), (τ).2)] j0 [(1000, (.cells 85 [(.son 1000), (.own (1300, 6) ((opB w (ndth x.kids i) b τ).2) 1 (bytesAV ((opB w (ndth x.kids i) b τ).1)))]))] [((1300, 6), (opB w (ndth x.kids i) b τ).2)]) : CallTo Tryz.prog 42 [(.av (.agg [(vI (Nd.kind x)), (vS (Nd.name x)), (.sl (av2 (Nd.kids x)))])), (.ptr 1000 0)] [(1000, (.cells 85 [(.son 1000), (.own (1300, 6) ((σ).2) 1 (bytesAV ((σ).1)))]))] [((1300, 6), (σ).2)] j0 [(1000, (.cells 85 [(.son 1000), (.own (1300, 6) ((wrB w x σ).2) 1 (bytesAV ((wrB w x σ).1)))]))] [((1300, 6), (wrB w x σ).2)] := by
 have hml := av2_len x.kids
 refine CallTo_of_body (n := 81) Tryz.func42 rfl (by kernel_rfl) Tryz.ntmps42 (by simp) (by simp) (by simp) (by simp [OkSV, SV.keys, ABox.svs, PV.keys]) (by simp [OkSV, SV.keys, ABox.svs, PV.keys]) (by simp [OkSV, SV.keys, ABox.svs, PV.keys]) (by simp [OkSV, SV.keys, ABox.svs, PV.keys]) rfl rfl ?_
 refine W_eq (sx 81 [(0, (.av (.agg [(vI (Nd.kind x)), (vS (Nd.name x)), (.sl (av2 (Nd.kids x)))]))), (1, (.ptr 1000 0))] [(1000, (.cells 85 [(.son 1000), (.own (1300, 6) ((σ).2) 1 (bytesAV ((σ).1)))]))] [((1300, 6), (σ).2)]) (by kernel_rfl) ?_
 refine WN ?_
 refine GO (tn 5 z) (by kernel_rfl) ?_
 rcases Bool.eq_false_or_eq_true ((Nd.kind x : Int) == 1) with hb1 | hb1
 ·have hb1p := eq_of_beq hb1
  have hB : wrB w x σ = wrOr w x.kids 0 σ := by rw [wrB, hb1]; rfl
  rw [hB] at hsz
  refine GO (kb hb1 (tn 4 z)) (by kernel_rfl) ?_
  refine LP (I := fun N M S => ∃ i : Nat, ∃ τ : WS, (i ≤ x.kids.length) ∧ (wrOr w (x.kids.drop i) i (τ) = wrOr w x.kids 0 (σ)) ∧ N = x.kids.length - i ∧ M = () ∧ S = (sx 81 [(1, (.ptr 1000 0)), (18, (jL (av2 (Nd.kids x)))), (19, (jI (((av2 (Nd.kids x)).length : Nat) : Int))), (20, (jI ((i : Nat) : Int)))] [(1000, (.cells 85 [(.son 1000), (.own (1300, 6) ((τ).2) 1 (bytesAV ((τ).1)))]))] [((1300, 6), (τ).2)])) (n := x.kids.length - 0) (by kernel_rfl) ⟨0, σ, Nat.zero_le _, rfl, rfl, rfl, rfl⟩ (wtr (S' := (sx 81 [(1, (.ptr 1000 0)), (18, (jL (av2 (Nd.kids x)))), (19, (jI (((av2 (Nd.kids x)).length : Nat) : Int))), (20, (jI 0))] [(1000, (.cells 85 [(.son 1000), (.own (1300, 6) ((σ).2) 1 (bytesAV ((σ).1)))]))] [((1300, 6), (σ).2)])) (WK (by kernel_rfl)) (weak_sx (show WkX _ _ _ from ⟨rfl, rfl, rfl, (by rfl), trivial⟩) (show WkBx _ _ from ⟨⟨rfl, ⟨rfl, ⟨rfl, (by omega), rfl, (by simp)⟩, trivial⟩⟩, trivial⟩) (show WkG _ _ _ from ⟨(by rfl), (by rfl), trivial⟩))) ?_
  rintro N M S ⟨i, τ, hi, hE, rfl, rfl, rfl⟩
  have hm := wrOr_grows hg (x.kids.drop i) i τ
  rw [hE] at hm
  refine GO (tn 1 z) (by kernel_rfl) ?_
  rcases Bool.eq_false_or_eq_true (decide (((i : Nat) : Int) < (((av2 (Nd.kids x)).length : Nat) : Int))) with hb2 | hb2
  ·have hb2p := of_decide_eq_true hb2
   have hm2 := wrOr_grows hg (x.kids.drop (i + 1)) (i + 1) (w (ndth x.kids i) (if 0 < i then wput ⟨#[32, 111, 114, 32]⟩ τ else τ))
   rw [← wrOr_step w x.kids i τ (by omega), hE] at hm2
   refine GO (kb hb2 (tn 1 (ke (show 0 ≤ ((i : Nat) : Int) ∧ ((av2 (Nd.kids x)) : List AV)[i]? = some (.agg [(vI (Nd.kind (ndth (Nd.kids x) i))), (vS (Nd.name (ndth (Nd.kids x) i))), (.sl (av2 (Nd.kids (ndth (Nd.kids x) i))))]) from (av2_at (i := i) (by omega))) (tn 6 z)))) (by kernel_rfl) ?_
   rcases Bool.eq_false_or_eq_true (decide (((i : Nat) : Int) > 0)) with hb3 | hb3
   ·have hb3p := of_decide_eq_true hb3
    rw [if_pos (by omega)] at hm2
    have hm3 := hg (ndth x.kids i) (wput ⟨#[32, 111, 114, 32]⟩ τ)
    refine GO (kb hb3 (tn 1 (kg (WriteString_to (τ) (⟨#[32, 111, 114, 32]⟩) (by omega)) (show ((τ).2 : Nat) = (τ).2 ∧ True from ⟨rfl, trivial⟩) (tn 2 (kg (hrec i (wput (⟨#[32, 111, 114, 32]⟩) (τ)) (by omega) (by omega)) (show ((wput (⟨#[32, 111, 114, 32]⟩) (τ)).2 : Nat) = (wput (⟨#[32, 111, 114, 32]⟩) (τ)).2 ∧ True from ⟨rfl, trivial⟩) (kn (wrE (((i : Nat) : Int) + 1) ((i + 1 : Nat) : Int) (by omega)) (tn 1 z))))))) (by kernel_rfl) ?_
    exact AG (m := x.kids.length - (i + 1)) ⟨i + 1, w (ndth (Nd.kids x) i) (wput (⟨#[32, 111, 114, 32]⟩) (τ)), by omega, by rw [← hE, wrOr_step w x.kids i τ (by omega), if_pos (by omega)], rfl, rfl, rfl⟩ (wtr (S' := (sx 81 [(1, (.ptr 1000 0)), (18, (jL (av2 (Nd.kids x)))), (19, (jI (((av2 (Nd.kids x)).length : Nat) : Int))), (20, (jI ((i + 1 : Nat) : Int)))] [(1000, (.cells 85 [(.son 1000), (.own (1300, 6) ((w (ndth (Nd.kids x) i) (wput (⟨#[32, 111, 114, 32]⟩) (τ))).2) 1 (bytesAV ((w (ndth (Nd.kids x) i) (wput (⟨#[32, 111, 114, 32]⟩) (τ))).1)))]))] [((1300, 6), (w (ndth (Nd.kids x) i) (wput (⟨#[32, 111, 114, 32]⟩) (τ))).2)])) (WK (by kernel_rfl)) (weak_sx (show WkX _ _ _ from ⟨rfl, rfl, rfl, (by rfl), trivial⟩) (show WkBx _ _ from ⟨⟨rfl, ⟨rfl, ⟨rfl, (by omega), rfl, (by simp)⟩, trivial⟩⟩, trivial⟩) (show WkG _ _ _ from ⟨(by rfl), (by rfl), trivial⟩))) (by kernel_rfl) (by omega)
   ·have hb3p := of_decide_eq_false hb3
    rw [if_neg (by omega)] at hm2
    refine GO (kb hb3 (tn 2 (kg (hrec i (τ) (by omega) (by omega)) (show ((τ).2 : Nat) = (τ).2 ∧ True from ⟨rfl, trivial⟩) (kn (wrE (((i : Nat) : Int) + 1) ((i + 1 : Nat) : Int) (by omega)) (tn 1 z))))) (by kernel_rfl) ?_
    exact AG (m := x.kids.length - (i + 1)) ⟨i + 1, w (ndth (Nd.kids x) i) (τ), by omega, by rw [← hE, wrOr_step w x.kids i τ (by omega), if_neg (by omega)], rfl, rfl, rfl⟩ (wtr (S' := (sx 81 [(1, (.ptr 1000 0)), (18, (jL (av2 (Nd.kids x)))), (19, (jI (((av2 (Nd.kids x)).length : Nat) : Int))), (20, (jI ((i + 1 : Nat) : Int)))] [(1000, (.cells 85 [(.son 1000), (.own (1300, 6) ((w (ndth (Nd.kids x) i) (τ)).2) 1 (bytesAV ((w (ndth (Nd.kids x) i) (τ)).1)))]))] [((1300, 6), (w (ndth (Nd.kids x) i) (τ)).2)])) (WK (by kernel_rfl)) (weak_sx (show WkX _ _ _ from ⟨rfl, rfl, rfl, (by rfl), trivial⟩) (show WkBx _ _ from ⟨⟨rfl, ⟨rfl, ⟨rfl, (by omega), rfl, (by simp)⟩, trivial⟩⟩, trivial⟩) (show WkG _ _ _ from ⟨(by rfl), (by rfl), trivial⟩))) (by kernel_rfl) (by omega)
  ·have hb2p := of_decide_eq_false hb2
   refine GO (kb hb2 z) (by kernel_rfl) ?_
   refine OUT z (by kernel_rfl) ?_
   have hF : wrB w x σ = τ := by rw [hB, ← hE, wrOr_end w x.kids i i τ (by omega)]
   exact LEAF .normal (S2 := (sx 81 [] [(1000, (.cells 85 [(.son 1000), (.own (1300, 6) ((τ).2) 1 (bytesAV ((τ).1)))]))] [((1300, 6), (τ).2)])) (by kernel_rfl) (WK (by kernel_rfl)) (ends (r := j0) (by simp) (by kernel_rfl) rfl (by rw [hF]; simp [sx, List.lookup_cons]) (by rw [hF]; simp [sx, St.gen, List.lookup_cons]))
 ·have hb1p := ne_of_beq_false hb1
  refine GO (kb hb1 (tn 2 z)) (by kernel_rfl) ?_
  rcases Bool.eq_false_or_eq_true ((Nd.kind x : Int) == 2) with hb4 | hb4
  ·have hb4p := eq_of_beq hb4
   have hB : wrB w x σ = wrAnd w x.kids 0 σ := by simp only [wrB, hb4]; simp [*]
   rw [hB] at hsz
   refine GO (kb hb4 (tn 4 z)) (by kernel_rfl) ?_
   refine LP (I := fun N M S => ∃ i : Nat, ∃ τ : WS, (i ≤ x.kids.length) ∧ (wrAnd w (x.kids.drop i) i (τ) = wrAnd w x.kids 0 (σ)) ∧ N = x.kids.length - i ∧ M = () ∧ S = (sx 81 [(1, (.ptr 1000 0)), (36, (jL (av2 (Nd.kids x)))), (37, (jI (((av2 (Nd.kids x)).length : Nat) : Int))), (38, (jI ((i : Nat) : Int)))] [(1000, (.cells 85 [(.son 1000), (.own (1300, 6) ((τ).2) 1 (bytesAV ((τ).1)))]))] [((1300, 6), (τ).2)])) (n := x.kids.length - 0) (by kernel_rfl) ⟨0, σ, Nat.zero_le _, rfl, rfl, rfl, rfl⟩ (wtr (S' := (sx 81 [(1, (.ptr 1000 0)), (36, (jL (av2 (Nd.kids x)))), (37, (jI (((av2 (Nd.kids x)).length : Nat) : Int))), (38, (jI 0))] [(1000, (.cells 85 [(.son 1000), (.own (1300, 6) ((σ).2) 1 (bytesAV ((σ).1)))]))] [((1300, 6), (σ).2)])) (WK (by kernel_rfl)) (weak_sx (show WkX _ _ _ from ⟨rfl, rfl, rfl, (by rfl), trivial⟩) (show WkBx _ _ from ⟨⟨rfl, ⟨rfl, ⟨rfl, (by omega), rfl, (by simp)⟩, trivial⟩⟩, trivial⟩) (show WkG _ _ _ from ⟨(by rfl), (by rfl), trivial⟩))) ?_
   rintro N M S ⟨i, τ, hi, hE, rfl, rfl, rfl⟩
   have hm := wrAnd_grows hg (x.kids.drop i) i τ
   rw [hE] at hm
   refine GO (tn 1 z) (by kernel_rfl) ?_
   rcases Bool.eq_false_or_eq_true (decide (((i : Nat) : Int) < (((av2 (Nd.kids x)).length : Nat) : Int))) with hb5 | hb5
   ·have hb5p := of_decide_eq_true hb5
    have hm2 := wrAnd_grows hg (x.kids.drop (i + 1)) (i + 1) (opB w (ndth x.kids i) ((ndth x.kids i).kind == 1) (if 0 < i then wput ⟨#[32, 97, 110, 100, 32]⟩ τ else τ))
    rw [← wrAnd_step w x.kids i τ (by omega), hE] at hm2
    refine GO (kb hb5 (tn 1 (ke (show 0 ≤ ((i : Nat) : Int) ∧ ((av2 (Nd.kids x)) : List AV)[i]? = some (.agg [(vI (Nd.kind (ndth (Nd.kids x) i))), (vS (Nd.name (ndth (Nd.kids x) i))), (.sl (av2 (Nd.kids (ndth (Nd.kids x) i))))]) from (av2_at (i := i) (by omega))) (tn 6 z)))) (by kernel_rfl) ?_
    rcases Bool.eq_false_or_eq_true (decide (((i : Nat) : Int) > 0)) with hb6 | hb6
    ·have hb6p := of_decide_eq_true hb6
     rw [if_pos (by omega)] at hm2
     have hm3 := opB_grows hg (ndth x.kids i) ((ndth x.kids i).kind == 1) (wput ⟨#[32, 97, 110, 100, 32]⟩ τ)
     refine GO (kb hb6 (tn 1 (kg (WriteString_to (τ) (⟨#[32, 97, 110, 100, 32]⟩) (by omega)) (show ((τ).2 : Nat) = (τ).2 ∧ True from ⟨rfl, trivial⟩) (tn 5 (kg (hop i ((Nd.kind (ndth (Nd.kids x) i) : Int) == 1) (wput (⟨#[32, 97, 110, 100, 32]⟩) (τ)) (by omega) (by omega)) (show ((wput (⟨#[32, 97, 110, 100, 32]⟩) (τ)).2 : Nat) = (wput (⟨#[32, 97, 110, 100, 32]⟩) (τ)).2 ∧ True from ⟨rfl, trivial⟩) (kn (wrE (((i : Nat) : Int) + 1) ((i + 1 : Nat) : Int) (by omega)) (tn 1 z))))))) (by kernel_rfl) ?_
     exact AG (m := x.kids.length - (i + 1)) ⟨i + 1, opB w (ndth (Nd.kids x) i) ((Nd.kind (ndth (Nd.kids x) i) : Int) == 1) (wput (⟨#[32, 97, 110, 100, 32]⟩) (τ)), by omega, by rw [← hE, wrAnd_step w x.kids i τ (by omega), if_pos (by omega)], rfl, rfl, rfl⟩ (wtr (S' := (sx 81 [(1, (.ptr 1000 0)), (36, (jL (av2 (Nd.kids x)))), (37, (jI (((av2 (Nd.kids x)).length : Nat) : Int))), (38, (jI ((i + 1 : Nat) : Int)))] [(1000, (.cells 85 [(.son 1000), (.own (1300, 6) ((opB w (ndth (Nd.kids x) i) ((Nd.kind (ndth (Nd.kids x) i) : Int) == 1) (wput (⟨#[32, 97, 110, 100, 32]⟩) (τ))).2) 1 (bytesAV ((opB w (ndth (Nd.kids x) i) ((Nd.kind (ndth (Nd.kids x) i) : Int) == 1) (wput (⟨#[32, 97, 110, 100, 32]⟩) (τ))).1)))]))] [((1300, 6), (opB w (ndth (Nd.kids x) i) ((Nd.kind (ndth (Nd.kids x) i) : Int) == 1) (wput (⟨#[32, 97, 110, 100, 32]⟩) (τ))).2)])) (WK (by kernel_rfl)) (weak_sx (show WkX _ _ _ from ⟨rfl, rfl, rfl, (by rfl), trivial⟩) (show WkBx _ _ from ⟨⟨rfl, ⟨rfl, ⟨rfl, (by omega), rfl, (by simp)⟩, trivial⟩⟩, trivial⟩) (show WkG _ _ _ from ⟨(by rfl), (by rfl), trivial⟩))) (by kernel_rfl) (by omega)
    ·have hb6p := of_decide_eq_false hb6
     rw [if_neg (by omega)] at hm2
     refine GO (kb hb6 (tn 5 (kg (hop i ((Nd.kind (ndth (Nd.kids x) i) : Int) == 1) (τ) (by omega) (by omega)) (show ((τ).2 : Nat) = (τ).2 ∧ True from ⟨rfl, trivial⟩) (kn (wrE (((i : Nat) : Int) + 1) ((i + 1 : Nat) : Int) (by omega)) (tn 1 z))))) (by kernel_rfl) ?_
     exact AG (m := x.kids.length - (i + 1)) ⟨i + 1, opB w (ndth (Nd.kids x) i) ((Nd.kind (ndth (Nd.kids x) i) : Int) == 1) (τ), by omega, by rw [← hE, wrAnd_step w x.kids i τ (by omega), if_neg (by omega)], rfl, rfl, rfl⟩ (wtr (S' := (sx 81 [(1, (.ptr 1000 0)), (36, (jL (av2 (Nd.kids x)))), (37, (jI (((av2 (Nd.kids x)).length : Nat) : Int))), (38, (jI ((i + 1 : Nat) : Int)))] [(1000, (.cells 85 [(.son 1000), (.own (1300, 6) ((opB w (ndth (Nd.kids x) i) ((Nd.kind (ndth (Nd.kids x) i) : Int) == 1) (τ)).2) 1 (bytesAV ((opB w (ndth (Nd.kids x) i) ((Nd.kind (ndth (Nd.kids x) i) : Int) == 1) (τ)).1)))]))] [((1300, 6), (opB w (ndth (Nd.kids x) i) ((Nd.kind (ndth (Nd.kids x) i) : Int) == 1) (τ)).2)])) (WK (by kernel_rfl)) (weak_sx (show WkX _ _ _ from ⟨rfl, rfl, rfl, (by rfl), trivial⟩) (show WkBx _ _ from ⟨⟨rfl, ⟨rfl, ⟨rfl, (by omega), rfl, (by simp)⟩, trivial⟩⟩, trivial⟩) (show WkG _ _ _ from ⟨(by rfl), (by rfl), trivial⟩))) (by kernel_rfl) (by omega)
   ·have hb5p := of_decide_eq_false hb5
    refine GO (kb hb5 z) (by kernel_rfl) ?_
    refine OUT z (by kernel_rfl) ?_
    have hF : wrB w x σ = τ := by rw [hB, ← hE, wrAnd_end w x.kids i i τ (by omega)]
    exact LEAF .normal (S2 := (sx 81 [] [(1000, (.cells 85 [(.son 1000), (.own (1300, 6) ((τ).2) 1 (bytesAV ((τ).1)))]))] [((1300, 6), (τ).2)])) (by kernel_rfl) (WK (by kernel_rfl)) (ends (r := j0) (by simp) (by kernel_rfl) rfl (by rw [hF]; simp [sx, List.lookup_cons]) (by rw [hF]; simp [sx, St.gen, List.lookup_cons]))
  ·have hb4p := ne_of_beq_false hb4
   refine GO (kb hb4 (tn 2 z)) (by kernel_rfl) ?_
   rcases Bool.eq_false_or_eq_true ((Nd.kind x : Int) == 3) with hb7 | hb7
   ·have hb7p := eq_of_beq hb7
    have hB : wrB w x σ = opB w (ndth x.kids 0) ((ndth x.kids 0).kind == 1 || (ndth x.kids 0).kind == 2) (wput ⟨#[110, 111, 116, 32]⟩ σ) := by simp [wrB, *]
    rw [hB] at hsz
    have hm := opB_grows hg (ndth x.kids 0) ((ndth x.kids 0).kind == 1 || (ndth x.kids 0).kind == 2) (wput ⟨#[110, 111, 116, 32]⟩ σ)
    have hk1 := hk (by simpa using hb7)
    rcases Bool.eq_false_or_eq_true ((Nd.kind (ndth (Nd.kids x) 0) : Int) == 1) with hb8 | hb8
    ·have hb8p := eq_of_beq hb8
     rw [show ((ndth x.kids 0).kind == 1) = true from hb8, Bool.true_or] at hsz hm hB
     refine GO (kb hb7 (tn 1 (kg (WriteString_to (σ) (⟨#[110, 111, 116, 32]⟩) (by omega)) (show ((σ).2 : Nat) = (σ).2 ∧ True from ⟨rfl, trivial⟩) (tn 2 (ke (show 0 ≤ (0 : Int) ∧ ((av2 (Nd.kids x)) : List AV)[0]? = some (.agg [(vI (Nd.kind (ndth (Nd.kids x) 0))), (vS (Nd.name (ndth (Nd.kids x) 0))), (.sl (av2 (Nd.kids (ndth (Nd.kids x) 0))))]) from (av2_at (i := 0) (by omega))) (tn 9 (kb hb8 (kb hb8 (kb hb8 (kb hb8 (kg (hop 0 true (wput (⟨#[110, 111, 116, 32]⟩) (σ)) (by omega) (by omega)) (show ((wput (⟨#[110, 111, 116, 32]⟩) (σ)).2 : Nat) = (wput (⟨#[110, 111, 116, 32]⟩) (σ)).2 ∧ True from ⟨rfl, trivial⟩) z))))))))))) (by kernel_rfl) ?_
     have hF : wrB w x σ = opB w (ndth (Nd.kids x) 0) true (wput (⟨#[110, 111, 116, 32]⟩) (σ)) := hB
     exact LEAF .normal (S2 := (sx 81 [] [(1000, (.cells 85 [(.son 1000), (.own (1300, 6) ((opB w (ndth (Nd.kids x) 0) true (wput (⟨#[110, 111, 116, 32]⟩) (σ))).2) 1 (bytesAV ((opB w (ndth (Nd.kids x) 0) true (wput (⟨#[110, 111, 116, 32]⟩) (σ))).1)))]))] [((1300, 6), (opB w (ndth (Nd.kids x) 0) true (wput (⟨#[110, 111, 116, 32]⟩) (σ))).2)])) (by kernel_rfl) (WK (by kernel_rfl)) (ends (r := j0) (by simp) (by kernel_rfl) rfl (by rw [hF]; simp [sx, List.lookup_cons]) (by rw [hF]; simp [sx, St.gen, List.lookup_cons]))
    ·have hb8p := ne_of_beq_false hb8
     rw [show ((ndth x.kids 0).kind == 1) = false from hb8, Bool.false_or] at hsz hm hB
     refine GO (kb hb7 (tn 1 (kg (WriteString_to (σ) (⟨#[110, 111, 116, 32]⟩) (by omega)) (show ((σ).2 : Nat) = (σ).2 ∧ True from ⟨rfl, trivial⟩) (tn 2 (ke (show 0 ≤ (0 : Int) ∧ ((av2 (Nd.kids x)) : List AV)[0]? = some (.agg [(vI (Nd.kind (ndth (Nd.kids x) 0))), (vS (Nd.name (ndth (Nd.kids x) 0))), (.sl (av2 (Nd.kids (ndth (Nd.kids x) 0))))]) from (av2_at (i := 0) (by omega))) (tn 9 (kb hb8 (tn 1 (kb hb8 (tn 1 (kb hb8 (tn 1 (kb hb8 (kg (hop 0 ((Nd.kind (ndth (Nd.kids x) 0) : Int) == 2) (wput (⟨#[110, 111, 116, 32]⟩) (σ)) (by omega) (by omega)) (show ((wput (⟨#[110, 111, 116, 32]⟩) (σ)).2 : Nat) = (wput (⟨#[110, 111, 116, 32]⟩) (σ)).2 ∧ True from ⟨rfl, trivial⟩) z)))))))))))))) (by kernel_rfl) ?_
     have hF : wrB w x σ = opB w (ndth (Nd.kids x) 0) ((Nd.kind (ndth (Nd.kids x) 0) : Int) == 2) (wput (⟨#[110, 111, 116, 32]⟩) (σ)) := hB
     exact LEAF .normal (S2 := (sx 81 [] [(1000, (.cells 85 [(.son 1000), (.own (1300, 6) ((opB w (ndth (Nd.kids x) 0) ((Nd.kind (ndth (Nd.kids x) 0) : Int) == 2) (wput (⟨#[110, 111, 116, 32]⟩) (σ))).2) 1 (bytesAV ((opB w (ndth (Nd.kids x) 0) ((Nd.kind (ndth (Nd.kids x) 0) : Int) == 2) (wput (⟨#[110, 111, 116, 32]⟩) (σ))).1)))]))] [((1300, 6), (opB w (ndth (Nd.kids x) 0) ((Nd.kind (ndth (Nd.kids x) 0) : Int) == 2) (wput (⟨#[110, 111, 116, 32]⟩) (σ))).2)])) (by kernel_rfl) (WK (by kernel_rfl)) (ends (r := j0) (by simp) (by kernel_rfl) rfl (by rw [hF]; simp [sx, List.lookup_cons]) (by rw [hF]; simp [sx, St.gen, List.lookup_cons]))
   ·have hb7p := ne_of_beq_false hb7
    refine GO (kb hb7 (tn 2 z)) (by kernel_rfl) ?_
    rcases Bool.eq_false_or_eq_true ((Nd.kind x : Int) == 4) with hb9 | hb9
    ·have hb9p := eq_of_beq hb9
     have hB : wrB w x σ = wput ⟨#[116, 114, 117, 101]⟩ σ := by simp [wrB, *]
     rw [hB] at hsz
     refine GO (kb hb9 (tn 1 (kg (WriteString_to (σ) (⟨#[116, 114, 117, 101]⟩) (by omega)) (show ((σ).2 : Nat) = (σ).2 ∧ True from ⟨rfl, trivial⟩) z))) (by kernel_rfl) ?_
     have hF : wrB w x σ = wput (⟨#[116, 114, 117, 101]⟩) (σ) := hB
     exact LEAF .normal (S2 := (sx 81 [] [(1000, (.cells 85 [(.son 1000), (.own (1300, 6) ((wput (⟨#[116, 114, 117, 101]⟩) (σ)).2) 1 (bytesAV ((wput (⟨#[116, 114, 117, 101]⟩) (σ)).1)))]))] [((1300, 6), (wput (⟨#[116, 114, 117, 101]⟩) (σ)).2)])) (by kernel_rfl) (WK (by kernel_rfl)) (ends (r := j0) (by simp) (by kernel_rfl) rfl (by rw [hF]; simp [sx, List.lookup_cons]) (by rw [hF]; simp [sx, St.gen, List.lookup_cons]))
    ·have hb9p := ne_of_beq_false hb9
     refine GO (kb hb9 (tn 2 z)) (by kernel_rfl) ?_
     rcases Bool.eq_false_or_eq_true ((Nd.kind x : Int) == 5) with hb10 | hb10
     ·have hb10p := eq_of_beq hb10
      have hB : wrB w x σ = wput ⟨#[102, 97, 108, 115, 101]⟩ σ := by simp [wrB, *]
      rw [hB] at hsz
      refine GO (kb hb10 (tn 1 (kg (WriteString_to (σ) (⟨#[102, 97, 108, 115, 101]⟩) (by omega)) (show ((σ).2 : Nat) = (σ).2 ∧ True from ⟨rfl, trivial⟩) z))) (by kernel_rfl) ?_
      have hF : wrB w x σ = wput (⟨#[102, 97, 108, 115, 101]⟩) (σ) := hB
      exact LEAF .normal (S2 := (sx 81 [] [(1000, (.cells 85 [(.son 1000), (.own (1300, 6) ((wput (⟨#[102, 97, 108, 115, 101]⟩) (σ)).2) 1 (bytesAV ((wput (⟨#[102, 97, 108, 115, 101]⟩) (σ)).1)))]))] [((1300, 6), (wput (⟨#[102, 97, 108, 115, 101]⟩) (σ)).2)])) (by kernel_rfl) (WK (by kernel_rfl)) (ends (r := j0) (by simp) (by kernel_rfl) rfl (by rw [hF]; simp [sx, List.lookup_cons]) (by rw [hF]; simp [sx, St.gen, List.lookup_cons]))
     ·have hb10p := ne_of_beq_false hb10
      have hB : wrB w x σ = wput x.name σ := by simp [wrB, *]
      rw [hB] at hsz
      refine GO (kb hb10 (tn 3 (kg (WriteString_to (σ) (Nd.name x) (by omega)) (show ((σ).2 : Nat) = (σ).2 ∧ True from ⟨rfl, trivial⟩) z))) (by kernel_rfl) ?_
      have hF : wrB w x σ = wput (Nd.name x) (σ) := hB
      exact LEAF .normal (S2 := (sx 81 [] [(1000, (.cells 85 [(.son 1000), (.own (1300, 6) ((wput (Nd.name x) (σ)).2) 1 (bytesAV ((wput (Nd.name x) (σ)).1)))]))] [((1300, 6), (wput (Nd.name x) (σ)).2)])) (by kernel_rfl) (WK (by kernel_rfl)) (ends (r := j0) (by simp) (by kernel_rfl) rfl (by rw [hF]; simp [sx, List.lookup_cons]) (by rw [hF]; simp [sx, St.gen, List.lookup_cons]))
end Go.Proofs.YtdaglbjgdakmcaaGreat
