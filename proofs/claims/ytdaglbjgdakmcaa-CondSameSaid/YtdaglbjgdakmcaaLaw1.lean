/- The program's reader and the reference's read alike. -/
import Derived.Test.YtdaglbjgdakmcaaPrgD
set_option linter.unusedSimpArgs false
set_option linter.unusedVariables false
namespace Go.Proofs.Ytdaglbjgdakmcaa
open Go Go.Eng

mutual
/-- The reference's node for a node of the program: operands of one kind lie side by side. -/
def rc : Nd → Nd
  | .mk k nm kids => if k == 1 then .mk 6 ⟨#[]⟩ (gkids 6 (rcs kids)) else if k == 2 then .mk 5 ⟨#[]⟩ (gkids 5 (rcs kids)) else if k == 3 then .mk 4 ⟨#[]⟩ (rcs kids)
    else if k == 4 then .mk 2 ⟨#[]⟩ [] else if k == 5 then .mk 3 ⟨#[]⟩ [] else .mk 1 nm []
def rcs : List Nd → List Nd
  | [] => []
  | x :: l => rc x :: rcs l
end
theorem rcs_eq : ∀ l, rcs l = l.map rc
  | [] => by simp only [rcs, List.map_nil]
  | x :: l => by simp only [rcs, List.map_cons, rcs_eq l]
theorem rcs_app (l m : List Nd) : rcs (l ++ m) = rcs l ++ rcs m := by simp [rcs_eq]
theorem rcs_one (x : Nd) : rcs [x] = [rc x] := by simp [rcs_eq]

/-- Whether both have read the same. -/
def Sim (l : Nat) (d : Int) (p : PR) (r : RR) : Prop := p.ok = r.ok ∧ (r.ok = true → p.pos = r.to ∧ p.deep = max d r.most ∧ (l : Int) ≤ r.most ∧ rc p.nd = r.nd)

theorem eqs_or {a b c : ByteArray} (h : eqs a b = true) (hne : eqs b c = false) : eqs a c = false := by
  rw [eqs_iff] at h; subst h; exact hne

theorem accB_iff {t : List ByteArray} {p : Nat} {x : ByteArray} (h : p < t.length) : accB t p x = eqs (nth t p) x := accB_in x h

theorem sim_one {rec cnd : Nat → Int → Nat → PR} {rec' lst : Nat → Nat → RR} {t : List ByteArray} (hr : ∀ p d l, p ≤ t.length → 0 ≤ d → Sim l d (rec p d l) (rec' p l)) (hc : ∀ p d l, p ≤ t.length → 0 ≤ d → Sim l d (cnd p d l) (lst p l)) (hf : ∀ p d l, p ≤ t.length → FairP t p (cnd p d l))
    (p : Nat) (d : Int) (l : Nat) : Sim l d (oneP rec cnd t p d l) (oneR rec' lst t p l) := by
  unfold oneP oneR
  by_cases hp : t.length ≤ p
  · have hx : ∀ x, accB t p x = false := fun x => accB_out x (by omega)
    simp only [hx, Bool.false_eq_true, if_false, if_pos hp]
    exact ⟨rfl, fun h => by simp [rbad] at h⟩
  · have hlt : p < t.length := by omega
    simp only [accB_iff hlt]
    cases h1 : eqs (nth t p) ⟨#[110, 111, 116]⟩ with
    | true =>
      have n1 : eqs (nth t p) ⟨#[111, 114]⟩ = false := eqs_or h1 (by decide)
      have n2 : eqs (nth t p) ⟨#[97, 110, 100]⟩ = false := eqs_or h1 (by decide)
      have n3 : eqs (nth t p) ⟨#[41]⟩ = false := eqs_or h1 (by decide)
      simp only [n1, n2, n3, hp, if_true, if_false, Bool.false_eq_true]
      obtain ⟨a, b⟩ := hr (p + 1) (max d (l : Int)) (l + 1) (by omega) (by omega)
      refine ⟨a, fun h => ?_⟩
      obtain ⟨b1, b2, b3, b4⟩ := b h
      refine ⟨b1, ?_, ?_, ?_⟩
      · show (rec (p + 1) (max d (l : Int)) (l + 1)).deep = max d (rec' (p + 1) (l + 1)).most
        rw [b2]; omega
      · show (l : Int) ≤ (rec' (p + 1) (l + 1)).most; omega
      · simp only [rc, rcs]
        simp only [Int.reduceBEq, Bool.false_eq_true, if_false, if_true, b4]
    | false =>
      cases h2 : eqs (nth t p) ⟨#[40]⟩ with
      | true =>
        have n1 : eqs (nth t p) ⟨#[111, 114]⟩ = false := eqs_or h2 (by decide)
        have n2 : eqs (nth t p) ⟨#[97, 110, 100]⟩ = false := eqs_or h2 (by decide)
        have n3 : eqs (nth t p) ⟨#[41]⟩ = false := eqs_or h2 (by decide)
        simp only [n1, n2, n3, hp, if_true, if_false, Bool.false_eq_true]
        obtain ⟨a, b⟩ := hc (p + 1) (max d (l : Int)) (l + 1) (by omega) (by omega)
        obtain ⟨f1, f2, f3⟩ := hf (p + 1) (max d (l : Int)) (l + 1) (by omega)
        by_cases ho : (lst (p + 1) (l + 1)).ok = true
        · rw [if_pos (by rw [a]; exact ho), if_neg (by rw [ho]; simp)]
          obtain ⟨b1, b2, b3, b4⟩ := b ho
          by_cases h3 : t.length ≤ (lst (p + 1) (l + 1)).to
          · rw [if_pos h3]
            refine ⟨?_, fun h => by simp [rbad] at h⟩
            show accB t (cnd (p + 1) (max d (l : Int)) (l + 1)).pos ⟨#[41]⟩ = false
            rw [b1]; exact accB_out _ (by omega)
          · rw [if_neg h3]
            have hq : accB t (cnd (p + 1) (max d (l : Int)) (l + 1)).pos ⟨#[41]⟩ = eqs (nth t (lst (p + 1) (l + 1)).to) ⟨#[41]⟩ := by rw [b1]; exact accB_in _ (by omega)
            by_cases h4 : eqs (nth t (lst (p + 1) (l + 1)).to) ⟨#[41]⟩ = false
            · rw [if_pos h4]; exact ⟨by simp only [hq, h4]; rfl, fun h => by simp [rbad] at h⟩
            · rw [if_neg h4]
              have h4' : eqs (nth t (lst (p + 1) (l + 1)).to) ⟨#[41]⟩ = true := by simpa using h4
              rw [h4'] at hq
              refine ⟨hq, fun _ => ⟨?_, ?_, ?_, b4⟩⟩
              · show accP t _ _ = _; rw [(accP_t hq).1, b1]
              · show (cnd (p + 1) (max d (l : Int)) (l + 1)).deep = max d (max (lst (p + 1) (l + 1)).most (l : Int)); rw [b2]; omega
              · show (l : Int) ≤ max _ (l : Int); omega
        · have ho' : (lst (p + 1) (l + 1)).ok = false := by simpa using ho
          rw [if_neg (by rw [a]; exact ho), if_pos ho']
          exact ⟨rfl, fun h => by simp [rbad] at h⟩
      | false =>
        cases h3 : eqs (nth t p) ⟨#[116, 114, 117, 101]⟩ with
        | true =>
          have n1 : eqs (nth t p) ⟨#[111, 114]⟩ = false := eqs_or h3 (by decide)
          have n2 : eqs (nth t p) ⟨#[97, 110, 100]⟩ = false := eqs_or h3 (by decide)
          have n3 : eqs (nth t p) ⟨#[41]⟩ = false := eqs_or h3 (by decide)
          simp only [n1, n2, n3, hp, if_true, if_false, Bool.false_eq_true]
          exact ⟨rfl, fun _ => ⟨rfl, rfl, Int.le_refl _, by simp [rc]⟩⟩
        | false =>
          cases h4 : eqs (nth t p) ⟨#[102, 97, 108, 115, 101]⟩ with
          | true =>
            have n1 : eqs (nth t p) ⟨#[111, 114]⟩ = false := eqs_or h4 (by decide)
            have n2 : eqs (nth t p) ⟨#[97, 110, 100]⟩ = false := eqs_or h4 (by decide)
            have n3 : eqs (nth t p) ⟨#[41]⟩ = false := eqs_or h4 (by decide)
            simp only [n1, n2, n3, hp, if_true, if_false, Bool.false_eq_true]
            exact ⟨rfl, fun _ => ⟨rfl, rfl, Int.le_refl _, by simp [rc]⟩⟩
          | false =>
            simp only [specB, kwB, h1, h2, h3, h4, hp, if_false, Bool.false_eq_true, Bool.or_false, Bool.false_or]
            cases h5 : eqs (nth t p) ⟨#[111, 114]⟩ with
            | true => simp only [Bool.true_or, Bool.or_true, if_true]; exact ⟨rfl, fun h => by simp [rbad] at h⟩
            | false =>
              cases h6 : eqs (nth t p) ⟨#[97, 110, 100]⟩ with
              | true => simp only [Bool.true_or, Bool.or_true, if_true, if_false, Bool.false_eq_true]; exact ⟨rfl, fun h => by simp [rbad] at h⟩
              | false =>
                cases h7 : eqs (nth t p) ⟨#[41]⟩ with
                | true => simp only [Bool.true_or, Bool.or_true, if_true, if_false, Bool.false_eq_true]; exact ⟨rfl, fun h => by simp [rbad] at h⟩
                | false =>
                  simp only [Bool.or_self, if_false, Bool.false_eq_true]
                  exact ⟨rfl, fun _ => ⟨rfl, rfl, Int.le_refl _, by simp [rc]⟩⟩

theorem rc_mk {k op : Int} (h : (k = 1 ∧ op = 6) ∨ (k = 2 ∧ op = 5)) (l : List Nd) : rc (mkP k l) = grp op (rcs l) := by
  unfold mkP grp
  have hl : (rcs l).length = l.length := by simp [rcs_eq]
  rw [hl]
  split
  · rename_i h1
    match l, h1 with
    | [x], _ => simp [ndth, rcs]
  · rcases h with ⟨rfl, rfl⟩ | ⟨rfl, rfl⟩ <;> simp [rc]

theorem sim_list {opnd : Nat → Int → PR} {opnd' : Nat → RR} {word : ByteArray} {k op : Int} (hk : (k = 1 ∧ op = 6) ∨ (k = 2 ∧ op = 5)) {t : List ByteArray} {l : Nat} (hf : ∀ p d, p ≤ t.length → FairP t p (opnd p d)) (ho : ∀ p d, p ≤ t.length → 0 ≤ d → Sim l d (opnd p d) (opnd' p)) (d0 : Int) (hd0 : 0 ≤ d0) :
    ∀ (m p : Nat) (d most : Int) (acc : List Nd), p ≤ t.length → d = max d0 most → Sim l d0 (listP opnd word k t m p d acc) (listR opnd' word op t m p (rcs acc) most)
  | 0, p, d, most, acc, _, _ => by simp only [listP, listR]; exact ⟨rfl, fun h => by simp [rbad] at h⟩
  | m + 1, p, d, most, acc, hp, hd => by
    simp only [listP, listR]
    obtain ⟨a, b⟩ := ho p d hp (by omega)
    obtain ⟨f1, f2, f3⟩ := hf p d hp
    cases h1 : (opnd' p).ok with
    | true =>
      obtain ⟨b1, b2, b3, b4⟩ := b h1
      have ok1 : (opnd p d).ok = true := a.trans h1
      have f4 := f3 ok1
      have hd' : (opnd p d).deep = max d0 (max most (opnd' p).most) := by rw [b2, hd]; omega
      have hl' : (l : Int) ≤ max most (opnd' p).most := by omega
      have happ : rcs acc ++ [(opnd' p).nd] = rcs (acc ++ [(opnd p d).nd]) := by rw [rcs_app, rcs_one, b4]
      have done : Sim l d0 ⟨mkP k (acc ++ [(opnd p d).nd]), (opnd p d).pos, (opnd p d).deep, true⟩ ⟨grp op (rcs acc ++ [(opnd' p).nd]), (opnd' p).to, max most (opnd' p).most, true⟩ :=
        ⟨rfl, fun _ => ⟨b1, hd', hl', by simp only; rw [rc_mk hk, happ]⟩⟩
      simp only [ok1, reduceCtorEq, if_false]
      by_cases h2 : t.length ≤ (opnd' p).to
      · rw [if_pos h2, if_neg (by rw [b1, accB_out _ (by omega)]; simp)]; exact done
      · have hq : accB t (opnd p d).pos word = eqs (nth t (opnd' p).to) word := by rw [b1]; exact accB_in _ (by omega)
        rw [if_neg h2]
        cases h3 : eqs (nth t (opnd' p).to) word with
        | false => simp only [hq, h3, Bool.false_eq_true, if_false, if_true]; exact done
        | true =>
          simp only [hq, h3, reduceCtorEq, if_false, if_true]
          rw [happ, b1]
          exact sim_list hk hf ho d0 hd0 m _ _ _ _ (by omega) hd'
    | false =>
      simp only [a, h1, if_true]
      exact ⟨rfl, fun h => by simp [rbad] at h⟩

theorem sim_all {one : Nat → Int → Nat → PR} {one' : Nat → Nat → RR} {t : List ByteArray} (hf : ∀ p d l, p ≤ t.length → FairP t p (one p d l)) (h : ∀ p d l, p ≤ t.length → 0 ≤ d → Sim l d (one p d l) (one' p l)) (p : Nat) (d : Int) (l : Nat) (hp : p ≤ t.length) (hd : 0 ≤ d) : Sim l d (allP one t p d l) (randR one' t p l) :=
  sim_list (.inr ⟨rfl, rfl⟩) (fun p d hp => hf p d l hp) (fun p d hp hd => h p d l hp hd) d hd _ p d 0 [] hp (by omega)
theorem sim_cnd {one : Nat → Int → Nat → PR} {one' : Nat → Nat → RR} {t : List ByteArray} (hf : ∀ p d l, p ≤ t.length → FairP t p (one p d l)) (h : ∀ p d l, p ≤ t.length → 0 ≤ d → Sim l d (one p d l) (one' p l)) (p : Nat) (d : Int) (l : Nat) (hp : p ≤ t.length) (hd : 0 ≤ d) : Sim l d (cndP one t p d l) (rorR one' t p l) :=
  sim_list (.inl ⟨rfl, rfl⟩) (fun p d hp => fairP_all hf p d l hp) (fun p d hp hd => sim_all hf h p d l hp hd) d hd _ p d 0 [] hp (by omega)
theorem sim_pone (t : List ByteArray) : ∀ (n p : Nat) (d : Int) (l : Nat), p ≤ t.length → 0 ≤ d → Sim l d (pone t n p d l) (rone t n p l)
  | 0, p, d, l, _, _ => sim_one (fun p d l _ _ => ⟨rfl, fun h => by simp [rbad] at h⟩) (fun p d l _ _ => ⟨rfl, fun h => by simp [rbad] at h⟩) (fun p d l hp => ⟨Nat.le_refl _, hp, fun h => by simp at h⟩) p d l
  | n + 1, p, d, l, _, _ => sim_one (sim_pone t n) (sim_cnd (fairP_pone t n) (sim_pone t n)) (fairP_cnd (fairP_pone t n)) p d l

/-- Both read every text alike. -/
theorem read_same (s : ByteArray) : (readR s).2 = (parseP s).2 ∧ ((parseP s).2 = 0 → (readR s).1 = rc (parseP s).1) := by
  unfold readR parseP
  split
  · exact ⟨rfl, fun h => by simp at h⟩
  · obtain ⟨a, b⟩ := sim_cnd (fairP_pone (toks s 0) (toks s 0).length) (sim_pone (toks s 0) (toks s 0).length) 0 0 0 (Nat.zero_le _) (Int.le_refl _)
    have hf := (fairP_cnd (fairP_pone (toks s 0) (toks s 0).length) 0 0 0 (Nat.zero_le _)).2.1
    change (ptop (toks s 0)).ok = (rtop (toks s 0)).ok at a
    change (ptop (toks s 0)).pos ≤ _ at hf
    change (rtop (toks s 0)).ok = true → (ptop (toks s 0)).pos = (rtop (toks s 0)).to ∧ (ptop (toks s 0)).deep = max 0 (rtop (toks s 0)).most ∧ ((0 : Nat) : Int) ≤ (rtop (toks s 0)).most ∧ rc (ptop (toks s 0)).nd = (rtop (toks s 0)).nd at b
    unfold readT parseT
    rw [a]
    split
    · exact ⟨rfl, fun h => by simp at h⟩
    split
    · exact ⟨rfl, fun h => by simp at h⟩
    · rename_i h1 h2
      obtain ⟨b1, b2, b3, b4⟩ := b (by simpa using h2)
      by_cases h3 : (ptop (toks s 0)).pos < (toks s 0).length
      · rw [if_pos h3, if_pos (by omega)]; exact ⟨rfl, fun h => by simp at h⟩
      · rw [if_neg h3, if_neg (by omega)]
        by_cases h4 : (ptop (toks s 0)).deep > 16
        · rw [if_pos h4, if_pos (by omega)]; exact ⟨rfl, fun h => by simp at h⟩
        · rw [if_neg h4, if_neg (by omega)]; exact ⟨rfl, fun _ => b4.symm⟩

end Go.Proofs.Ytdaglbjgdakmcaa
