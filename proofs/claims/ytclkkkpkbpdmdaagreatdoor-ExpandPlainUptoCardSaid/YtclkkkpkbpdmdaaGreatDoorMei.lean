/- Texts joined by a program (merge.py). -/
import Derived.Test.YtclkkkpkbpdmdaaGreatDoorMeg
import Derived.Test.YtclkkkpkbpdmdaaGreatDoorMee
import Derived.Test.YtclkkkpkbpdmdaaGreatDoorMeh
import Derived.Test.YtclkkkpkbpdmdaaGreatDoorMec
import Derived.KernelRfl
import Derived.Test.YtclkkkpkbpdmdaaGreatDoorMeb
import Derived.ProofKit
import Derived.SliceStrings
import Derived.Test.YtclkkkpkbpdmdaaGreatDoorRows
set_option linter.unusedSimpArgs false
set_option linter.unusedVariables false
namespace Go.CE
variable {P : Program}
theorem awake_to {call : CallT} (hcall : CallOk P call) {f : FuncId} (hent : Eng.Enterable P f) {n0 : ID} (h : okB (call (.f f) [] h0 n0) = true) : Eng.CallTo P f [] [] [] (.av (.val (.bool true))) [] [] := by
  obtain ⟨H', n', hr⟩ : ∃ H' n', call (.f f) [] h0 n0 = .ok (.b true) H' n' := by
    cases hc : call (.f f) [] h0 n0 with
    | no => rw [hc] at h; cases h
    | ok v H' n' =>
      rw [hc] at h
      cases v with
      | b x =>
        have hx : x = true := h
        subst hx
        exact ⟨H', n', rfl⟩
      | _ => cases h
  refine ⟨hent, fun G w vs hw hargs _ _ => ?_⟩
  have hvs : vs = [] := by simpa only [Eng.RepSs] using hargs
  subst hvs
  have hcd := (hcall.f f [] h0 n0 _ H' n' hr (fun _ => none) w [] (by simp [VRs]) ⟨fun i hi => absurd (hget_h0 i) hi, fun i j _ _ hi => absurd (hget_h0 i) hi⟩ (fun i _ _ => rfl)).enters hent
  refine (callsIn_wide.1 hcd).mono ?_
  rintro e w' ⟨u, rfl, ρ', e1, e2, e3⟩
  have hout : ∀ b, b < w.heap.size → w'.heap[b]? = w.heap[b]? := fun b hb => e1.out b hb (fun i x hi => absurd (hget_h0 i) hi)
  simp only [VR] at e3
  subst e3
  have hkeep : ∀ κ, Eng.Keep G w G w' κ := fun κ => ⟨rfl, fun b hb => ⟨hout b (hw.lt κ b hb), rfl⟩⟩
  have himm : Eng.Imm G.U w w' := Eng.imm_of (fun b hb => hout b (by
    rcases Nat.lt_or_ge b w.heap.size with q | q
    · exact q
    · have := hw.zero b q; omega))
  exact ⟨.bool true, G, rfl, ⟨⟨fun _ => Nat.le_refl _, himm, e1.size, e1.os, Prod.ext e1.tape rfl, e1.output, fun _ _ => rfl, fun _ => Nat.le_refl _, fun κ _ _ => hkeep κ⟩, fun b hb _ => ⟨hout b hb, rfl⟩, fun κ b hb => .inl ⟨κ, hb⟩⟩,
    ⟨hw.inj, fun κ b hb => Nat.lt_of_lt_of_le (hw.lt κ b hb) e1.size, fun b hb => hw.zero b (Nat.le_trans e1.size hb)⟩, by simp only [Eng.RepS, Eng.Rep]; exact ⟨trivial, rfl⟩, fun p hp => by simp at hp, fun i _ => hkeep _, fun _ => rfl, fun _ => rfl⟩
end Go.CE
namespace Go.Proofs.YtclkkkpkbpdmdaaGreatDoor
open Go Go.CE
theorem lib_ok : ∀ f g, lib f = some g → LibOk Tryz.prog f g := by
  intro f g h
  unfold lib at h
  have key : ∀ (m : Nat) (x : LibF) (r : Option LibF), LibOk Tryz.prog m x → (r = some g → LibOk Tryz.prog f g) → bc (Nat.beq f m) (some x) r = some g → LibOk Tryz.prog f g := by
    intro m x r hx hr hb
    cases hm : Nat.beq f m with
    | true =>
      rw [hm] at hb
      rw [Nat.beq_eq] at hm
      cases hb
      rw [hm]; exact hx
    | false => rw [hm] at hb; exact hr hb
  exact (key _ _ _ stringOk (key _ _ _ checkOk (key _ _ _ countOk (key _ _ _ indexOk (fun h => by cases h))))) h
theorem mixed : Tryz.prog.follows .mixedOrders = true := by kernel_rfl
theorem awake_to : Eng.CallTo Tryz.prog 5 [] [] [] (.av (.val (.bool true))) [] [] :=
  CE.awake_to (callF_ok mixed lib_ok 60) ⟨_, Tryz.func5, by kernel_rfl, by kernel_rfl⟩ awake_runs
end Go.Proofs.YtclkkkpkbpdmdaaGreatDoor
namespace Go.Proofs.YtclkkkpkbpdmdaaGreatDoor
open Go Go.Eng
def expM (d : DDoc) : Bool := cond ((!smlD d)) (true) (cond (smlD d) (cond ((plnP d == plnR d)) (true) (false)) (false))
set_option maxRecDepth 100000 in
set_option maxHeartbeats 4000000 in
theorem expM_to (d : DDoc) (hd : wDoc d ≤ 1073741824) : CallTo Tryz.prog 3 [(.av (cDoc d))] [] [] (jB (expM d)) [] [] := by
  have hwd := wDoc_eq d
  refine BEG (fun r : Bool => (jB (r))) (expM d) Tryz.func3 (by kernel_rfl) ?_
  refine UF (expM.eq_1 ..) ?_
  refine GO (tn 2 z) (by kernel_rfl) ?_
  refine CS (fun h1 => ?_) (fun h1 => ?_)
  · have h1n := nott h1
    have d2 := (smlD_to d (by first | assumption | omega | decide | (simp; done) | (simp; omega)))
    have d3 := awake_to
    refine DR3 (tn 1 (ko (cO d2) (kp d2 (tn 3 (ko (.b true) (kp (show (!smlD d) = true from h1) (ko (cO d3) (kp d3 (tn 1 (ko (.b true) (kp h1 (tn 1 (ko (.b true) (kp (show true = true from (by simp [])) (ko (.b true) (kp (show true = true from (by simp [])) (ko (.b true) (kp (show true = true from (by simp [])) (ko (.b true) (kp (show true = true from (by simp [])) (ko (.b true) (kp (show true = true from (by simp [])) (ko (.b true) (kp (show true = true from (by simp [])) (ko (.b true) (kp (show true = true from (by simp [])) (tn 1 z))))))))))))))))))))))))))) (by kernel_rfl) (by kernel_rfl) (by kernel_rfl) ?_
    exact EN (by kernel_rfl)
  · have h1n := notf h1
    refine CS (fun h4 => ?_) (fun h4 => ?_)
    · refine CS (fun h5 => ?_) (fun h5 => ?_)
      · have d6 := (smlD_to d (by first | assumption | omega | decide | (simp; done) | (simp; omega)))
        have d7 := (smlD_to d (by first | assumption | omega | decide | (simp; done) | (simp; omega)))
        have d8 := (plnP_to d (by first | assumption | omega | decide | (simp; done) | (simp; omega)))
        have d9 := (plnR_to d (by first | assumption | omega | decide | (simp; done) | (simp; omega)))
        have d10 := awake_to
        refine DR3 (tn 1 (ko (cO d6) (kp d6 (tn 3 (ko (.b false) (kp (show (!smlD d) = false from h1) (ko (.b false) (kp h1 (tn 1 (ko (.b false) (kp (show false = false from rfl) (tn 1 (ko (.b false) (kp (show false = false from rfl) (ko (cO d7) (kp d7 (tn 1 (ko (.b false) (kp (show false = false from rfl) (tn 1 (ko (.b true) (kp (show smlD d = true from h4) (tn 1 (ko (.b true) (kp (show smlD d = true from h4) (ko (cO d8) (kp d8 (tn 1 (ko (.b true) (kp (show smlD d = true from h4) (tn 1 (ko (.b true) (kp (show smlD d = true from h4) (ko (cO d9) (kp d9 (tn 1 (ko (.b true) (kp (show smlD d = true from h4) (tn 1 (ko (.b false) (kp (show false = false from rfl) (ko (.b true) (kp h4 (ko (.b false) (kp (show false = false from rfl) (tn 1 (ko (.b true) (kp (show (plnP d == plnR d) = true from h5) (ko (cO d10) (kp d10 (tn 1 (ko (.b false) (kp (show false = false from rfl) (ko (.b true) (kp h5 (ko (.b false) (kp ff (tn 1 z)))))))))))))))))))))))))))))))))))))))))))))))))))))))))) (by kernel_rfl) (by kernel_rfl) (by kernel_rfl) ?_
        exact EN (by kernel_rfl)
      · have d11 := (smlD_to d (by first | assumption | omega | decide | (simp; done) | (simp; omega)))
        have d12 := (smlD_to d (by first | assumption | omega | decide | (simp; done) | (simp; omega)))
        have d13 := (plnP_to d (by first | assumption | omega | decide | (simp; done) | (simp; omega)))
        have d14 := (plnR_to d (by first | assumption | omega | decide | (simp; done) | (simp; omega)))
        refine DR3 (tn 1 (ko (cO d11) (kp d11 (tn 3 (ko (.b false) (kp (show (!smlD d) = false from h1) (ko (.b false) (kp h1 (tn 1 (ko (.b false) (kp (show false = false from rfl) (tn 1 (ko (.b false) (kp (show false = false from rfl) (ko (cO d12) (kp d12 (tn 1 (ko (.b false) (kp (show false = false from rfl) (tn 1 (ko (.b true) (kp (show smlD d = true from h4) (tn 1 (ko (.b true) (kp (show smlD d = true from h4) (ko (cO d13) (kp d13 (tn 1 (ko (.b true) (kp (show smlD d = true from h4) (tn 1 (ko (.b true) (kp (show smlD d = true from h4) (ko (cO d14) (kp d14 (tn 1 (ko (.b true) (kp (show smlD d = true from h4) (tn 1 (ko (.b false) (kp (show false = false from rfl) (ko (.b true) (kp h4 (ko (.b false) (kp (show false = false from rfl) (tn 1 (ko (.b false) (kp (show (plnP d == plnR d) = false from h5) (ko (.b false) (kp (show false = false from rfl) (ko (.b false) (kp h5 (ko (.b false) (kp ff (tn 1 z))))))))))))))))))))))))))))))))))))))))))))))))))))))) (by kernel_rfl) (by kernel_rfl) (by kernel_rfl) ?_
        exact EN (by kernel_rfl)
    · have d15 := (smlD_to d (by first | assumption | omega | decide | (simp; done) | (simp; omega)))
      have d16 := (smlD_to d (by first | assumption | omega | decide | (simp; done) | (simp; omega)))
      refine DR3 (tn 1 (ko (cO d15) (kp d15 (tn 3 (ko (.b false) (kp (show (!smlD d) = false from h1) (ko (.b false) (kp h1 (tn 1 (ko (.b false) (kp (show false = false from rfl) (tn 1 (ko (.b false) (kp (show false = false from rfl) (ko (cO d16) (kp d16 (tn 1 (ko (.b false) (kp (show false = false from rfl) (tn 1 (ko (.b false) (kp (show smlD d = false from h4) (ko (.b false) (kp (show smlD d = false from h4) (ko (.b false) (kp (show smlD d = false from h4) (ko (.b false) (kp (show smlD d = false from h4) (ko (.b false) (kp (show smlD d = false from h4) (ko (.b false) (kp (show false = false from rfl) (ko (.b false) (kp h4 (ko (.b false) (kp (show false = false from rfl) (tn 1 (ko (.b false) (kp (show false = false from rfl) (ko (.b false) (kp (show false = false from rfl) (ko (.b false) (kp ff (ko (.b false) (kp ff (tn 1 z)))))))))))))))))))))))))))))))))))))))))))))) (by kernel_rfl) (by kernel_rfl) (by kernel_rfl) ?_
      exact EN (by kernel_rfl)
end Go.Proofs.YtclkkkpkbpdmdaaGreatDoor
namespace Go.Proofs.YtclkkkpkbpdmdaaGreatDoor
open Go Go.Eng
theorem loop_all {α : Type} [Inhabited α] (f : α → AV) (l : List α) (bad : α → Bool) (k : Bool) (F : Nat → Nat → Bool) (hF : ∀ n i, F (n + 1) i = cond (decide ((((i : Nat) : Int) : Int) < ((lenM f l : Nat) : Int))) (cond (bad (el l i)) false (F n (i + 1))) k) :
    ∀ (n i : Nat), l.length - i < n → F n i = ((l.drop i).all (fun x => !bad x) && k)
  | 0, i, h => by omega
  | n + 1, i, h => by
    have hl := lenM_eq f l
    rw [hF]
    by_cases hi : i < l.length
    · rw [show decide ((((i : Nat) : Int) : Int) < ((lenM f l : Nat) : Int)) = true from decide_eq_true (by omega), cond_true, loop_all f l bad k F hF n _ (by omega), drop_el hi, List.all_cons]
      cases bad (el l i) <;> simp
    · rw [show decide ((((i : Nat) : Int) : Int) < ((lenM f l : Nat) : Int)) = false from decide_eq_false (by omega), cond_false, List.drop_eq_nil_of_le (by omega)]
      simp
def wn : ByteArray := ⟨#[119, 104, 101, 110]⟩
theorem getR_any (a : DAttr) (key : ByteArray) : ∀ (n i : Nat), a.fPairs.length - i < n → (getR_L0 a key n i).2 = (a.fPairs.drop i).any (fun p => eqs p.fKey key)
  | 0, i, h => by omega
  | n + 1, i, h => by
    have hl := lenM_eq aPair a.fPairs
    rw [getR_L0]
    by_cases hi : i < a.fPairs.length
    · rw [show decide ((((i : Nat) : Int) : Int) < ((lenM aPair a.fPairs : Nat) : Int)) = true from decide_eq_true (by omega), cond_true, drop_el hi, List.any_cons]
      cases h2 : eqs (el a.fPairs i).fKey key
      · rw [cond_false, getR_any a key n _ (by omega)]; rfl
      · rfl
    · rw [show decide ((((i : Nat) : Int) : Int) < ((lenM aPair a.fPairs : Nat) : Int)) = false from decide_eq_false (by omega), cond_false, List.drop_eq_nil_of_le (by omega)]
      rfl
def badI (x : DInline) : Bool := cond (x.fKind == 15) true (cond (x.fKind == 11) (x.fAttr.fPairs.any (fun p => eqs p.fKey wn)) false)
theorem plnI_L1_eq (d : DDoc) (v : Nat) (k0 : Nat → Bool) : plnI_L1 d v k0 ((el (ilsB d.fBlocks) v).fAttr.fPairs.length - 0 + 1) 0 = (!((el (ilsB d.fBlocks) v).fAttr.fPairs.any (fun p => eqs p.fKey wn)) && k0 (v + 1)) := by
  rw [loop_all aPair (el (ilsB d.fBlocks) v).fAttr.fPairs (fun p => eqs p.fKey wn) (k0 (v + 1)) (plnI_L1 d v k0) (fun n i => by rw [plnI_L1]; rfl) _ _ (by omega)]
  simp [List.all_eq_not_any_not]
theorem plnI_eq (d : DDoc) : plnI d = (ilsB d.fBlocks).all (fun x => !badI x) := by
  rw [plnI, loop_all aInline (ilsB d.fBlocks) badI true (plnI_L0 d) (fun n i => ?_) _ _ (by omega)]
  · simp
  · rw [plnI_L0, plnI_L1_eq, badI]
    cases (((el (ilsB d.fBlocks) i).fKind : Int) == 15) <;> cases (((el (ilsB d.fBlocks) i).fKind : Int) == 11) <;> cases ((el (ilsB d.fBlocks) i).fAttr.fPairs.any (fun p => eqs p.fKey wn)) <;> rfl
theorem plnR_L1_eq (d : DDoc) (v : Nat) (k0 : Nat → Bool) : plnR_L1 d v k0 (List.length (ilsB d.fBlocks) - 0 + 1) 0 = (ilsB d.fBlocks).all (fun x => !badI x) := by
  rw [loop_all aInline (ilsB d.fBlocks) badI true (plnR_L1 d v k0) (fun n i => ?_) _ _ (by omega)]
  · simp
  · rw [plnR_L1]
    have : (getR (el (ilsB d.fBlocks) i).fAttr ⟨#[119, 104, 101, 110]⟩).2 = (el (ilsB d.fBlocks) i).fAttr.fPairs.any (fun p => eqs p.fKey wn) := by
      rw [getR, getR_any _ _ _ _ (by omega)]; rfl
    rw [this]; rfl
theorem plnR_eq (d : DDoc) : plnR d = plnP d := by
  rw [plnR, plnP, plnI_eq, loop_all aBlock (lsB d.fBlocks) badB ((ilsB d.fBlocks).all (fun x => !badI x)) (plnR_L0 d) (fun n i => ?_) _ _ (by omega)]
  · simp
  · rw [plnR_L0, plnR_L1_eq]
    have : badB (el (lsB d.fBlocks) i) = (cond ((((el (lsB d.fBlocks) i).fKind : Int) == 13)) (cond (cond (eqs ((el (lsB d.fBlocks) i).fInfo) (⟨#[105, 102]⟩)) (true) (eqs ((el (lsB d.fBlocks) i).fInfo) (⟨#[109, 97, 99, 114, 111]⟩))) (true) (eqs ((el (lsB d.fBlocks) i).fInfo) (⟨#[105, 110, 99, 108, 117, 100, 101]⟩))) (false)) := by
      unfold badB
      cases (((el (lsB d.fBlocks) i).fKind : Int) == 13) <;> cases (eqs ((el (lsB d.fBlocks) i).fInfo) (⟨#[105, 102]⟩)) <;> cases (eqs ((el (lsB d.fBlocks) i).fInfo) (⟨#[109, 97, 99, 114, 111]⟩)) <;> rfl
    rw [this]
theorem expM_true (d : DDoc) : expM d = true := by
  unfold expM
  rw [plnR_eq]
  cases smlD d <;> simp
end Go.Proofs.YtclkkkpkbpdmdaaGreatDoor
namespace Go.Eng
open Go.ChangeShapes Go.WideShapes Go.ChangeAt Go.RowKit
/-- All that lies in memory stays. -/
def U0 (w : World) (b : Nat) : Nat := match w.heap[b]? with
  | some (.cells arr _ _) => arr.size
  | _ => 0
theorem wf0 (w : World) : Wf ⟨U0 w, fun _ => 0, fun _ => none, fun _ => 0, []⟩ w :=
  ⟨fun κ κ' b h => by simp at h, fun κ b h => by simp at h, fun b hb => by simp only [U0]; rw [Array.getElem?_eq_none hb]⟩
theorem law_calls {P : Program} {f : FuncId} {xs : List AV} (h : CallTo P f (xs.map .av) [] [] (jB true) [] []) {W : World} {vs : List Value} (hr : RepL (U0 W) W xs vs) :
    Calls P f vs.toArray W (fun e W' => e = .returned (.bool true) ∧ Below W.heap.size W W') := by
  refine (h.2 ⟨U0 W, fun _ => 0, fun _ => none, fun _ => 0, []⟩ W vs (wf0 W) (RepSs_av hr) (by simp) (by simp)).mono ?_
  rintro e w' ⟨v, G', rfl, s1, _, s3, _⟩
  simp only [jB, RepS, Rep] at s3
  rw [s3.1]
  exact ⟨rfl, s1.os, s1.toExt.tp, s1.output, s1.size, fun k hk => (s1.stay k hk (by simp)).1⟩
theorem cell_U0 {w : World} {b o : Nat} {v : Value} (h : w.cell? ⟨b, o, none⟩ = some v) : o < U0 w b := by
  unfold U0
  simp only [World.cell?] at h
  split at h
  · rename_i arr e fz hb
    rw [hb]
    simp only [Option.isSome_none, Bool.false_eq_true, if_false] at h
    rcases Nat.lt_or_ge o arr.size with h1 | h1
    · exact h1
    · simp [Array.getElem?_eq_none h1] at h
  · simp at h
end Go.Eng
namespace Go.Proofs.YtclkkkpkbpdmdaaGreatDoor
open Go Go.Eng Go.ChangeShapes Go.WideShapes Go.ChangeAt Go.RowKit
section
variable {H : Type} (enc : TypeId × Value → H) (P : Program) (w : World) (sp : Nat → Bool) (held : Bool)
/-- What is read of type t with so much fuel has such cells. -/
def Rd (n : Nat) (t : TypeId) {α : Type} (f : α → List AV) (wt : α → Nat) : Prop :=
  ∀ cs x, DataW.trod enc P w 0 sp held n t cs = some x → ∃ a : α, RepL (U0 w) w (f a) cs ∧ wt a ≤ Rows.uptoBulk x.1 ∧ ∀ v ∈ cs, v.oneCell' = true
variable {enc P w sp held}
theorem Rd_map {n : Nat} {t : TypeId} {α β : Type} {f : α → List AV} {wt : α → Nat} {f' : β → List AV} {wt' : β → Nat} (c : α → β) (h : Rd enc P w sp held n t f wt) (hf : ∀ a, f' (c a) = f a) (hw : ∀ a, wt' (c a) ≤ wt a) : Rd enc P w sp held n t f' wt' :=
  fun cs x hx => by
    obtain ⟨a, h1, h2, h3⟩ := h cs x hx
    exact ⟨c a, by rw [hf]; exact h1, Nat.le_trans (hw a) h2, h3⟩
theorem Rd_int {t : TypeId} (ht : P.underlying t = some (.int .i64)) (n : Nat) : Rd enc P w sp held n t (fun i : Int => [vI i]) w1 := fun cs x h => by
  obtain ⟨m, rfl, rfl, _⟩ := DataW.trod_int ht h
  exact ⟨m, by simp only [RepL, Rep]; exact ⟨_, _, rfl, ⟨rfl, rfl⟩, rfl⟩, by simp [w1, Rows.uptoBulk], by intro v hv; simp at hv; subst hv; rfl⟩
theorem Rd_bool {t : TypeId} (ht : P.underlying t = some .bool) (n : Nat) : Rd enc P w sp held n t (fun i : Bool => [vB i]) w1 := fun cs x h => by
  obtain ⟨m, rfl, rfl⟩ := DataW.trod_bool ht h
  exact ⟨m, by simp only [RepL, Rep]; exact ⟨_, _, rfl, ⟨rfl, rfl⟩, rfl⟩, by simp [w1, Rows.uptoBulk], by intro v hv; simp at hv; subst hv; rfl⟩
theorem Rd_str {t : TypeId} (ht : P.underlying t = some .string) (n : Nat) : Rd enc P w sp held n t (fun s : ByteArray => [vS s]) wStr := fun cs x h => by
  obtain ⟨s, rfl, rfl, _⟩ := DataW.trod_string ht h
  refine ⟨s, by simp only [RepL, Rep]; exact ⟨_, _, rfl, ⟨rfl, rfl⟩, rfl⟩, ?_, by intro v hv; simp at hv; subst hv; rfl⟩
  have e : s.data.toList.length = s.size := by rw [Array.length_toList]; rfl
  simp only [wStr, Rows.uptoBulk]; omega
theorem add_add (a : Addr) (i j : Nat) : (a.add i).add j = a.add (i + j) := by
  obtain ⟨b, o, s⟩ := a
  unfold Addr.add
  by_cases hi : i = 0
  · subst hi; simp
  · by_cases hj : j = 0
    · subst hj; simp [hi]
    · simp [hi, hj]; omega
theorem cells_get {a : Addr} {n : Nat} {cs : List Value} (h : w.cells? 0 a n = some cs) : cs.length = n ∧ ∀ j, j < n → w.cell? (a.add j) = cs[j]? := by
  unfold World.cells? at h
  rw [if_pos (Nat.zero_le _)] at h
  exact ⟨by simpa using mapM_some_length h, fun j hj => mapM_some_get h j j (by simp [hj])⟩
/-- How an element's cells make one value. -/
def One (sz : Nat) {α : Type} (f : α → List AV) (g : α → AV) : Prop :=
  ∀ (U : Nat → Nat) (w : World) (a : α) (us : List Value), RepL U w (f a) us → us.length = sz → (∀ v ∈ us, v.oneCell' = true) → ∃ u : Value, Rep U w (g a) u ∧ u.cells.toList = us
theorem One_agg {α : Type} {sz : Nat} (f : α → List AV) : One sz f (fun a => .agg (f a)) := fun U w a us h _ h1 => ⟨.agg us.toArray, by simp only [Rep]; exact ⟨_, rfl, by simpa using h, by simpa using h1⟩, by simp [Value.cells]⟩
theorem One_val {α : Type} (g : α → AV) (v : α → Value) (hg : ∀ a, g a = .val (v a)) (hc : ∀ a, (v a).cells = #[v a]) : One 1 (fun a => [g a]) g := fun U w a us h _ h1 => by
  simp only [RepL] at h
  obtain ⟨u, us', rfl, h2, rfl⟩ := h
  refine ⟨u, h2, ?_⟩
  rw [hg] at h2; simp only [Rep] at h2
  rw [h2.1, hc]
theorem slice_go {e : TypeId} {n sz : Nat} {α : Type} {f : α → List AV} {g : α → AV} {wt : α → Nat} (hc : P.cellsOf e = sz) (hR : Rd enc P w sp held n e f wt) (hO : One sz f g) (a : Addr) :
    ∀ (elems : List (DataW H × List MemPlace)) (i0 : Nat), (∀ i, i < elems.length → (w.cells? 0 (a.add ((i0 + i) * sz)) sz).bind (DataW.trod enc P w 0 sp held n e) = elems[i]?) →
      ∃ (l : List α) (es : List Value), RepL (U0 w) w (l.map g) es ∧ l.length = elems.length ∧ (∀ v ∈ es, v.cells.size = sz) ∧ wl wt l ≤ Rows.uptoBulkAll (elems.map (·.1)) ∧
        ∀ j v, (vcells es)[j]? = some v → w.cell? (a.add (i0 * sz + j)) = some v ∧ v.oneCell' = true
  | [], i0, _ => ⟨[], [], by simp [RepL], rfl, by simp, by simp [wl, Rows.uptoBulkAll], by simp [vcells]⟩
  | x :: elems, i0, h => by
    have h0 := h 0 (by simp)
    simp only [Nat.add_zero, List.getElem?_cons_zero, Option.bind_eq_some_iff] at h0
    obtain ⟨cs, hcs, hx⟩ := h0
    obtain ⟨hl, hget⟩ := cells_get hcs
    obtain ⟨y, r1, r2, r3⟩ := hR cs x hx
    obtain ⟨u, u1, u2⟩ := hO _ _ y cs r1 hl r3
    obtain ⟨l, es, k1, k2, k3, k4, k5⟩ := slice_go hc hR hO a elems (i0 + 1) (fun i hi => by
      have := h (i + 1) (by simpa using hi)
      rw [show i0 + 1 + i = i0 + (i + 1) by omega]; simpa using this)
    have hsz : u.cells.size = sz := by rw [← Array.length_toList, u2, hl]
    refine ⟨y :: l, u :: es, by simp only [List.map_cons, RepL]; exact ⟨_, _, rfl, u1, k1⟩, by simp [k2], ?_, by simp only [List.map_cons, wl, Rows.uptoBulkAll]; omega, fun j v hj => ?_⟩
    · intro v hv; simp only [List.mem_cons] at hv
      rcases hv with rfl | hv
      · exact hsz
      · exact k3 v hv
    · simp only [vcells, List.flatMap_cons, u2] at hj
      by_cases hjl : j < sz
      · rw [List.getElem?_append_left (by omega)] at hj
        have := hget j hjl
        rw [add_add] at this
        exact ⟨by rw [this, hj], r3 v (List.mem_of_getElem? hj)⟩
      · rw [List.getElem?_append_right (by omega), hl] at hj
        have := k5 (j - sz) v hj
        rw [show (i0 + 1) * sz + (j - sz) = i0 * sz + j by rw [Nat.add_mul]; omega] at this
        exact this
theorem Rd_slice {t e : TypeId} {n sz : Nat} {α : Type} {f : α → List AV} {g : α → AV} {wt : α → Nat} (ht : P.underlying t = some (.slice e)) (hc : P.cellsOf e = sz) (hz : 0 < sz) (hO : One sz f g) (hR : ∀ m, n = m + 1 → Rd enc P w sp held m e f wt) :
    Rd enc P w sp held n t (fun l : List α => [.sl (l.map g)]) (wl wt) := fun cs x h => by
  rcases DataW.trod_slice ht h with ⟨rfl, rfl⟩ | ⟨a, len, cap, elems, rest, m, rfl, rfl, rfl, hb, hl, hm, hlen, hel, _, _⟩
  · exact ⟨[], by simp only [List.map_nil, RepL]; exact ⟨_, _, rfl, Rep_nil _ _, rfl⟩, by simp [wl, Rows.uptoBulk], by intro v hv; simp at hv; subst hv; rfl⟩
  · obtain ⟨l, es, k1, k2, k3, k4, k5⟩ := slice_go hc (hR m rfl) hO a elems 0 (fun i hi => by rw [Nat.zero_add]; have := hel i (by omega); rw [hc] at this; exact this)
    refine ⟨l, ?_, by simp only [Rows.uptoBulk]; omega, by intro v hv; simp at hv; subst hv; rfl⟩
    simp only [RepL]
    refine ⟨_, _, rfl, ?_, rfl⟩
    simp only [Rep]
    have hll : (l.map g).length = len := by simp; omega
    have hes : es.length = len := by have := k1.length; omega
    have hfirst : vcells es ≠ [] → a.spot = none := by
      intro hne
      obtain ⟨v, r, hv⟩ := List.exists_cons_of_ne_nil hne
      have := (k5 0 v (by rw [hv]; rfl)).1
      simp only [Nat.zero_mul, Nat.zero_add, Addr.add, if_true, World.cell?] at this
      split at this
      · cases hs : a.spot with
        | none => rfl
        | some s => rw [hs] at this; simp at this
      · simp at this
    refine ⟨some a, cap, es, sz, by rw [hll], k1, k3, by simp, by rw [hll]; exact hl, ?_, ?_⟩
    · rintro hne ad ⟨⟩
      have hsz : sz ≠ 0 := by omega
      refine hfirst (fun q => ?_)
      have hz := vcells_length es k3
      rw [q] at hz
      simp only [List.length_nil] at hz
      have : es.length = 0 := by
        rcases Nat.mul_eq_zero.1 hz.symm with h | h
        · exact h
        · exact absurd h hsz
      apply hne
      have : l.length = 0 := by omega
      simp [List.eq_nil_of_length_eq_zero this]
    · by_cases hne : vcells es = []
      · exact .inl hne
      · right
        have hs := hfirst hne
        obtain ⟨b, off, s⟩ := a
        simp only at hs; subst hs
        refine ⟨b, off, rfl, ?_, fun j v hj => ?_⟩
        · have hlen : 0 < (vcells es).length := List.length_pos_iff.2 hne
          have hv := List.getElem?_eq_getElem (l := vcells es) (i := (vcells es).length - 1) (by omega)
          have := (k5 _ _ hv).1
          rw [Nat.zero_mul, Nat.zero_add, addr_add] at this
          have := cell_U0 this
          omega
        · have := k5 j v hj
          rw [Nat.zero_mul, Nat.zero_add, addr_add] at this
          exact this
/-- The fields from a place on. -/
def RdF (enc : TypeId × Value → H) (P : Program) (w : World) (sp : Nat → Bool) (held : Bool) (n : Nat) (fs : List Field) (o tot : Nat) {α : Type} (f : α → List AV) (wt : α → Nat) : Prop :=
  ∀ (cs : List Value) (xs : List (DataW H × List MemPlace)), cs.length = tot → xs.length = fs.length → (∀ (i : Nat) (fd : Field), fs[i]? = some fd → DataW.trod enc P w 0 sp held n fd.type ((cs.drop fd.offset).take (P.cellsOf fd.type)) = xs[i]?) →
    ∃ a : α, RepL (U0 w) w (f a) (cs.drop o) ∧ wt a ≤ Rows.uptoBulkAll (xs.map (·.1)) ∧ ∀ v ∈ cs.drop o, v.oneCell' = true
theorem RdF_nil {n o : Nat} : RdF enc P w sp held n [] o o (fun _ : Unit => []) (fun _ => 0) := fun cs xs h _ _ => by
  have : cs.drop o = [] := List.drop_eq_nil_of_le (by omega)
  exact ⟨(), by rw [this]; simp [RepL], Nat.zero_le _, by rw [this]; simp⟩
theorem RdF_cons {n o k tot : Nat} {fd : Field} {fs : List Field} {α β : Type} {f : α → List AV} {wt : α → Nat} {g : β → List AV} {wg : β → Nat} (ho : fd.offset = o) (hk : P.cellsOf fd.type = k) (h0 : Rd enc P w sp held n fd.type f wt) (h : RdF enc P w sp held n fs (o + k) tot g wg) :
    RdF enc P w sp held n (fd :: fs) o tot (fun a : α × β => f a.1 ++ g a.2) (fun a => wt a.1 + wg a.2) := fun cs xs hl hx hf => by
  cases xs with
  | nil => simp at hx
  | cons x xs =>
    have e0 := hf 0 fd rfl
    rw [ho, hk] at e0
    obtain ⟨a, a1, a2, a3⟩ := h0 _ x e0
    obtain ⟨b, b1, b2, b3⟩ := h cs xs hl (by simpa using hx) (fun i fd' hi => by simpa using hf (i + 1) fd' (by simpa using hi))
    have hd : cs.drop o = (cs.drop o).take k ++ cs.drop (o + k) := by rw [← List.drop_drop, List.take_append_drop]
    refine ⟨(a, b), by rw [hd]; exact a1.append b1, by simp only [List.map_cons, Rows.uptoBulkAll]; omega, fun v hv => ?_⟩
    rw [hd, List.mem_append] at hv
    rcases hv with hv | hv
    · exact a3 v hv
    · exact b3 v hv
theorem Rd_struct {t : TypeId} {fs : Array Field} {n tot : Nat} {α : Type} {f : α → List AV} {wt : α → Nat} (ht : P.underlying t = some (.struct fs)) (hc : P.cellsOf t = tot) (h : ∀ m, n = m + 1 → RdF enc P w sp held m fs.toList 0 tot f wt) : Rd enc P w sp held n t f (fun a => 1 + wt a) := fun cs x hx => by
  obtain ⟨xs, m, rfl, rfl, hl, hlen, hf⟩ := DataW.trod_struct ht hx
  obtain ⟨a, a1, a2, a3⟩ := h m rfl cs xs (by omega) (by simpa using hlen) (fun i fd hi => hf i fd (by simpa using hi))
  exact ⟨a, by simpa using a1, by simp only [Rows.uptoBulk]; omega, by simpa using a3⟩
end
end Go.Proofs.YtclkkkpkbpdmdaaGreatDoor
namespace Go.Proofs.YtclkkkpkbpdmdaaGreatDoor
open Go Go.Eng
open Go.ChangeShapes Go.WideShapes Go.ChangeAt Go.RowKit
theorem One_aPair : One 2 (fun x : DPair => [(vS ((x).fKey)), (vS ((x).fValue))]) aPair := fun U w a us h1 h2 h3 => by rw [aPair_eq]; exact One_agg (fun x : DPair => [(vS ((x).fKey)), (vS ((x).fValue))]) U w a us h1 h2 h3
theorem Rd_aPair {H : Type} {enc : TypeId × Value → H} {w : World} {sp : Nat → Bool} {held : Bool} (n : Nat) : Rd enc Tryz.prog w sp held n 29 (fun x : DPair => [(vS ((x).fKey)), (vS ((x).fValue))]) wPair := by
  have h := Rd_struct (n := n) (enc := enc) (P := Tryz.prog) (w := w) (sp := sp) (held := held) (tot := 2) Tryz.underlying29 (by kernel_rfl) (fun m hm => (RdF_cons (k := 1) rfl (by kernel_rfl) (Rd_str Tryz.underlying9 m) (RdF_cons (k := 1) rfl (by kernel_rfl) (Rd_str Tryz.underlying9 m) RdF_nil)))
  exact Rd_map (fun a => DPair.mk a.1 a.2.1) h (fun _ => rfl) (fun a => by simp only [wPair_eq, w1]; omega)
theorem Rd_aAttr {H : Type} {enc : TypeId × Value → H} {w : World} {sp : Nat → Bool} {held : Bool} (n : Nat) : Rd enc Tryz.prog w sp held n 40 (fun x : DAttr => [(vS ((x).fID)), (.sl (((x).fClasses).map strAV)), (.sl (((x).fPairs).map aPair))]) wAttr := by
  have h := Rd_struct (n := n) (enc := enc) (P := Tryz.prog) (w := w) (sp := sp) (held := held) (tot := 3) Tryz.underlying40 (by kernel_rfl) (fun m hm => (RdF_cons (k := 1) rfl (by kernel_rfl) (Rd_str Tryz.underlying9 m) (RdF_cons (k := 1) rfl (by kernel_rfl) (Rd_slice (t := 38) (e := 9) (sz := 1) (g := strAV) (wt := wStr) Tryz.underlying38 (by kernel_rfl) (by decide) (One_val strAV Value.string (fun _ => rfl) (fun _ => rfl)) (fun q hq => (Rd_str Tryz.underlying9 q))) (RdF_cons (k := 1) rfl (by kernel_rfl) (Rd_slice (t := 22) (e := 29) (sz := 2) (g := aPair) (wt := wPair) Tryz.underlying22 (by kernel_rfl) (by decide) One_aPair (fun q hq => (Rd_aPair q))) RdF_nil))))
  exact Rd_map (fun a => DAttr.mk a.1 a.2.1 a.2.2.1) h (fun _ => rfl) (fun a => by simp only [wAttr_eq, w1]; omega)
theorem One_aCited : One 4 (fun x : DCited => [(vS ((x).fKey)), (vS ((x).fPrefix)), (vS ((x).fSuffix)), (vB ((x).fBare))]) aCited := fun U w a us h1 h2 h3 => by rw [aCited_eq]; exact One_agg (fun x : DCited => [(vS ((x).fKey)), (vS ((x).fPrefix)), (vS ((x).fSuffix)), (vB ((x).fBare))]) U w a us h1 h2 h3
theorem Rd_aCited {H : Type} {enc : TypeId × Value → H} {w : World} {sp : Nat → Bool} {held : Bool} (n : Nat) : Rd enc Tryz.prog w sp held n 67 (fun x : DCited => [(vS ((x).fKey)), (vS ((x).fPrefix)), (vS ((x).fSuffix)), (vB ((x).fBare))]) wCited := by
  have h := Rd_struct (n := n) (enc := enc) (P := Tryz.prog) (w := w) (sp := sp) (held := held) (tot := 4) Tryz.underlying67 (by kernel_rfl) (fun m hm => (RdF_cons (k := 1) rfl (by kernel_rfl) (Rd_str Tryz.underlying9 m) (RdF_cons (k := 1) rfl (by kernel_rfl) (Rd_str Tryz.underlying9 m) (RdF_cons (k := 1) rfl (by kernel_rfl) (Rd_str Tryz.underlying9 m) (RdF_cons (k := 1) rfl (by kernel_rfl) (Rd_bool Tryz.underlying4 m) RdF_nil)))))
  exact Rd_map (fun a => DCited.mk a.1 a.2.1 a.2.2.1 a.2.2.2.1) h (fun _ => rfl) (fun a => by simp only [wCited_eq, w1]; omega)
theorem One_aInline : One 10 (fun x : DInline => [(vI ((x).fKind)), (vS ((x).fText)), (vS ((x).fDest)), (vS ((x).fTitle)), (vS (((x).fAttr).fID)), (.sl ((((x).fAttr).fClasses).map strAV)), (.sl ((((x).fAttr).fPairs).map aPair)), (.sl (((x).fArgs).map strAV)), (.sl (((x).fCites).map aCited)), (.sl (((x).fKids).map aInline))]) aInline := fun U w a us h1 h2 h3 => by rw [aInline_eq]; exact One_agg (fun x : DInline => [(vI ((x).fKind)), (vS ((x).fText)), (vS ((x).fDest)), (vS ((x).fTitle)), (vS (((x).fAttr).fID)), (.sl ((((x).fAttr).fClasses).map strAV)), (.sl ((((x).fAttr).fPairs).map aPair)), (.sl (((x).fArgs).map strAV)), (.sl (((x).fCites).map aCited)), (.sl (((x).fKids).map aInline))]) U w a us h1 h2 h3
theorem Rd_aInline {H : Type} {enc : TypeId × Value → H} {w : World} {sp : Nat → Bool} {held : Bool} : ∀ n : Nat, Rd enc Tryz.prog w sp held n 50 (fun x : DInline => [(vI ((x).fKind)), (vS ((x).fText)), (vS ((x).fDest)), (vS ((x).fTitle)), (vS (((x).fAttr).fID)), (.sl ((((x).fAttr).fClasses).map strAV)), (.sl ((((x).fAttr).fPairs).map aPair)), (.sl (((x).fArgs).map strAV)), (.sl (((x).fCites).map aCited)), (.sl (((x).fKids).map aInline))]) wInline := fun n => Nat.strongRecOn n (fun n ih => by
  have h := Rd_struct (n := n) (enc := enc) (P := Tryz.prog) (w := w) (sp := sp) (held := held) (tot := 10) Tryz.underlying50 (by kernel_rfl) (fun m hm => (RdF_cons (k := 1) rfl (by kernel_rfl) (Rd_int Tryz.underlying3 m) (RdF_cons (k := 1) rfl (by kernel_rfl) (Rd_str Tryz.underlying9 m) (RdF_cons (k := 1) rfl (by kernel_rfl) (Rd_str Tryz.underlying9 m) (RdF_cons (k := 1) rfl (by kernel_rfl) (Rd_str Tryz.underlying9 m) (RdF_cons (k := 3) rfl (by kernel_rfl) (Rd_aAttr m) (RdF_cons (k := 1) rfl (by kernel_rfl) (Rd_slice (t := 38) (e := 9) (sz := 1) (g := strAV) (wt := wStr) Tryz.underlying38 (by kernel_rfl) (by decide) (One_val strAV Value.string (fun _ => rfl) (fun _ => rfl)) (fun q hq => (Rd_str Tryz.underlying9 q))) (RdF_cons (k := 1) rfl (by kernel_rfl) (Rd_slice (t := 48) (e := 67) (sz := 4) (g := aCited) (wt := wCited) Tryz.underlying48 (by kernel_rfl) (by decide) One_aCited (fun q hq => (Rd_aCited q))) (RdF_cons (k := 1) rfl (by kernel_rfl) (Rd_slice (t := 41) (e := 50) (sz := 10) (g := aInline) (wt := wInline) Tryz.underlying41 (by kernel_rfl) (by decide) One_aInline (fun q hq => (ih q (by omega)))) RdF_nil)))))))))
  exact Rd_map (fun a => DInline.mk a.1 a.2.1 a.2.2.1 a.2.2.2.1 a.2.2.2.2.1 a.2.2.2.2.2.1 a.2.2.2.2.2.2.1 a.2.2.2.2.2.2.2.1) h (fun _ => rfl) (fun a => by simp only [wInline_eq, w1]; omega))
theorem One_aBlock : One 11 (fun x : DBlock => [(vI ((x).fKind)), (vI ((x).fLevel)), (vS ((x).fInfo)), (vS ((x).fText)), (vS ((x).fDest)), (vS ((x).fTitle)), (vS (((x).fAttr).fID)), (.sl ((((x).fAttr).fClasses).map strAV)), (.sl ((((x).fAttr).fPairs).map aPair)), (.sl (((x).fLine).map aInline)), (.sl (((x).fKids).map aBlock))]) aBlock := fun U w a us h1 h2 h3 => by rw [aBlock_eq]; exact One_agg (fun x : DBlock => [(vI ((x).fKind)), (vI ((x).fLevel)), (vS ((x).fInfo)), (vS ((x).fText)), (vS ((x).fDest)), (vS ((x).fTitle)), (vS (((x).fAttr).fID)), (.sl ((((x).fAttr).fClasses).map strAV)), (.sl ((((x).fAttr).fPairs).map aPair)), (.sl (((x).fLine).map aInline)), (.sl (((x).fKids).map aBlock))]) U w a us h1 h2 h3
theorem Rd_aBlock {H : Type} {enc : TypeId × Value → H} {w : World} {sp : Nat → Bool} {held : Bool} : ∀ n : Nat, Rd enc Tryz.prog w sp held n 43 (fun x : DBlock => [(vI ((x).fKind)), (vI ((x).fLevel)), (vS ((x).fInfo)), (vS ((x).fText)), (vS ((x).fDest)), (vS ((x).fTitle)), (vS (((x).fAttr).fID)), (.sl ((((x).fAttr).fClasses).map strAV)), (.sl ((((x).fAttr).fPairs).map aPair)), (.sl (((x).fLine).map aInline)), (.sl (((x).fKids).map aBlock))]) wBlock := fun n => Nat.strongRecOn n (fun n ih => by
  have h := Rd_struct (n := n) (enc := enc) (P := Tryz.prog) (w := w) (sp := sp) (held := held) (tot := 11) Tryz.underlying43 (by kernel_rfl) (fun m hm => (RdF_cons (k := 1) rfl (by kernel_rfl) (Rd_int Tryz.underlying3 m) (RdF_cons (k := 1) rfl (by kernel_rfl) (Rd_int Tryz.underlying3 m) (RdF_cons (k := 1) rfl (by kernel_rfl) (Rd_str Tryz.underlying9 m) (RdF_cons (k := 1) rfl (by kernel_rfl) (Rd_str Tryz.underlying9 m) (RdF_cons (k := 1) rfl (by kernel_rfl) (Rd_str Tryz.underlying9 m) (RdF_cons (k := 1) rfl (by kernel_rfl) (Rd_str Tryz.underlying9 m) (RdF_cons (k := 3) rfl (by kernel_rfl) (Rd_aAttr m) (RdF_cons (k := 1) rfl (by kernel_rfl) (Rd_slice (t := 41) (e := 50) (sz := 10) (g := aInline) (wt := wInline) Tryz.underlying41 (by kernel_rfl) (by decide) One_aInline (fun q hq => (Rd_aInline q))) (RdF_cons (k := 1) rfl (by kernel_rfl) (Rd_slice (t := 23) (e := 43) (sz := 11) (g := aBlock) (wt := wBlock) Tryz.underlying23 (by kernel_rfl) (by decide) One_aBlock (fun q hq => (ih q (by omega)))) RdF_nil))))))))))
  exact Rd_map (fun a => DBlock.mk a.1 a.2.1 a.2.2.1 a.2.2.2.1 a.2.2.2.2.1 a.2.2.2.2.2.1 a.2.2.2.2.2.2.1 a.2.2.2.2.2.2.2.1 a.2.2.2.2.2.2.2.2.1) h (fun _ => rfl) (fun a => by simp only [wBlock_eq, w1]; omega))
theorem Rd_aDoc {H : Type} {enc : TypeId × Value → H} {w : World} {sp : Nat → Bool} {held : Bool} (n : Nat) : Rd enc Tryz.prog w sp held n 25 (fun x : DDoc => [(.sl (((x).fMeta).map aPair)), (.sl (((x).fBlocks).map aBlock))]) wDoc := by
  have h := Rd_struct (n := n) (enc := enc) (P := Tryz.prog) (w := w) (sp := sp) (held := held) (tot := 2) Tryz.underlying25 (by kernel_rfl) (fun m hm => (RdF_cons (k := 1) rfl (by kernel_rfl) (Rd_slice (t := 22) (e := 29) (sz := 2) (g := aPair) (wt := wPair) Tryz.underlying22 (by kernel_rfl) (by decide) One_aPair (fun q hq => (Rd_aPair q))) (RdF_cons (k := 1) rfl (by kernel_rfl) (Rd_slice (t := 23) (e := 43) (sz := 11) (g := aBlock) (wt := wBlock) Tryz.underlying23 (by kernel_rfl) (by decide) One_aBlock (fun q hq => (Rd_aBlock q))) RdF_nil)))
  exact Rd_map (fun a => DDoc.mk a.1 a.2.1) h (fun _ => rfl) (fun a => by simp only [wDoc_eq, w1]; omega)
end Go.Proofs.YtclkkkpkbpdmdaaGreatDoor
