/- Texts joined by a program (merge.py). -/
import Derived.Test.YtbihjejjekeoiaaGreatDoorMnf
import Derived.Test.YtbihjejjekeoiaaGreatDoorMnd
import Derived.Test.YtbihjejjekeoiaaGreatDoorMng
import Derived.Test.YtbihjejjekeoiaaGreatDoorMnc
import Derived.KernelRfl
import Derived.Test.YtbihjejjekeoiaaGreatDoorMnb
import Derived.ProofKit
import Derived.SliceStrings
import Derived.Test.YtbihjejjekeoiaaGreatDoorRows
set_option linter.unusedSimpArgs false
set_option linter.unusedVariables false
namespace Go.CE
variable {P : Program}
theorem awake_to {call : CallT} (hcall : CallOk P call) {f : FuncId} (hent : Eng.Enterable P f) {n0 : ID} (h : okB (call (.f f) [] h0 n0) = true) : Eng.CallTo P f [] [] [] (.av (.val (.bool true))) [] [] := by
  obtain ⟨H', n', hr⟩ : ∃ H' n', call (.f f) [] h0 n0 = .ok (.b true) H' n' := by
    cases hc : call (.f f) [] h0 n0 with
    | no => rw [hc] at h; cases h
    | ok v H' n' =>
      rw [hc] at h
      cases v with
      | b x =>
        have hx : x = true := h
        subst hx
        exact ⟨H', n', rfl⟩
      | _ => cases h
  refine ⟨hent, fun G w vs hw hargs _ _ => ?_⟩
  have hvs : vs = [] := by simpa only [Eng.RepSs] using hargs
  subst hvs
  have hcd := (hcall.f f [] h0 n0 _ H' n' hr (fun _ => none) w [] (by simp [VRs]) ⟨fun i hi => absurd (hget_h0 i) hi, fun i j _ _ hi => absurd (hget_h0 i) hi⟩ (fun i _ _ => rfl)).enters hent
  refine (callsIn_wide.1 hcd).mono ?_
  rintro e w' ⟨u, rfl, ρ', e1, e2, e3⟩
  have hout : ∀ b, b < w.heap.size → w'.heap[b]? = w.heap[b]? := fun b hb => e1.out b hb (fun i x hi => absurd (hget_h0 i) hi)
  simp only [VR] at e3
  subst e3
  have hkeep : ∀ κ, Eng.Keep G w G w' κ := fun κ => ⟨rfl, fun b hb => ⟨hout b (hw.lt κ b hb), rfl⟩⟩
  have himm : Eng.Imm G.U w w' := Eng.imm_of (fun b hb => hout b (by
    rcases Nat.lt_or_ge b w.heap.size with q | q
    · exact q
    · have := hw.zero b q; omega))
  exact ⟨.bool true, G, rfl, ⟨⟨fun _ => Nat.le_refl _, himm, e1.size, e1.os, e1.tape, e1.output, fun _ _ => rfl, fun _ => Nat.le_refl _, fun κ _ _ => hkeep κ⟩, fun b hb _ => ⟨hout b hb, rfl⟩, fun κ b hb => .inl ⟨κ, hb⟩⟩,
    ⟨hw.inj, fun κ b hb => Nat.lt_of_lt_of_le (hw.lt κ b hb) e1.size, fun b hb => hw.zero b (Nat.le_trans e1.size hb)⟩, by simp only [Eng.RepS, Eng.Rep]; exact ⟨trivial, rfl⟩, fun p hp => by simp at hp, fun i _ => hkeep _, fun _ => rfl, fun _ => rfl⟩
end Go.CE
namespace Go.Proofs.YtbihjejjekeoiaaGreatDoor
open Go Go.CE
theorem lib_ok : ∀ f g, lib f = some g → LibOk Tryz.prog f g := by
  intro f g h
  unfold lib at h
  have key : ∀ (m : Nat) (x : LibF) (r : Option LibF), LibOk Tryz.prog m x → (r = some g → LibOk Tryz.prog f g) → bc (Nat.beq f m) (some x) r = some g → LibOk Tryz.prog f g := by
    intro m x r hx hr hb
    cases hm : Nat.beq f m with
    | true =>
      rw [hm] at hb
      rw [Nat.beq_eq] at hm
      cases hb
      rw [hm]; exact hx
    | false => rw [hm] at hb; exact hr hb
  exact key _ _ _ stringOk (key _ _ _ checkOk (key _ _ _ countOk (key _ _ _ indexOk (fun h => by cases h)))) h
theorem mixed : Tryz.prog.follows .mixedOrders = true := by kernel_rfl
theorem awake_to : Eng.CallTo Tryz.prog 6 [] [] [] (.av (.val (.bool true))) [] [] :=
  CE.awake_to (callF_ok mixed lib_ok 60) ⟨_, Tryz.func6, by kernel_rfl, by kernel_rfl⟩ awake_runs
end Go.Proofs.YtbihjejjekeoiaaGreatDoor
namespace Go.Proofs.YtbihjejjekeoiaaGreatDoor
open Go Go.Eng
theorem flat_le1 {α β : Type} (g : α → List β) (hg : ∀ x, (g x).length ≤ 1) : ∀ l : List α, (l.flatMap g).length ≤ l.length
  | [] => Nat.le_refl 0
  | x :: l => by
    have h1 := flat_le1 g hg l
    have h2 := hg x
    rw [List.flatMap_cons, List.length_append, List.length_cons]; omega
theorem namP_eq (d : DDoc) : namP d = (inclP d.fBlocks).flatMap (fun x => cond (getP x.fAttr (⟨#[102, 105, 108, 101]⟩)).2 [(getP x.fAttr (⟨#[102, 105, 108, 101]⟩)).1] []) := by
  have := loop_flat aBlock (inclP d.fBlocks) (fun x => cond (getP x.fAttr (⟨#[102, 105, 108, 101]⟩)).2 [(getP x.fAttr (⟨#[102, 105, 108, 101]⟩)).1] []) (namP_L0 d) (fun n acc i => by rw [namP_L0]; congr 1; cases (getP (el (inclP d.fBlocks) i).fAttr (⟨#[102, 105, 108, 101]⟩)).2 <;> simp) ((List.length (inclP d.fBlocks) - (0)) + 1) [] 0 (by omega)
  rw [namP, this]; simp
theorem namP_len (d : DDoc) (hd : wDoc d ≤ 1073741824) : (namP d).length ≤ 1073741824 := by
  have h1 := inclP_bd d.fBlocks (by have := wDoc_eq d; omega)
  have h2 := wl_len (w := wBlock) wBlock_pos (inclP d.fBlocks)
  have h3 := wDoc_eq d
  have h4 : (namP d).length ≤ (inclP d.fBlocks).length := by
    rw [namP_eq]
    refine flat_le1 _ (fun x => ?_) _
    cases (getP x.fAttr (⟨#[102, 105, 108, 101]⟩)).2 <;> exact Nat.le_of_ble_eq_true rfl
  omega
theorem namR_eq (d : DDoc) : namR d = (inclR d.fBlocks).flatMap (fun x => cond (pairR x.fAttr (⟨#[102, 105, 108, 101]⟩)).2 [(pairR x.fAttr (⟨#[102, 105, 108, 101]⟩)).1] []) := by
  have := loop_flat aBlock (inclR d.fBlocks) (fun x => cond (pairR x.fAttr (⟨#[102, 105, 108, 101]⟩)).2 [(pairR x.fAttr (⟨#[102, 105, 108, 101]⟩)).1] []) (namR_L0 d) (fun n acc i => by rw [namR_L0]; congr 1; cases (pairR (el (inclR d.fBlocks) i).fAttr (⟨#[102, 105, 108, 101]⟩)).2 <;> simp) ((List.length (inclR d.fBlocks) - (0)) + 1) [] 0 (by omega)
  rw [namR, this]; simp
theorem namR_len (d : DDoc) (hd : wDoc d ≤ 1073741824) : (namR d).length ≤ 1073741824 := by
  have h1 := inclR_bd d.fBlocks (by have := wDoc_eq d; omega)
  have h2 := wl_len (w := wBlock) wBlock_pos (inclR d.fBlocks)
  have h3 := wDoc_eq d
  have h4 : (namR d).length ≤ (inclR d.fBlocks).length := by
    rw [namR_eq]
    refine flat_le1 _ (fun x => ?_) _
    cases (pairR x.fAttr (⟨#[102, 105, 108, 101]⟩)).2 <;> exact Nat.le_of_ble_eq_true rfl
  omega
def inmM (d : DDoc) : Bool := cond ((!smlD d)) (true) (cond (txtB (namP d) (namR d)) (true) (false))
set_option maxRecDepth 100000 in
set_option maxHeartbeats 4000000 in
theorem inmM_to (d : DDoc) (hd : wDoc d ≤ 1073741824) : CallTo Tryz.prog 4 [(.av (cDoc d))] [] [] (jB (inmM d)) [] [] := by
  have hwd := wDoc_eq d
  refine BEG (fun r : Bool => (jB (r))) (inmM d) Tryz.func4 (by kernel_rfl) ?_
  refine UF (inmM.eq_1 ..) ?_
  refine GO (tn 3 (kc (smlD_to d (by first | assumption | omega | decide | (simp; done) | (simp; omega))) (tn 1 z))) (by kernel_rfl) ?_
  refine CS (fun h1 => ?_) (fun h1 => ?_)
  · have h1n := nott h1
    refine GO (kb h1 (kc awake_to (tn 1 z))) (by kernel_rfl) ?_
    exact EN (by kernel_rfl)
  · have h1n := notf h1
    refine GO (kb h1 z) (by kernel_rfl) ?_
    refine CS (fun h2 => ?_) (fun h2 => ?_)
    · have := namP_len d (by omega)
      have := namR_len d (by omega)
      have d3 := (namP_to d (by first | assumption | omega | decide | (simp; done) | (simp; omega)))
      have d4 := (namR_to d (by first | assumption | omega | decide | (simp; done) | (simp; omega)))
      have d5 := (txtB_to (namP d) (namR d) (by first | assumption | omega | decide | (simp; done) | (simp; omega)) (by first | assumption | omega | decide | (simp; done) | (simp; omega)))
      have d6 := awake_to
      refine DR3 (tn 1 (ko (cO d3) (kp d3 (tn 2 (ko (cO d4) (kp d4 (tn 1 (ko (cO d5) (kp d5 (tn 2 (ko (.b true) (kp (show txtB (namP d) (namR d) = true from h2) (ko (cO d6) (kp d6 (tn 1 (ko (.b true) (kp h2 (tn 1 z)))))))))))))))))) (by kernel_rfl) (by kernel_rfl) (by kernel_rfl) ?_
      exact EN (by kernel_rfl)
    · have := namP_len d (by omega)
      have := namR_len d (by omega)
      have d7 := (namP_to d (by first | assumption | omega | decide | (simp; done) | (simp; omega)))
      have d8 := (namR_to d (by first | assumption | omega | decide | (simp; done) | (simp; omega)))
      have d9 := (txtB_to (namP d) (namR d) (by first | assumption | omega | decide | (simp; done) | (simp; omega)) (by first | assumption | omega | decide | (simp; done) | (simp; omega)))
      refine DR3 (tn 1 (ko (cO d7) (kp d7 (tn 2 (ko (cO d8) (kp d8 (tn 1 (ko (cO d9) (kp d9 (tn 2 (ko (.b false) (kp (show txtB (namP d) (namR d) = false from h2) (ko (.b false) (kp h2 (tn 1 z))))))))))))))) (by kernel_rfl) (by kernel_rfl) (by kernel_rfl) ?_
      exact EN (by kernel_rfl)
end Go.Proofs.YtbihjejjekeoiaaGreatDoor
namespace Go.Proofs.YtbihjejjekeoiaaGreatDoor
open Go Go.Eng
theorem pairR_L0_eq (a : DAttr) (key : ByteArray) : ∀ (n i : Nat), pairR_L0 a key n i = getP_L0 a key n i
  | 0, _ => rfl
  | n + 1, i => by rw [pairR_L0, getP_L0, pairR_L0_eq a key n]
theorem pairR_eq (a : DAttr) (key : ByteArray) : pairR a key = getP a key := pairR_L0_eq a key _ _
theorem inclRg_eq {r q : List DBlock → List DBlock} (h : r = q) : inclRg r = inclPg q := by subst h; rfl
theorem inclRN_eq : ∀ (n : Nat), inclRN n = inclPN n
  | 0 => rfl
  | n + 1 => by
    funext l
    rw [inclRN, inclPN, inclRS_eq, inclPS_eq, inclRg_eq (inclRN_eq n)]
theorem inclR_eq (l : List DBlock) : inclR l = inclP l := by rw [inclR, inclP, inclRN_eq]
theorem namR_eq' (d : DDoc) : namR d = namP d := by
  rw [namR_eq, namP_eq, inclR_eq]
  simp only [pairR_eq]
theorem txtB_L0_same (a : List ByteArray) : ∀ (n i : Nat), a.length - i < n → txtB_L0 a a n i = true
  | 0, i, h => by omega
  | n + 1, i, h => by
    have hl := lenM_eq strAV a
    rw [txtB_L0]
    by_cases hi : i < a.length
    · have hd : decide ((((i : Nat) : Int) : Int) < ((lenM strAV a : Nat) : Int)) = true := decide_eq_true (by omega)
      rw [hd, cond_true, cond_true]
      have he : (!eqs (el a i) (el a i)) = false := by simp [eqs]
      rw [he, cond_false]
      exact txtB_L0_same a n (i + 1) (by omega)
    · have hd : decide ((((i : Nat) : Int) : Int) < ((lenM strAV a : Nat) : Int)) = false := decide_eq_false (by omega)
      rw [hd, cond_false, cond_false]
theorem txtB_same (a : List ByteArray) : txtB a a = true := by
  unfold txtB
  rw [show ((((lenM strAV a : Nat) : Int) : Int) != ((lenM strAV a : Nat) : Int)) = false by simp, cond_false]
  exact txtB_L0_same a _ _ (by omega)
theorem inmM_true (d : DDoc) : inmM d = true := by
  unfold inmM
  rw [namR_eq', txtB_same]
  cases (!smlD d) <;> rfl
end Go.Proofs.YtbihjejjekeoiaaGreatDoor
namespace Go.Eng
open Go.ChangeShapes Go.WideShapes Go.ChangeAt Go.RowKit
/-- All that lies in memory stays. -/
def U0 (w : World) (b : Nat) : Nat := match w.heap[b]? with
  | some (.cells arr _ _) => arr.size
  | _ => 0
theorem wf0 (w : World) : Wf ⟨U0 w, fun _ => 0, fun _ => none, fun _ => 0⟩ w :=
  ⟨fun κ κ' b h => by simp at h, fun κ b h => by simp at h, fun b hb => by simp only [U0]; rw [Array.getElem?_eq_none hb]⟩
theorem law_calls {P : Program} {f : FuncId} {xs : List AV} (h : CallTo P f (xs.map .av) [] [] (jB true) [] []) {W : World} {vs : List Value} (hr : RepL (U0 W) W xs vs) :
    Calls P f vs.toArray W (fun e W' => e = .returned (.bool true) ∧ Below W.heap.size W W') := by
  refine (h.2 ⟨U0 W, fun _ => 0, fun _ => none, fun _ => 0⟩ W vs (wf0 W) (RepSs_av hr) (by simp) (by simp)).mono ?_
  rintro e w' ⟨v, G', rfl, s1, _, s3, _⟩
  simp only [jB, RepS, Rep] at s3
  rw [s3.1]
  exact ⟨rfl, s1.os, s1.tape, s1.output, s1.size, fun k hk => (s1.stay k hk (by simp)).1⟩
theorem cell_U0 {w : World} {b o : Nat} {v : Value} (h : w.cell? ⟨b, o, none⟩ = some v) : o < U0 w b := by
  unfold U0
  simp only [World.cell?] at h
  split at h
  · rename_i arr e fz hb
    rw [hb]
    simp only [Option.isSome_none, Bool.false_eq_true, if_false] at h
    rcases Nat.lt_or_ge o arr.size with h1 | h1
    · exact h1
    · simp [Array.getElem?_eq_none h1] at h
  · simp at h
end Go.Eng
namespace Go.Proofs.YtbihjejjekeoiaaGreatDoor
open Go Go.Eng Go.ChangeShapes Go.WideShapes Go.ChangeAt Go.RowKit
section
variable {H : Type} (enc : TypeId × Value → H) (P : Program) (w : World) (sp : Nat → Bool) (held : Bool)
/-- What is read of type t with so much fuel has such cells. -/
def Rd (n : Nat) (t : TypeId) {α : Type} (f : α → List AV) (wt : α → Nat) : Prop :=
  ∀ cs x, DataW.trod enc P w 0 sp held n t cs = some x → ∃ a : α, RepL (U0 w) w (f a) cs ∧ wt a ≤ Rows.uptoBulk x.1 ∧ ∀ v ∈ cs, v.oneCell' = true
variable {enc P w sp held}
theorem Rd_map {n : Nat} {t : TypeId} {α β : Type} {f : α → List AV} {wt : α → Nat} {f' : β → List AV} {wt' : β → Nat} (c : α → β) (h : Rd enc P w sp held n t f wt) (hf : ∀ a, f' (c a) = f a) (hw : ∀ a, wt' (c a) ≤ wt a) : Rd enc P w sp held n t f' wt' :=
  fun cs x hx => by
    obtain ⟨a, h1, h2, h3⟩ := h cs x hx
    exact ⟨c a, by rw [hf]; exact h1, Nat.le_trans (hw a) h2, h3⟩
theorem Rd_int {t : TypeId} (ht : P.underlying t = some (.int .i64)) (n : Nat) : Rd enc P w sp held n t (fun i : Int => [vI i]) w1 := fun cs x h => by
  obtain ⟨m, rfl, rfl, _⟩ := DataW.trod_int ht h
  exact ⟨m, by simp only [RepL, Rep]; exact ⟨_, _, rfl, ⟨rfl, rfl⟩, rfl⟩, by simp [w1, Rows.uptoBulk], by intro v hv; simp at hv; subst hv; rfl⟩
theorem Rd_bool {t : TypeId} (ht : P.underlying t = some .bool) (n : Nat) : Rd enc P w sp held n t (fun i : Bool => [vB i]) w1 := fun cs x h => by
  obtain ⟨m, rfl, rfl⟩ := DataW.trod_bool ht h
  exact ⟨m, by simp only [RepL, Rep]; exact ⟨_, _, rfl, ⟨rfl, rfl⟩, rfl⟩, by simp [w1, Rows.uptoBulk], by intro v hv; simp at hv; subst hv; rfl⟩
theorem Rd_str {t : TypeId} (ht : P.underlying t = some .string) (n : Nat) : Rd enc P w sp held n t (fun s : ByteArray => [vS s]) wStr := fun cs x h => by
  obtain ⟨s, rfl, rfl, _⟩ := DataW.trod_string ht h
  refine ⟨s, by simp only [RepL, Rep]; exact ⟨_, _, rfl, ⟨rfl, rfl⟩, rfl⟩, ?_, by intro v hv; simp at hv; subst hv; rfl⟩
  have e : s.data.toList.length = s.size := by rw [Array.length_toList]; rfl
  simp only [wStr, Rows.uptoBulk]; omega
theorem add_add (a : Addr) (i j : Nat) : (a.add i).add j = a.add (i + j) := by
  obtain ⟨b, o, s⟩ := a
  unfold Addr.add
  by_cases hi : i = 0
  · subst hi; simp
  · by_cases hj : j = 0
    · subst hj; simp [hi]
    · simp [hi, hj]; omega
theorem cells_get {a : Addr} {n : Nat} {cs : List Value} (h : w.cells? 0 a n = some cs) : cs.length = n ∧ ∀ j, j < n → w.cell? (a.add j) = cs[j]? := by
  unfold World.cells? at h
  rw [if_pos (Nat.zero_le _)] at h
  exact ⟨by simpa using mapM_some_length h, fun j hj => mapM_some_get h j j (by simp [hj])⟩
/-- How an element's cells make one value. -/
def One (sz : Nat) {α : Type} (f : α → List AV) (g : α → AV) : Prop :=
  ∀ (U : Nat → Nat) (w : World) (a : α) (us : List Value), RepL U w (f a) us → us.length = sz → (∀ v ∈ us, v.oneCell' = true) → ∃ u : Value, Rep U w (g a) u ∧ u.cells.toList = us
theorem One_agg {α : Type} {sz : Nat} (f : α → List AV) : One sz f (fun a => .agg (f a)) := fun U w a us h _ h1 => ⟨.agg us.toArray, by simp only [Rep]; exact ⟨_, rfl, by simpa using h, by simpa using h1⟩, by simp [Value.cells]⟩
theorem One_val {α : Type} (g : α → AV) (v : α → Value) (hg : ∀ a, g a = .val (v a)) (hc : ∀ a, (v a).cells = #[v a]) : One 1 (fun a => [g a]) g := fun U w a us h _ h1 => by
  simp only [RepL] at h
  obtain ⟨u, us', rfl, h2, rfl⟩ := h
  refine ⟨u, h2, ?_⟩
  rw [hg] at h2; simp only [Rep] at h2
  rw [h2.1, hc]
theorem slice_go {e : TypeId} {n sz : Nat} {α : Type} {f : α → List AV} {g : α → AV} {wt : α → Nat} (hc : P.cellsOf e = sz) (hR : Rd enc P w sp held n e f wt) (hO : One sz f g) (a : Addr) :
    ∀ (elems : List (DataW H × List MemPlace)) (i0 : Nat), (∀ i, i < elems.length → (w.cells? 0 (a.add ((i0 + i) * sz)) sz).bind (DataW.trod enc P w 0 sp held n e) = elems[i]?) →
      ∃ (l : List α) (es : List Value), RepL (U0 w) w (l.map g) es ∧ l.length = elems.length ∧ (∀ v ∈ es, v.cells.size = sz) ∧ wl wt l ≤ Rows.uptoBulkAll (elems.map (·.1)) ∧
        ∀ j v, (vcells es)[j]? = some v → w.cell? (a.add (i0 * sz + j)) = some v ∧ v.oneCell' = true
  | [], i0, _ => ⟨[], [], by simp [RepL], rfl, by simp, by simp [wl, Rows.uptoBulkAll], by simp [vcells]⟩
  | x :: elems, i0, h => by
    have h0 := h 0 (by simp)
    simp only [Nat.add_zero, List.getElem?_cons_zero, Option.bind_eq_some_iff] at h0
    obtain ⟨cs, hcs, hx⟩ := h0
    obtain ⟨hl, hget⟩ := cells_get hcs
    obtain ⟨y, r1, r2, r3⟩ := hR cs x hx
    obtain ⟨u, u1, u2⟩ := hO _ _ y cs r1 hl r3
    obtain ⟨l, es, k1, k2, k3, k4, k5⟩ := slice_go hc hR hO a elems (i0 + 1) (fun i hi => by
      have := h (i + 1) (by simpa using hi)
      rw [show i0 + 1 + i = i0 + (i + 1) by omega]; simpa using this)
    have hsz : u.cells.size = sz := by rw [← Array.length_toList, u2, hl]
    refine ⟨y :: l, u :: es, by simp only [List.map_cons, RepL]; exact ⟨_, _, rfl, u1, k1⟩, by simp [k2], ?_, by simp only [List.map_cons, wl, Rows.uptoBulkAll]; omega, fun j v hj => ?_⟩
    · intro v hv; simp only [List.mem_cons] at hv
      rcases hv with rfl | hv
      · exact hsz
      · exact k3 v hv
    · simp only [vcells, List.flatMap_cons, u2] at hj
      by_cases hjl : j < sz
      · rw [List.getElem?_append_left (by omega)] at hj
        have := hget j hjl
        rw [add_add] at this
        exact ⟨by rw [this, hj], r3 v (List.mem_of_getElem? hj)⟩
      · rw [List.getElem?_append_right (by omega), hl] at hj
        have := k5 (j - sz) v hj
        rw [show (i0 + 1) * sz + (j - sz) = i0 * sz + j by rw [Nat.add_mul]; omega] at this
        exact this
theorem Rd_slice {t e : TypeId} {n sz : Nat} {α : Type} {f : α → List AV} {g : α → AV} {wt : α → Nat} (ht : P.underlying t = some (.slice e)) (hc : P.cellsOf e = sz) (hz : 0 < sz) (hO : One sz f g) (hR : ∀ m, n = m + 1 → Rd enc P w sp held m e f wt) :
    Rd enc P w sp held n t (fun l : List α => [.sl (l.map g)]) (wl wt) := fun cs x h => by
  rcases DataW.trod_slice ht h with ⟨rfl, rfl⟩ | ⟨a, len, cap, elems, rest, m, rfl, rfl, rfl, hb, hl, hm, hlen, hel, _, _⟩
  · exact ⟨[], by simp only [List.map_nil, RepL]; exact ⟨_, _, rfl, Rep_nil _ _, rfl⟩, by simp [wl, Rows.uptoBulk], by intro v hv; simp at hv; subst hv; rfl⟩
  · obtain ⟨l, es, k1, k2, k3, k4, k5⟩ := slice_go hc (hR m rfl) hO a elems 0 (fun i hi => by rw [Nat.zero_add]; have := hel i (by omega); rw [hc] at this; exact this)
    refine ⟨l, ?_, by simp only [Rows.uptoBulk]; omega, by intro v hv; simp at hv; subst hv; rfl⟩
    simp only [RepL]
    refine ⟨_, _, rfl, ?_, rfl⟩
    simp only [Rep]
    have hll : (l.map g).length = len := by simp; omega
    have hes : es.length = len := by have := k1.length; omega
    have hfirst : vcells es ≠ [] → a.spot = none := by
      intro hne
      obtain ⟨v, r, hv⟩ := List.exists_cons_of_ne_nil hne
      have := (k5 0 v (by rw [hv]; rfl)).1
      simp only [Nat.zero_mul, Nat.zero_add, Addr.add, if_true, World.cell?] at this
      split at this
      · cases hs : a.spot with
        | none => rfl
        | some s => rw [hs] at this; simp at this
      · simp at this
    refine ⟨some a, cap, es, sz, by rw [hll], k1, k3, by simp, by rw [hll]; exact hl, ?_, ?_⟩
    · rintro hne ad ⟨⟩
      have hsz : sz ≠ 0 := by omega
      refine hfirst (fun q => ?_)
      have hz := vcells_length es k3
      rw [q] at hz
      simp only [List.length_nil] at hz
      have : es.length = 0 := by
        rcases Nat.mul_eq_zero.1 hz.symm with h | h
        · exact h
        · exact absurd h hsz
      apply hne
      have : l.length = 0 := by omega
      simp [List.eq_nil_of_length_eq_zero this]
    · by_cases hne : vcells es = []
      · exact .inl hne
      · right
        have hs := hfirst hne
        obtain ⟨b, off, s⟩ := a
        simp only at hs; subst hs
        refine ⟨b, off, rfl, ?_, fun j v hj => ?_⟩
        · have hlen : 0 < (vcells es).length := List.length_pos_iff.2 hne
          have hv := List.getElem?_eq_getElem (l := vcells es) (i := (vcells es).length - 1) (by omega)
          have := (k5 _ _ hv).1
          rw [Nat.zero_mul, Nat.zero_add, addr_add] at this
          have := cell_U0 this
          omega
        · have := k5 j v hj
          rw [Nat.zero_mul, Nat.zero_add, addr_add] at this
          exact this
/-- The fields from a place on. -/
def RdF (enc : TypeId × Value → H) (P : Program) (w : World) (sp : Nat → Bool) (held : Bool) (n : Nat) (fs : List Field) (o tot : Nat) {α : Type} (f : α → List AV) (wt : α → Nat) : Prop :=
  ∀ (cs : List Value) (xs : List (DataW H × List MemPlace)), cs.length = tot → xs.length = fs.length → (∀ (i : Nat) (fd : Field), fs[i]? = some fd → DataW.trod enc P w 0 sp held n fd.type ((cs.drop fd.offset).take (P.cellsOf fd.type)) = xs[i]?) →
    ∃ a : α, RepL (U0 w) w (f a) (cs.drop o) ∧ wt a ≤ Rows.uptoBulkAll (xs.map (·.1)) ∧ ∀ v ∈ cs.drop o, v.oneCell' = true
theorem RdF_nil {n o : Nat} : RdF enc P w sp held n [] o o (fun _ : Unit => []) (fun _ => 0) := fun cs xs h _ _ => by
  have : cs.drop o = [] := List.drop_eq_nil_of_le (by omega)
  exact ⟨(), by rw [this]; simp [RepL], Nat.zero_le _, by rw [this]; simp⟩
theorem RdF_cons {n o k tot : Nat} {fd : Field} {fs : List Field} {α β : Type} {f : α → List AV} {wt : α → Nat} {g : β → List AV} {wg : β → Nat} (ho : fd.offset = o) (hk : P.cellsOf fd.type = k) (h0 : Rd enc P w sp held n fd.type f wt) (h : RdF enc P w sp held n fs (o + k) tot g wg) :
    RdF enc P w sp held n (fd :: fs) o tot (fun a : α × β => f a.1 ++ g a.2) (fun a => wt a.1 + wg a.2) := fun cs xs hl hx hf => by
  cases xs with
  | nil => simp at hx
  | cons x xs =>
    have e0 := hf 0 fd rfl
    rw [ho, hk] at e0
    obtain ⟨a, a1, a2, a3⟩ := h0 _ x e0
    obtain ⟨b, b1, b2, b3⟩ := h cs xs hl (by simpa using hx) (fun i fd' hi => by simpa using hf (i + 1) fd' (by simpa using hi))
    have hd : cs.drop o = (cs.drop o).take k ++ cs.drop (o + k) := by rw [← List.drop_drop, List.take_append_drop]
    refine ⟨(a, b), by rw [hd]; exact a1.append b1, by simp only [List.map_cons, Rows.uptoBulkAll]; omega, fun v hv => ?_⟩
    rw [hd, List.mem_append] at hv
    rcases hv with hv | hv
    · exact a3 v hv
    · exact b3 v hv
theorem Rd_struct {t : TypeId} {fs : Array Field} {n tot : Nat} {α : Type} {f : α → List AV} {wt : α → Nat} (ht : P.underlying t = some (.struct fs)) (hc : P.cellsOf t = tot) (h : ∀ m, n = m + 1 → RdF enc P w sp held m fs.toList 0 tot f wt) : Rd enc P w sp held n t f (fun a => 1 + wt a) := fun cs x hx => by
  obtain ⟨xs, m, rfl, rfl, hl, hlen, hf⟩ := DataW.trod_struct ht hx
  obtain ⟨a, a1, a2, a3⟩ := h m rfl cs xs (by omega) (by simpa using hlen) (fun i fd hi => hf i fd (by simpa using hi))
  exact ⟨a, by simpa using a1, by simp only [Rows.uptoBulk]; omega, by simpa using a3⟩
end
end Go.Proofs.YtbihjejjekeoiaaGreatDoor
namespace Go.Proofs.YtbihjejjekeoiaaGreatDoor
open Go Go.Eng
open Go.ChangeShapes Go.WideShapes Go.ChangeAt Go.RowKit
theorem One_aPair : One 2 (fun x : DPair => [(vS ((x).fKey)), (vS ((x).fValue))]) aPair := fun U w a us h1 h2 h3 => by rw [aPair_eq]; exact One_agg (fun x : DPair => [(vS ((x).fKey)), (vS ((x).fValue))]) U w a us h1 h2 h3
theorem Rd_aPair {H : Type} {enc : TypeId × Value → H} {w : World} {sp : Nat → Bool} {held : Bool} (n : Nat) : Rd enc Tryz.prog w sp held n 35 (fun x : DPair => [(vS ((x).fKey)), (vS ((x).fValue))]) wPair := by
  have h := Rd_struct (n := n) (enc := enc) (P := Tryz.prog) (w := w) (sp := sp) (held := held) (tot := 2) Tryz.underlying35 (by kernel_rfl) (fun m hm => (RdF_cons (k := 1) rfl (by kernel_rfl) (Rd_str Tryz.underlying9 m) (RdF_cons (k := 1) rfl (by kernel_rfl) (Rd_str Tryz.underlying9 m) RdF_nil)))
  exact Rd_map (fun a => DPair.mk a.1 a.2.1) h (fun _ => rfl) (fun a => by simp only [wPair_eq, w1]; omega)
theorem Rd_aAttr {H : Type} {enc : TypeId × Value → H} {w : World} {sp : Nat → Bool} {held : Bool} (n : Nat) : Rd enc Tryz.prog w sp held n 48 (fun x : DAttr => [(vS ((x).fID)), (.sl (((x).fClasses).map strAV)), (.sl (((x).fPairs).map aPair))]) wAttr := by
  have h := Rd_struct (n := n) (enc := enc) (P := Tryz.prog) (w := w) (sp := sp) (held := held) (tot := 3) Tryz.underlying48 (by kernel_rfl) (fun m hm => (RdF_cons (k := 1) rfl (by kernel_rfl) (Rd_str Tryz.underlying9 m) (RdF_cons (k := 1) rfl (by kernel_rfl) (Rd_slice (t := 32) (e := 9) (sz := 1) (g := strAV) (wt := wStr) Tryz.underlying32 (by kernel_rfl) (by decide) (One_val strAV Value.string (fun _ => rfl) (fun _ => rfl)) (fun q hq => (Rd_str Tryz.underlying9 q))) (RdF_cons (k := 1) rfl (by kernel_rfl) (Rd_slice (t := 24) (e := 35) (sz := 2) (g := aPair) (wt := wPair) Tryz.underlying24 (by kernel_rfl) (by decide) One_aPair (fun q hq => (Rd_aPair q))) RdF_nil))))
  exact Rd_map (fun a => DAttr.mk a.1 a.2.1 a.2.2.1) h (fun _ => rfl) (fun a => by simp only [wAttr_eq, w1]; omega)
theorem One_aCited : One 4 (fun x : DCited => [(vS ((x).fKey)), (vS ((x).fPrefix)), (vS ((x).fSuffix)), (vB ((x).fBare))]) aCited := fun U w a us h1 h2 h3 => by rw [aCited_eq]; exact One_agg (fun x : DCited => [(vS ((x).fKey)), (vS ((x).fPrefix)), (vS ((x).fSuffix)), (vB ((x).fBare))]) U w a us h1 h2 h3
theorem Rd_aCited {H : Type} {enc : TypeId × Value → H} {w : World} {sp : Nat → Bool} {held : Bool} (n : Nat) : Rd enc Tryz.prog w sp held n 80 (fun x : DCited => [(vS ((x).fKey)), (vS ((x).fPrefix)), (vS ((x).fSuffix)), (vB ((x).fBare))]) wCited := by
  have h := Rd_struct (n := n) (enc := enc) (P := Tryz.prog) (w := w) (sp := sp) (held := held) (tot := 4) Tryz.underlying80 (by kernel_rfl) (fun m hm => (RdF_cons (k := 1) rfl (by kernel_rfl) (Rd_str Tryz.underlying9 m) (RdF_cons (k := 1) rfl (by kernel_rfl) (Rd_str Tryz.underlying9 m) (RdF_cons (k := 1) rfl (by kernel_rfl) (Rd_str Tryz.underlying9 m) (RdF_cons (k := 1) rfl (by kernel_rfl) (Rd_bool Tryz.underlying4 m) RdF_nil)))))
  exact Rd_map (fun a => DCited.mk a.1 a.2.1 a.2.2.1 a.2.2.2.1) h (fun _ => rfl) (fun a => by simp only [wCited_eq, w1]; omega)
theorem One_aInline : One 10 (fun x : DInline => [(vI ((x).fKind)), (vS ((x).fText)), (vS ((x).fDest)), (vS ((x).fTitle)), (vS (((x).fAttr).fID)), (.sl ((((x).fAttr).fClasses).map strAV)), (.sl ((((x).fAttr).fPairs).map aPair)), (.sl (((x).fArgs).map strAV)), (.sl (((x).fCites).map aCited)), (.sl (((x).fKids).map aInline))]) aInline := fun U w a us h1 h2 h3 => by rw [aInline_eq]; exact One_agg (fun x : DInline => [(vI ((x).fKind)), (vS ((x).fText)), (vS ((x).fDest)), (vS ((x).fTitle)), (vS (((x).fAttr).fID)), (.sl ((((x).fAttr).fClasses).map strAV)), (.sl ((((x).fAttr).fPairs).map aPair)), (.sl (((x).fArgs).map strAV)), (.sl (((x).fCites).map aCited)), (.sl (((x).fKids).map aInline))]) U w a us h1 h2 h3
theorem Rd_aInline {H : Type} {enc : TypeId × Value → H} {w : World} {sp : Nat → Bool} {held : Bool} : ∀ n : Nat, Rd enc Tryz.prog w sp held n 77 (fun x : DInline => [(vI ((x).fKind)), (vS ((x).fText)), (vS ((x).fDest)), (vS ((x).fTitle)), (vS (((x).fAttr).fID)), (.sl ((((x).fAttr).fClasses).map strAV)), (.sl ((((x).fAttr).fPairs).map aPair)), (.sl (((x).fArgs).map strAV)), (.sl (((x).fCites).map aCited)), (.sl (((x).fKids).map aInline))]) wInline := fun n => Nat.strongRecOn n (fun n ih => by
  have h := Rd_struct (n := n) (enc := enc) (P := Tryz.prog) (w := w) (sp := sp) (held := held) (tot := 10) Tryz.underlying77 (by kernel_rfl) (fun m hm => (RdF_cons (k := 1) rfl (by kernel_rfl) (Rd_int Tryz.underlying3 m) (RdF_cons (k := 1) rfl (by kernel_rfl) (Rd_str Tryz.underlying9 m) (RdF_cons (k := 1) rfl (by kernel_rfl) (Rd_str Tryz.underlying9 m) (RdF_cons (k := 1) rfl (by kernel_rfl) (Rd_str Tryz.underlying9 m) (RdF_cons (k := 3) rfl (by kernel_rfl) (Rd_aAttr m) (RdF_cons (k := 1) rfl (by kernel_rfl) (Rd_slice (t := 32) (e := 9) (sz := 1) (g := strAV) (wt := wStr) Tryz.underlying32 (by kernel_rfl) (by decide) (One_val strAV Value.string (fun _ => rfl) (fun _ => rfl)) (fun q hq => (Rd_str Tryz.underlying9 q))) (RdF_cons (k := 1) rfl (by kernel_rfl) (Rd_slice (t := 75) (e := 80) (sz := 4) (g := aCited) (wt := wCited) Tryz.underlying75 (by kernel_rfl) (by decide) One_aCited (fun q hq => (Rd_aCited q))) (RdF_cons (k := 1) rfl (by kernel_rfl) (Rd_slice (t := 49) (e := 77) (sz := 10) (g := aInline) (wt := wInline) Tryz.underlying49 (by kernel_rfl) (by decide) One_aInline (fun q hq => (ih q (by omega)))) RdF_nil)))))))))
  exact Rd_map (fun a => DInline.mk a.1 a.2.1 a.2.2.1 a.2.2.2.1 a.2.2.2.2.1 a.2.2.2.2.2.1 a.2.2.2.2.2.2.1 a.2.2.2.2.2.2.2.1) h (fun _ => rfl) (fun a => by simp only [wInline_eq, w1]; omega))
theorem One_aBlock : One 11 (fun x : DBlock => [(vI ((x).fKind)), (vI ((x).fLevel)), (vS ((x).fInfo)), (vS ((x).fText)), (vS ((x).fDest)), (vS ((x).fTitle)), (vS (((x).fAttr).fID)), (.sl ((((x).fAttr).fClasses).map strAV)), (.sl ((((x).fAttr).fPairs).map aPair)), (.sl (((x).fLine).map aInline)), (.sl (((x).fKids).map aBlock))]) aBlock := fun U w a us h1 h2 h3 => by rw [aBlock_eq]; exact One_agg (fun x : DBlock => [(vI ((x).fKind)), (vI ((x).fLevel)), (vS ((x).fInfo)), (vS ((x).fText)), (vS ((x).fDest)), (vS ((x).fTitle)), (vS (((x).fAttr).fID)), (.sl ((((x).fAttr).fClasses).map strAV)), (.sl ((((x).fAttr).fPairs).map aPair)), (.sl (((x).fLine).map aInline)), (.sl (((x).fKids).map aBlock))]) U w a us h1 h2 h3
theorem Rd_aBlock {H : Type} {enc : TypeId × Value → H} {w : World} {sp : Nat → Bool} {held : Bool} : ∀ n : Nat, Rd enc Tryz.prog w sp held n 51 (fun x : DBlock => [(vI ((x).fKind)), (vI ((x).fLevel)), (vS ((x).fInfo)), (vS ((x).fText)), (vS ((x).fDest)), (vS ((x).fTitle)), (vS (((x).fAttr).fID)), (.sl ((((x).fAttr).fClasses).map strAV)), (.sl ((((x).fAttr).fPairs).map aPair)), (.sl (((x).fLine).map aInline)), (.sl (((x).fKids).map aBlock))]) wBlock := fun n => Nat.strongRecOn n (fun n ih => by
  have h := Rd_struct (n := n) (enc := enc) (P := Tryz.prog) (w := w) (sp := sp) (held := held) (tot := 11) Tryz.underlying51 (by kernel_rfl) (fun m hm => (RdF_cons (k := 1) rfl (by kernel_rfl) (Rd_int Tryz.underlying3 m) (RdF_cons (k := 1) rfl (by kernel_rfl) (Rd_int Tryz.underlying3 m) (RdF_cons (k := 1) rfl (by kernel_rfl) (Rd_str Tryz.underlying9 m) (RdF_cons (k := 1) rfl (by kernel_rfl) (Rd_str Tryz.underlying9 m) (RdF_cons (k := 1) rfl (by kernel_rfl) (Rd_str Tryz.underlying9 m) (RdF_cons (k := 1) rfl (by kernel_rfl) (Rd_str Tryz.underlying9 m) (RdF_cons (k := 3) rfl (by kernel_rfl) (Rd_aAttr m) (RdF_cons (k := 1) rfl (by kernel_rfl) (Rd_slice (t := 49) (e := 77) (sz := 10) (g := aInline) (wt := wInline) Tryz.underlying49 (by kernel_rfl) (by decide) One_aInline (fun q hq => (Rd_aInline q))) (RdF_cons (k := 1) rfl (by kernel_rfl) (Rd_slice (t := 22) (e := 51) (sz := 11) (g := aBlock) (wt := wBlock) Tryz.underlying22 (by kernel_rfl) (by decide) One_aBlock (fun q hq => (ih q (by omega)))) RdF_nil))))))))))
  exact Rd_map (fun a => DBlock.mk a.1 a.2.1 a.2.2.1 a.2.2.2.1 a.2.2.2.2.1 a.2.2.2.2.2.1 a.2.2.2.2.2.2.1 a.2.2.2.2.2.2.2.1 a.2.2.2.2.2.2.2.2.1) h (fun _ => rfl) (fun a => by simp only [wBlock_eq, w1]; omega))
theorem Rd_aDoc {H : Type} {enc : TypeId × Value → H} {w : World} {sp : Nat → Bool} {held : Bool} (n : Nat) : Rd enc Tryz.prog w sp held n 26 (fun x : DDoc => [(.sl (((x).fMeta).map aPair)), (.sl (((x).fBlocks).map aBlock))]) wDoc := by
  have h := Rd_struct (n := n) (enc := enc) (P := Tryz.prog) (w := w) (sp := sp) (held := held) (tot := 2) Tryz.underlying26 (by kernel_rfl) (fun m hm => (RdF_cons (k := 1) rfl (by kernel_rfl) (Rd_slice (t := 24) (e := 35) (sz := 2) (g := aPair) (wt := wPair) Tryz.underlying24 (by kernel_rfl) (by decide) One_aPair (fun q hq => (Rd_aPair q))) (RdF_cons (k := 1) rfl (by kernel_rfl) (Rd_slice (t := 22) (e := 51) (sz := 11) (g := aBlock) (wt := wBlock) Tryz.underlying22 (by kernel_rfl) (by decide) One_aBlock (fun q hq => (Rd_aBlock q))) RdF_nil)))
  exact Rd_map (fun a => DDoc.mk a.1 a.2.1) h (fun _ => rfl) (fun a => by simp only [wDoc_eq, w1]; omega)
end Go.Proofs.YtbihjejjekeoiaaGreatDoor
