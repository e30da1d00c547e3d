/- Texts joined by a program (merge.py). -/
import Derived.Test.YtcdfhagcchmnhaaGreatDoorMcf
import Derived.Test.YtcdfhagcchmnhaaGreatDoorMcd
import Derived.Test.YtcdfhagcchmnhaaGreatDoorMcg
import Derived.Test.YtcdfhagcchmnhaaGreatDoorMcc
import Derived.KernelRfl
import Derived.StillTail
import Derived.Laws.MakeOwn
set_option linter.unusedSimpArgs false
set_option linter.unusedVariables false
namespace Go.CE
variable {P : Program}
theorem awake_to {call : CallT} (hcall : CallOk P call) {f : FuncId} (hent : Eng.Enterable P f) {n0 : ID} (h : okB (call (.f f) [] h0 n0) = true) : Eng.CallTo P f [] [] [] (.av (.val (.bool true))) [] [] := by
  obtain ⟨H', n', hr⟩ : ∃ H' n', call (.f f) [] h0 n0 = .ok (.b true) H' n' := by
    cases hc : call (.f f) [] h0 n0 with
    | no => rw [hc] at h; cases h
    | ok v H' n' =>
      rw [hc] at h
      cases v with
      | b x =>
        have hx : x = true := h
        subst hx
        exact ⟨H', n', rfl⟩
      | _ => cases h
  refine ⟨hent, fun G w vs hw hargs _ _ => ?_⟩
  have hvs : vs = [] := by simpa only [Eng.RepSs] using hargs
  subst hvs
  have hcd := (hcall.f f [] h0 n0 _ H' n' hr (fun _ => none) w [] (by simp [VRs]) ⟨fun i hi => absurd (hget_h0 i) hi, fun i j _ _ hi => absurd (hget_h0 i) hi⟩ (fun i _ _ => rfl)).enters hent
  refine (callsIn_wide.1 hcd).mono ?_
  rintro e w' ⟨u, rfl, ρ', e1, e2, e3⟩
  have hout : ∀ b, b < w.heap.size → w'.heap[b]? = w.heap[b]? := fun b hb => e1.out b hb (fun i x hi => absurd (hget_h0 i) hi)
  simp only [VR] at e3
  subst e3
  have hkeep : ∀ κ, Eng.Keep G w G w' κ := fun κ => ⟨rfl, fun b hb => ⟨hout b (hw.lt κ b hb), rfl⟩⟩
  have himm : Eng.Imm G.U w w' := Eng.imm_of (fun b hb => hout b (by
    rcases Nat.lt_or_ge b w.heap.size with q | q
    · exact q
    · have := hw.zero b q; omega))
  exact ⟨.bool true, G, rfl, ⟨⟨fun _ => Nat.le_refl _, himm, e1.size, e1.os, Prod.ext e1.tape rfl, e1.output, fun _ _ => rfl, fun _ => Nat.le_refl _, fun κ _ _ => hkeep κ⟩, fun b hb _ => ⟨hout b hb, rfl⟩, fun κ b hb => .inl ⟨κ, hb⟩⟩,
    ⟨hw.inj, fun κ b hb => Nat.lt_of_lt_of_le (hw.lt κ b hb) e1.size, fun b hb => hw.zero b (Nat.le_trans e1.size hb)⟩, by simp only [Eng.RepS, Eng.Rep]; exact ⟨trivial, rfl⟩, fun p hp => by simp at hp, fun i _ => hkeep _, fun _ => rfl, fun _ => rfl⟩
end Go.CE
namespace Go.Proofs.YtcdfhagcchmnhaaGreatDoor
open Go Go.CE
theorem lib_ok : ∀ f g, lib f = some g → LibOk Tryz.prog f g := by
  intro f g h
  unfold lib at h
  have key : ∀ (m : Nat) (x : LibF) (r : Option LibF), LibOk Tryz.prog m x → (r = some g → LibOk Tryz.prog f g) → bc (Nat.beq f m) (some x) r = some g → LibOk Tryz.prog f g := by
    intro m x r hx hr hb
    cases hm : Nat.beq f m with
    | true =>
      rw [hm] at hb
      rw [Nat.beq_eq] at hm
      cases hb
      rw [hm]; exact hx
    | false => rw [hm] at hb; exact hr hb
  exact (key _ _ _ stringOk (key _ _ _ checkOk (key _ _ _ countOk (key _ _ _ indexOk (fun h => by cases h))))) h
theorem mixed : Tryz.prog.follows .mixedOrders = true := by kernel_rfl
theorem awake_to : Eng.CallTo Tryz.prog 6 [] [] [] (.av (.val (.bool true))) [] [] :=
  CE.awake_to (callF_ok mixed lib_ok 60) ⟨_, Tryz.func6, by kernel_rfl, by kernel_rfl⟩ awake_runs
end Go.Proofs.YtcdfhagcchmnhaaGreatDoor
namespace Go.Proofs.YtcdfhagcchmnhaaGreatDoor
open Go Go.Eng
end Go.Proofs.YtcdfhagcchmnhaaGreatDoor
namespace Go.Proofs.YtcdfhagcchmnhaaGreatDoor
open Go Go.Eng
end Go.Proofs.YtcdfhagcchmnhaaGreatDoor
namespace Go.Proofs.YtcdfhagcchmnhaaGreatDoor
open Go Go.Eng
end Go.Proofs.YtcdfhagcchmnhaaGreatDoor
namespace Go.Eng
variable {P : Program}
theorem WO_sound {ops : Array Oper} {o : Oper} {rest : List Oper} {Q : St → Prop} {S : St} {r : Res} (hg : o.guard = none) (hs : Sound P o S r) (hok : r.ok) (h : WO P ops rest Q (r.st.put o.dst r.v)) : WO P ops (o :: rest) Q S := by
  refine WO_op (fun G w a hr => wanted_none hg a) (fun G w a hr Q' next hn => ?_) h
  obtain ⟨nx, v, w', G', h1, h2, h3, h4, h5, h6⟩ := hs hok G w a hr
  unfold Oper.wp
  rw [h1]
  rcases h2 with rfl | ⟨rfl, rfl⟩
  · rw [Oper.upon_value]; exact hn G' _ w' h3 (h4.put o.dst h5) h6
  · rw [Oper.upon_skip]; exact hn G' _ w' h3 (h4.put o.dst h5) h6
theorem run_eq_nil {t e : TypeId} (ht : P.underlying t = some (.slice e)) (w : World) (a : Option Addr) (n c n' c' : Nat) : (binOp .eql t (.slice a n c) (.slice none n' c')).run P w = .ok (.bool a.isNone) w := by
  have h : (Op.equal t (.slice a n c) (.slice none n' c')).run P w = .ok a.isNone w := by
    rw [show Op.equal t (.slice a n c) (.slice none n' c') = Op.equalIn (9999 + 1) t (.slice a n c) (.slice none n' c') from rfl]
    unfold Op.equalIn
    cases a <;> simp [run_underlying' ht]
  simp [binOp, h]
/-- A slice is held against nil: if it is nil, then it is empty. -/
theorem WO_isnil {ops : Array Oper} {o : Oper} {rest : List Oper} {Q : St → Prop} {S : St} {t t' e : TypeId} {x : Operand} {l : List AV} (ho : o.op = .binOp .eql t x (.const (.slice none 0 0)) t') (hg : o.guard = none) (ht : P.underlying t = some (.slice e)) (hx : S.ev x = .av (.sl l))
    (h : ∀ b : Bool, (b = true → l = []) → WO P ops rest Q (S.put o.dst (.av (.val (.bool b))))) : WO P ops (o :: rest) Q S := by
  intro more Q' G w a hr hq
  have hxr := hr.ev x
  rw [hx] at hxr
  simp only [RepS, Rep] at hxr
  obtain ⟨ad, cap, es, sz, hu, h1, h2, h3, h4⟩ := hxr
  have hbl : ad.isNone = true → l = [] := by
    intro hn
    have : es = [] := h3 (by simpa using hn)
    subst this
    exact List.length_eq_zero_iff.1 (by have := h1.length; simpa using this.symm)
  have he : (execOp a.eval o).run P w = .ok (.value (.bool ad.isNone)) w := by
    have e1 := run_eq_nil ht w ad l.length cap 0 0
    have e2 : (eqGuard .eql t x (.const (.slice none 0 0)) (.slice ad l.length cap) (.slice none 0 0)).run P w = .ok () w := by
      unfold eqGuard
      simp
    have e3 : a.eval (.const (.slice none 0 0)) = .slice none 0 0 := rfl
    simp only [execOp, ho, hu, e3, Sem.run_bind, e2, e1, Result.andThen_ok]
    rfl
  simp only [List.cons_append, wpList]
  rw [if_pos (wanted_none hg a)]
  refine .inl ?_
  unfold Oper.wp
  rw [he, Oper.upon_value]
  exact h ad.isNone hbl more Q' G w _ (hr.put o.dst ⟨rfl, rfl⟩) hq
theorem step_tok0 {G : Gh} {w : World} (hw : Wf G w) (o : Obj) {k : Key} (hk0 : 0 < k.2) (n : Nat) :
    Step G w ((G.setU w.heap.size n).next k w.heap.size) (w.alloc o) ∧ Wf ((G.setU w.heap.size n).next k w.heap.size) (w.alloc o) ∧
      ∀ κ, κ ≠ k → Keep G w ((G.setU w.heap.size n).next k w.heap.size) (w.alloc o) κ := by
  obtain ⟨s1, s2, s3⟩ := step_alloc hw o n
  have how : ∀ κ b, (if κ = k then some w.heap.size else G.ow κ) = some b → (κ = k ∧ b = w.heap.size) ∨ (κ ≠ k ∧ G.ow κ = some b) := by
    intro κ b h
    split at h
    · rename_i hk; simp at h; exact .inl ⟨hk, h.symm⟩
    · rename_i hk; exact .inr ⟨hk, h⟩
  have hkp : ∀ κ, κ ≠ k → Keep G w ((G.setU w.heap.size n).next k w.heap.size) (w.alloc o) κ := fun κ hκ => ⟨by simp only [Gh.next]; rw [if_neg hκ]; rfl, fun b hb => (s3 κ).2 b hb⟩
  refine ⟨⟨⟨s1.U, ⟨s1.imm.cell, s1.imm.map⟩, s1.size, s1.os, s1.tape, s1.output, s1.cp, fun κ => ?_, fun κ _ hg => ?_⟩, s1.stay, fun κ b h => ?_⟩, ⟨fun κ κ' b h h' => ?_, fun κ b h => ?_, s2.zero⟩, hkp⟩
  · simp only [Gh.next, Gh.setU]; split <;> omega
  · refine hkp κ (fun e => ?_)
    simp only [Gh.next, Gh.setU, if_pos e] at hg; omega
  · rcases how κ b h with ⟨_, rfl⟩ | ⟨_, h1⟩
    · exact .inr (Nat.le_refl _)
    · exact .inl ⟨κ, h1⟩
  · rcases how κ b h with ⟨h1, h2⟩ | ⟨h1, h2⟩ <;> rcases how κ' b h' with ⟨h3, h4⟩ | ⟨h3, h4⟩
    · rw [h1, h3]
    · have := hw.lt κ' b h4; omega
    · have := hw.lt κ b h2; omega
    · exact hw.inj κ κ' b h2 h4
  · rcases how κ b h with ⟨_, rfl⟩ | ⟨_, h1⟩
    · simp
    · have := hw.lt κ b h1; simp; omega
/-- An empty slice that is made: it may be appended to. -/
theorem sound_build0 {o : Oper} {S : St} {t e : TypeId} {sz bt : Nat} {z : Value} (d : Nat) (ho : o.op = .buildSlice t 0 #[]) (ht : tElem P t = some e) (hi : tInfo P e = some (sz, bt, some z)) : Sound P o S ⟨True, .own (d, e + 1) (S.gen (d, e + 1) + 1) sz [], S.next (d, e + 1)⟩ := by
  intro _ G w a hr
  have ht' : P.underlying t = some (.slice e) := by
    unfold tElem at ht; split at ht
    · rename_i hh; simp at ht; subst ht; exact hh
    · simp at ht
  have hk0 : 0 < ((d, e + 1) : Key).2 := Nat.succ_pos e
  have hk2 : ∀ κ : Key, κ.2 = 0 → κ ≠ (d, e + 1) := by intro κ h0 he; rw [he] at h0; simp at h0
  obtain ⟨s1, s2, s3⟩ := step_tok0 hr.wf (.cells #[] e) hk0 0
  refine ⟨_, .slice (some ⟨w.heap.size, 0, none⟩) 0 0, w.alloc (.cells #[] e), _, ?_, .inl rfl, s1, hr.nextTok s1.toExt s2 (fun κ h0 => s3 κ (hk2 κ h0)) (next_gen (G := G.setU _ _) hr.gn _ _), ?_, fun i _ => by simp only [Gh.next, Gh.setU]; rw [if_neg (hk2 (i, 0) rfl)]⟩
  · simp only [execOp, ho, Instr.buildSlice, Sem.run_bind, run_underlying' ht', Result.andThen_ok, run_sizeOf' hi]
    simp [newRow, Instr.fill]
    congr 2
    apply Array.ext'
    simp
  · have hg : G.gen (d, e + 1) = S.gen (d, e + 1) := hr.gn _
    refine ⟨hk0, by simp only [Gh.next, Gh.setU, if_true]; omega, some ⟨w.heap.size, 0, none⟩, 0, [], rfl, by simp [RepL], by simp, by simp, by simp, by simp, .inl (by simp [vcells]), fun _ => .inr ⟨w.heap.size, 0, #[], e, rfl, by simp [Gh.next], heap_alloc_new w _, by simp, by simp [Gh.next, Gh.setU], rfl⟩⟩
theorem append_own_step {o : Oper} {S : St} {t e d : TypeId} {sz bt : Nat} {z : Value} {x y : Operand} {k : Key} {g : Nat} {l l' : List AV} (ho : o.op = .call { callee := .builtin .append, args := #[x, y], argTypes := #[t, t] }) (hd : o.dst = some d) (hx : S.ev x = .own k g sz l) (hy : (S.ev y).toAV = some (.sl l')) (hk : e + 1 = k.2)
    (ht : tElem P t = some e) (hi : tInfo P e = some (sz, bt, some z)) (hz : z.cells.size = sz) (hbt : 0 < bt) (h2 : notInt P t = true) :
    astep P o S = some ⟨S.gen k = g ∧ Uni sz l' ∧ (l.length + l'.length) * bt ≤ 140737488355328, .own k (g + 1) sz (l ++ l'), S.next k⟩ := by
  unfold astep
  rw [ho]
  simp only [aBuiltin]
  unfold aAppend
  rw [ht, hd]
  simp only [hi]
  rw [if_pos ⟨hz, hbt, h2⟩]
  simp only [aSrc, hy, hx]
  rw [if_pos ⟨trivial, hk⟩]
/-- slices.Clone: the elements of the slice. -/
theorem clone_to {f : FuncId} {fn : Func} {t e : TypeId} {sz bt : Nat} {z : Value} {i0 i1 i2 i3 : Nat} {a0 b0 b1 c0 d0 d1 d2 d3 : Oper} {t' : TypeId} (hf : P.funcs[f]? = some fn)
    (hb : fn.body = some (.seq (.region i0 #[a0] false) (.seq (.seq (.region i1 #[b0, b1] false) (.cond (.tmp 4) (.seq (.region i2 #[c0] false) .ret) .skip)) (.seq (.region i3 #[d0, d1, d2, d3] false) .ret))))
    (hname : (fn.name == "runtime.NumGoroutine") = false) (hn : fn.ntmps = 8) (hres : fn.results.toList = [.tmp 2])
    (ha0 : a0.op = .assign (.const (.slice none 0 0)) ∧ a0.dst = some 2 ∧ a0.guard = none) (hb0 : b0.op = .move (.tmp 0) ∧ b0.dst = some 3 ∧ b0.guard = none) (hb1 : b1.op = .binOp .eql t (.tmp 3) (.const (.slice none 0 0)) t' ∧ b1.dst = some 4 ∧ b1.guard = none)
    (hc0 : c0.op = .assign (.const (.slice none 0 0)) ∧ c0.dst = some 2 ∧ c0.guard = none) (hd0 : d0.op = .buildSlice t 0 #[] ∧ d0.dst = some 5 ∧ d0.guard = none) (hd1 : d1.op = .move (.tmp 0) ∧ d1.dst = some 6 ∧ d1.guard = none)
    (hd2 : d2.op = .call { callee := .builtin .append, args := #[.tmp 5, .tmp 6], argTypes := #[t, t] } ∧ d2.dst = some 7 ∧ d2.guard = none) (hd3 : d3.op = .assign (.tmp 7) ∧ d3.dst = some 2 ∧ d3.guard = none)
    (ht : tElem P t = some e) (hi : tInfo P e = some (sz, bt, some z)) (hz : z.cells.size = sz) (hbt : 0 < bt) (l : List AV) (hu : Uni sz l) (hl : l.length * bt ≤ 140737488355328) :
    CallTo P f [.av (.sl l)] [] [] (.av (.sl l)) [] [] := by
  have ht' : P.underlying t = some (.slice e) := by
    unfold tElem at ht; split at ht
    · rename_i hh; simp at ht; subst ht; exact hh
    · simp at ht
  have h2 : notInt P t = true := by unfold notInt; rw [ht']
  refine CallTo_of_body hf hb hname hn (by simp) (by simp) (by simp) (by intro s hs; simp at hs; subst hs; exact ok_av rfl _ _) (by simp) (ok_av rfl _ _) (by simp) rfl rfl ?_
  have hend : ∀ (S : St) (s : SV), S.fr[2]? = some s → s.norm = .av (.sl l) → Ends P fn (.av (.sl l)) [] [] .ret S := by
    intro S s h1 h3
    refine ⟨⟨false, ?_⟩, by simp, by simp⟩
    unfold aRes
    rw [hres]
    simp [aRes1, h1, h3]
  refine W_seq (W_regionO ?_)
  refine WO_sound ha0.2.2 (sound_move (.inr ha0.1)) trivial ?_
  rw [ha0.2.1]
  refine WO_nil rfl ?_
  refine W_seq (W_seq (W_regionO ?_))
  refine WO_sound hb0.2.2 (sound_move (.inl hb0.1)) trivial ?_
  rw [hb0.2.1]
  refine WO_isnil (l := l) hb1.1 hb1.2.2 ht' rfl (fun b hb => ?_)
  rw [hb1.2.1]
  refine WO_nil rfl ?_
  refine W_cond (b := b) rfl ?_
  cases b with
  | true =>
    have hl0 := hb rfl
    subst hl0
    simp only [if_true]
    refine W_seq (W_regionO ?_)
    refine WO_sound hc0.2.2 (sound_move (.inr hc0.1)) trivial ?_
    rw [hc0.2.1]
    refine WO_nil rfl ?_
    exact W_ret (hend _ .nil rfl rfl)
  | false =>
    simp only [Bool.false_eq_true, if_false]
    refine W_skip ?_
    refine W_seq (W_regionO ?_)
    refine WO_sound hd0.2.2 (sound_build0 5 hd0.1 ht hi) trivial ?_
    rw [hd0.2.1]
    refine WO_sound hd1.2.2 (sound_move (.inl hd1.1)) trivial ?_
    rw [hd1.2.1]
    show WO P _ [d2, d3] _ ⟨[.av (.sl l), .junk, .nil, .av (.sl l), .av (.val (.bool false)), .own (5, e + 1) 1 sz [], .av (.sl l), .junk], [], [((5, e + 1), 1)]⟩
    refine WO_sound hd2.2.2 (astep_sound (append_own_step hd2.1 hd2.2.1 rfl rfl rfl ht hi hz hbt h2)) ⟨by simp [St.gen], hu, by simpa using hl⟩ ?_
    rw [hd2.2.1]
    refine WO_sound hd3.2.2 (sound_move (.inr hd3.1)) trivial ?_
    rw [hd3.2.1]
    refine WO_nil rfl ?_
    exact W_ret (hend _ (.own (5, e + 1) 2 sz l) rfl rfl)
end Go.Eng
namespace Go.Eng
variable {P : Program}
section
variable {t t2 ty e : TypeId} {sz bt : Nat} {z : Value}
end
theorem setRow_alloc (w : World) (arr arr' : Array Value) (e : TypeId) : (w.alloc (.cells arr e)).setRow w.heap.size arr' = w.alloc (.cells arr' e) := by
  have h : ((w.alloc (.cells arr e)).setRow w.heap.size arr').heap = (w.alloc (.cells arr' e)).heap := by
    apply Array.ext_getElem?
    intro i
    by_cases hi : i = w.heap.size
    · subst hi; rw [setRow_heap _ _ arr arr' e _ (heap_alloc_new w _), heap_alloc_new w _]
    · rw [setRow_other _ _ _ _ hi]
      rcases Nat.lt_or_ge i w.heap.size with h | h
      · rw [heap_alloc_lt w _ h, heap_alloc_lt w _ h]
      · rw [Array.getElem?_eq_none (by simp; omega), Array.getElem?_eq_none (by simp; omega)]
  exact congrArg (fun h => ({ w with heap := h } : World)) h
theorem setRow_setRow (w : World) (b : Nat) (arr arr' : Array Value) : (w.setRow b arr).setRow b arr' = w.setRow b arr' := by
  have h : ((w.setRow b arr).setRow b arr').heap = (w.setRow b arr').heap := by
    apply Array.ext_getElem?
    intro i
    simp only [World.setRow, Array.getElem?_modify]
    split
    · cases w.heap[i]? with
      | none => rfl
      | some o => cases o <;> rfl
    · rfl
  exact congrArg (fun h => ({ w with heap := h } : World)) h
/-- What is left after a slice of the call's own was moved. -/
theorem own_grown {G : Gh} {w : World} {S : St} {a : Act} {k : Key} {g sz e cap : Nat} {ad : Option Addr} {l l' : List AV} {es es' : List Value} (hr : Rel G w S a) (hk0 : 0 < k.2) (hke : e + 1 = k.2) (hgg : G.gen k = g)
    (g2 : RepL G.U w l es) (g3 : ∀ e ∈ es, e.cells.size = sz) (g5 : Lies G.U w ad (vcells es)) (hx : RepL G.U w l' es') (hu : Uni sz l') {nc : Nat} {rest : List Value} (q1 : l.length + l'.length ≤ nc) (q2 : rest.length = (nc - (l.length + l'.length)) * sz) :
    ∃ G', Step G w G' (w.drew.alloc (.cells (vcells es ++ vcells es' ++ rest).toArray e)) ∧ Rel G' (w.drew.alloc (.cells (vcells es ++ vcells es' ++ rest).toArray e)) (S.next k) a ∧
      RepS G' (w.drew.alloc (.cells (vcells es ++ vcells es' ++ rest).toArray e)) (.own k (g + 1) sz (l ++ l')) (.slice (some ⟨w.heap.size, 0, none⟩) (l.length + l'.length) nc) ∧ ∀ i, G'.ow (i, 0) = G.ow (i, 0) := by
  have hes' := hu.sizes hx
  have h1' := hx.cells hu
  have hkne : ∀ i : Nat, ((i, 0) : Key) ≠ k := by intro i he; rw [← he] at hk0; simp at hk0
  have hk2 : ∀ κ : Key, κ.2 = 0 → κ ≠ k := by intro κ h0 he; rw [he] at h0; omega
  have hl1 := vcells_length es g3
  have hl2 := vcells_length es' hes'
  have hll := g2.length
  have hll' := hx.length
  have hcellsOld : ∀ c ∈ vcells es, c.oneCell' = true := by
    rcases g5 with h | ⟨_, _, _, _, h3⟩
    · rw [h]; simp
    · intro c hc
      obtain ⟨j, hj⟩ := List.mem_iff_getElem?.1 hc
      exact (h3 j c hj).2
  have hsz : ∀ e ∈ es ++ es', e.cells.size = sz := by
    intro e he; rcases List.mem_append.1 he with h | h
    · exact g3 e h
    · exact hes' e h
  obtain ⟨s1, s2, s3⟩ := step_tok hr.wf (.cells (vcells es ++ vcells es' ++ rest).toArray e) hk0 (vcells (es ++ es')).length
  refine ⟨_, s1, hr.nextTok s1.toExt s2 (fun κ h0 => s3 κ (hk2 κ h0)) (next_gen (G := G.setU _ _) hr.gn k _), ?_, fun i => by simp only [Gh.next, Gh.setU]; rw [if_neg (hkne i)]⟩
  refine ⟨hk0, by simp only [Gh.next, Gh.setU, if_true]; omega, some ⟨w.heap.size, 0, none⟩, nc, es ++ es', by simp, ?_, hsz, by simpa using q1, by simp, by simp, ?_, fun _ => .inr ⟨w.heap.size, 0, _, e, rfl, by simp [Gh.next], heap_alloc_new w.drew _, ?_, ?_, hke⟩⟩
  · exact RepL.mono s1.U s1.imm _ _ (g2.append hx)
  · have := Lies_new (w := w.drew) (cs := vcells (es ++ es')) (rest := rest) (e := e) (n := (vcells (es ++ es')).length) G.U (by rw [vcells_append]; intro c hc; rcases List.mem_append.1 hc with h | h; exact hcellsOld c h; exact h1' c h) rfl
    rw [vcells_append] at this ⊢
    exact this
  · simp only [Nat.zero_add, List.size_toArray, List.length_append, hl1, hl2, hll, hll', q2]
    rw [← Nat.add_mul, ← Nat.add_mul]
    exact Nat.mul_le_mul_right _ (by omega)
  · simp only [Gh.next, Gh.setU, if_true, Nat.zero_add]
    rw [vcells_length _ hsz]; simp [hll, hll']
/-- What is left after elements were laid behind a slice of the call's own. -/
theorem own_room {G : Gh} {w : World} {S : St} {a : Act} {k : Key} {g sz cap b off e' : Nat} {arr : Array Value} {l l' : List AV} {es es' : List Value} (hr : Rel G w S a) (hk0 : 0 < k.2) (hgg : G.gen k = g)
    (g2 : RepL G.U w l es) (g3 : ∀ e ∈ es, e.cells.size = sz) (g5 : Lies G.U w (some ⟨b, off, none⟩) (vcells es)) (o1 : G.ow k = some b) (o2 : w.heap[b]? = some (.cells arr e' (0, 0))) (o3 : off + cap * sz ≤ arr.size) (o4 : G.U b = off + l.length * sz) (o5 : e' + 1 = k.2)
    (hx : RepL G.U w l' es') (hu : Uni sz l') (hle : l.length + l'.length ≤ cap) :
    ∃ G', Step G w G' (w.setRow b (arr.toList.take (off + l.length * sz) ++ vcells es' ++ arr.toList.drop (off + l.length * sz + (vcells es').length)).toArray) ∧
      Rel G' (w.setRow b (arr.toList.take (off + l.length * sz) ++ vcells es' ++ arr.toList.drop (off + l.length * sz + (vcells es').length)).toArray) (S.next k) a ∧
      RepS G' (w.setRow b (arr.toList.take (off + l.length * sz) ++ vcells es' ++ arr.toList.drop (off + l.length * sz + (vcells es').length)).toArray) (.own k (g + 1) sz (l ++ l')) (.slice (some ⟨b, off, none⟩) (l.length + l'.length) cap) ∧ ∀ i, G'.ow (i, 0) = G.ow (i, 0) := by
  have hes' := hu.sizes hx
  have h1' := hx.cells hu
  have hkne : ∀ i : Nat, ((i, 0) : Key) ≠ k := by intro i he; rw [← he] at hk0; simp at hk0
  have hk2 : ∀ κ : Key, κ.2 = 0 → κ ≠ k := by intro κ h0 he; rw [he] at h0; omega
  have hl1 := vcells_length es g3
  have hl2 := vcells_length es' hes'
  have hll := g2.length
  have hll' := hx.length
  have hcellsOld : ∀ c ∈ vcells es, c.oneCell' = true := by
    rcases g5 with h | ⟨_, _, _, _, h3⟩
    · rw [h]; simp
    · intro c hc
      obtain ⟨j, hj⟩ := List.mem_iff_getElem?.1 hc
      exact (h3 j c hj).2
  have hsz : ∀ e ∈ es ++ es', e.cells.size = sz := by
    intro e he; rcases List.mem_append.1 he with h | h
    · exact g3 e h
    · exact hes' e h
  have hmul : (l.length + l'.length) * sz ≤ cap * sz := Nat.mul_le_mul_right _ hle
  rw [Nat.add_mul] at hmul
  obtain ⟨s1, s2, s3⟩ := step_room hr.wf hk0 o1 o2 (off + (l.length + l'.length) * sz) (by rw [o4, Nat.add_mul]; omega) (arr.toList.take (off + l.length * sz) ++ vcells es' ++ arr.toList.drop (off + l.length * sz + (vcells es').length)).toArray
    (fun j hj => by
      rw [o4] at hj
      have : j < (arr.toList.take (off + l.length * sz)).length := by simp; omega
      simp only [List.getElem?_toArray]
      rw [List.append_assoc, List.getElem?_append_left this, List.getElem?_take, if_pos hj]
      simp)
  refine ⟨_, s1, hr.nextTok s1.toExt s2 (fun κ h0 => s3 κ (hk2 κ h0)) (next_gen (G := G.setU _ _) hr.gn k _), ?_, fun i => by simp only [Gh.next, Gh.setU]; rw [if_neg (hkne i)]⟩
  refine ⟨hk0, by simp only [Gh.next, Gh.setU, if_true]; omega, some ⟨b, off, none⟩, cap, es ++ es', by simp, RepL.mono s1.U s1.imm _ _ (g2.append hx), hsz, by simpa using hle, by simp, by simp, ?_, fun _ => .inr ⟨b, off, _, e', rfl, by simp [Gh.next], setRow_heap w b arr _ e' _ o2, ?_, ?_, o5⟩⟩
  · rw [vcells_append]
    by_cases hzz : vcells es ++ vcells es' = []
    · exact .inl hzz
    · refine .inr ⟨b, off, rfl, ?_, fun j v hj => ⟨?_, ?_⟩⟩
      · simp only [Gh.next, Gh.setU, if_true, List.length_append, hl1, hl2, hll, hll', Nat.add_mul]; omega
      · simp only [World.cell?, setRow_heap w b arr _ e' _ o2]
        rcases Nat.lt_or_ge j (vcells es).length with hjl | hjl
        · rw [List.getElem?_append_left hjl] at hj
          have hold : w.cell? ⟨b, off + j, none⟩ = some v := by
            rcases g5 with h | ⟨b', off', q1, q2, q3⟩
            · rw [h] at hjl; simp at hjl
            · simp at q1; obtain ⟨rfl, rfl⟩ := q1; exact (q3 j v hj).1
          simp only [World.cell?, o2] at hold
          simp at hold
          have hlt : off + j < off + l.length * sz := by rw [hl1, hll] at hjl; omega
          have : off + j < (arr.toList.take (off + l.length * sz)).length := by simp; omega
          simp only [List.getElem?_toArray]
          rw [List.append_assoc, List.getElem?_append_left this, List.getElem?_take, if_pos hlt]
          simpa using hold
        · rw [List.getElem?_append_right hjl] at hj
          have htl : (arr.toList.take (off + l.length * sz)).length = off + l.length * sz := by simp; omega
          have hjj : j - (vcells es).length < (vcells es').length := by
            rcases Nat.lt_or_ge (j - (vcells es).length) (vcells es').length with h | h
            · exact h
            · simp [List.getElem?_eq_none h] at hj
          have hq : (vcells es).length = l.length * sz := by rw [hl1, hll]
          have hjj2 : off + j - (off + l.length * sz) < (vcells es').length := by omega
          simp only [List.getElem?_toArray]
          rw [List.append_assoc, List.getElem?_append_right (by rw [htl]; omega), htl, List.getElem?_append_left hjj2]
          rw [show off + j - (off + l.length * sz) = j - (vcells es).length by omega]
          simpa using hj
      · have := List.mem_of_getElem? hj
        rcases List.mem_append.1 this with h | h
        · exact hcellsOld v h
        · exact h1' v h
  · simp only [List.size_toArray, List.length_append, List.length_take, List.length_drop, Array.length_toList, hl2, hll']; omega
  · simp only [Gh.next, Gh.setU, if_true, List.length_append]
theorem splice_splice {α : Type} (A z x : List α) (p : Nat) (hp : p ≤ A.length) (hz : z.length = x.length) :
    (A.take p ++ z ++ A.drop (p + z.length)).take p ++ x ++ (A.take p ++ z ++ A.drop (p + z.length)).drop (p + x.length) = A.take p ++ x ++ A.drop (p + x.length) := by
  have htl : (A.take p).length = p := by simp; omega
  rw [List.append_assoc (A.take p) z, List.take_left' htl]
  congr 1
  have : p + x.length = (A.take p).length + z.length := by rw [htl, hz]
  rw [this, List.drop_append, List.drop_eq_nil_of_le (by omega), List.nil_append, Nat.add_sub_cancel_left, List.drop_left' rfl, htl]
/-- What append of a zero element and a store over it lead to. -/
def PushTo (P : Program) (G : Gh) (w : World) (S : St) (a : Act) (k : Key) (g sz : Nat) (l : List AV) (x : AV) (u v0 vx : Value) (ty t : TypeId) : Prop :=
  ∃ b off cap w1 arr1 arr2 e1 G', (Builtin.append_ #[t, t] ty #[u, v0]).run P w = .ok (.slice (some ⟨b, off, none⟩) (l.length + 1) cap) w1 ∧ w1.heap[b]? = some (.cells arr1 e1 (0, 0)) ∧
    (∀ W : World, W.heap[b]? = some (.cells arr1 e1 (0, 0)) → (storeCells ⟨b, off + l.length * sz, none⟩ vx.cells.toList).run P W = .ok () (W.setRow b arr2)) ∧ Step G w G' (w1.setRow b arr2) ∧ Rel G' (w1.setRow b arr2) (S.next k) a ∧
    RepS G' (w1.setRow b arr2) (.own k (g + 1) sz (l ++ [x])) (.slice (some ⟨b, off, none⟩) (l.length + 1) cap) ∧ (∀ i, G'.ow (i, 0) = G.ow (i, 0)) ∧ ∀ κ c, κ ≠ k → G.ow κ = some c → c ≠ b ∧ w1.heap[c]? = w.heap[c]?
/-- A zero element is appended and then written. -/
theorem push_own {t ty e : TypeId} {sz bt : Nat} {z : Value} (ht : tElem P t = some e) (h2 : notInt P t = true) (hi : tInfo P e = some (sz, bt, some z)) (hz : z.cells.size = sz) (hbt : 0 < bt)
    {G : Gh} {w : World} {S : St} {a : Act} {k : Key} {g : Nat} {l : List AV} {x0 x : AV} {u v0 vx : Value} {es0 : List Value} (hr : Rel G w S a) (hown : RepS G w (.own k g sz l) u) (hke : e + 1 = k.2) (hgen : S.gen k = g) (h0 : Src P w G.U sz v0 [x0] es0) (hu0 : Uni sz [x0])
    (hx : Rep G.U w x vx) (hux : Uni sz [x]) (hb : (l.length + 1) * bt ≤ 140737488355328) :
    PushTo P G w S a k g sz l x u v0 vx ty t := by
  obtain ⟨hk0, hgle, ad, cap, es, rfl, g2, g3, g4, gn, gsp, g5, g6⟩ := hown
  have hgg : G.gen k = g := by rw [hr.gn k]; exact hgen
  have g6 := g6 hgg
  have hes0 := hu0.sizes h0.rep
  have hrx : RepL G.U w [x] [vx] := by simp only [RepL]; exact ⟨vx, [], rfl, hx, rfl⟩
  have hvx := hux.sizes hrx
  have hcx := hrx.cells hux
  have hc0 := h0.rep.cells hu0
  have hl1 := vcells_length es g3
  have hl0 := vcells_length es0 hes0
  have hlx := vcells_length [vx] hvx
  have hll := g2.length
  have hll0 := h0.rep.length
  have e0 : es0.length = 1 := by simpa using hll0
  have hvv : vcells [vx] = vx.cells.toList := by simp [vcells]
  rw [e0] at hl0
  simp only [List.length_singleton] at hlx
  have hl0x : (vcells es0).length = (vcells [vx]).length := by omega
  have grow : cap < l.length + 1 → (ad = none → es = []) → PushTo P G w S a k g sz l x (.slice ad l.length cap) v0 vx ty t := by
    intro hlt hn
    obtain ⟨nc, rest, q1, q2, q3⟩ := run_append_grow (ty := ty) ht h2 hi hz hbt (w := w) (a := ad) (n := l.length) (cap := cap) (m := 1) (x := v0) (olds := vcells es) (news := vcells es0) (h0.len w rfl)
      (fun w' hw => first_of_lies g5 g3 hll hn w' hw) (fun w' hw => h0.cells w' hw) hlt hb
    obtain ⟨G', s1, s2, s3, s4⟩ := own_grown (rest := rest) (nc := nc) (cap := cap) hr hk0 hke hgg g2 g3 g5 hrx hux (by simpa using q1) (by simpa using q2)
    have htl : (vcells es).length = l.length * sz := by rw [hl1, hll]
    have hst : ∀ W : World, W.heap[w.heap.size]? = some (.cells (vcells es ++ vcells es0 ++ rest).toArray e (0, 0)) → (storeCells ⟨w.heap.size, 0 + l.length * sz, none⟩ vx.cells.toList).run P W = .ok () (W.setRow w.heap.size (vcells es ++ vcells [vx] ++ rest).toArray) := by
      intro W hW
      rw [Nat.zero_add]
      have hst := run_storeCells_at (P := P) w.heap.size (l.length * sz) e (vcells [vx]) 0 (vcells es ++ vcells es0 ++ rest).toArray W hW (by simp only [List.size_toArray, List.length_append, hl1, hll]; omega) hcx
      simp only [Nat.add_zero] at hst
      rw [hvv] at hst
      rw [hst]
      congr 3
      rw [hvv] at hl0x
      rw [List.append_assoc (vcells es), List.take_left' htl, hvv]
      congr 1
      rw [← htl, List.drop_append, List.drop_eq_nil_of_le (by omega), List.nil_append, Nat.add_sub_cancel_left, List.drop_left' hl0x]
    have hw : (w.drew.alloc (.cells (vcells es ++ vcells es0 ++ rest).toArray e)).setRow w.heap.size (vcells es ++ vcells [vx] ++ rest).toArray = w.drew.alloc (.cells (vcells es ++ vcells [vx] ++ rest).toArray e) := setRow_alloc w.drew _ _ e
    refine ⟨w.heap.size, 0, nc, _, _, (vcells es ++ vcells [vx] ++ rest).toArray, e, G', q3, heap_alloc_new w.drew _, hst, ?_, ?_, ?_, s4, fun κ c _ hκ => ?_⟩
    · rw [hw]; exact s1
    · rw [hw]; exact s2
    · rw [hw]; exact s3
    · have := hr.wf.lt κ c hκ
      exact ⟨by omega, heap_alloc_lt w.drew _ this⟩
  rcases g6 with rfl | ⟨b, off, arr, e', rfl, o1, o2, o3, o4, o5⟩
  · have hl00 : l.length = 0 := by omega
    have hes00 : es = [] := List.length_eq_zero_iff.1 (by omega)
    exact grow (by omega) (fun _ => hes00)
  · by_cases hle : l.length + 1 ≤ cap
    · have hmul : (l.length + 1) * sz ≤ cap * sz := Nat.mul_le_mul_right _ hle
      rw [Nat.add_mul] at hmul
      have hst := run_storeCells_at (P := P) b (off + l.length * sz) e' (vcells es0) 0 arr w o2 (by omega) hc0
      simp only [Nat.add_zero] at hst
      have hst2 : ∀ W : World, W.heap[b]? = some (.cells (arr.toList.take (off + l.length * sz) ++ vcells es0 ++ arr.toList.drop (off + l.length * sz + (vcells es0).length)).toArray e' (0, 0)) →
          (storeCells ⟨b, off + l.length * sz, none⟩ vx.cells.toList).run P W = .ok () (W.setRow b (arr.toList.take (off + l.length * sz) ++ vcells [vx] ++ arr.toList.drop (off + l.length * sz + (vcells [vx]).length)).toArray) := by
        intro W hW
        have hst2 := run_storeCells_at (P := P) b (off + l.length * sz) e' (vcells [vx]) 0 (arr.toList.take (off + l.length * sz) ++ vcells es0 ++ arr.toList.drop (off + l.length * sz + (vcells es0).length)).toArray
          W hW (by simp only [List.size_toArray, List.length_append, List.length_take, List.length_drop, Array.length_toList]; omega) hcx
        simp only [Nat.add_zero] at hst2
        rw [hvv] at hst2 hl0x ⊢
        rw [hst2]
        congr 3
        have := splice_splice arr.toList (vcells es0) vx.cells.toList (off + l.length * sz) (by rw [show arr.toList.length = arr.size from Array.length_toList]; omega) hl0x
        simpa using this
      obtain ⟨G', s1, s2, s3, s4⟩ := own_room hr hk0 hgg g2 g3 g5 o1 o2 o3 o4 o5 hrx hux (by simpa using hle)
      refine ⟨b, off, cap, _, _, _, e', G', run_append_place (ty := ty) ht h2 hi (h0.len w rfl) (h0.cells w rfl) (by simpa using hle) hst, setRow_heap w b arr _ e' _ o2, hst2, ?_, ?_, ?_, s4, fun κ c hne hκ => ?_⟩
      · rw [setRow_setRow]; exact s1
      · rw [setRow_setRow]; exact s2
      · rw [setRow_setRow]; exact s3
      · have hcb : c ≠ b := fun he => hne (hr.wf.inj κ k b (he ▸ hκ) o1)
        exact ⟨hcb, setRow_other w b c _ hcb⟩
    · exact grow (by omega) (by simp)
end Go.Eng
namespace Go.Eng
variable {P : Program}
def WA (P : Program) (ops : Array Oper) (Q : St → Prop) (fuel : Nat) (listed : Array Bool) (S : St) : Prop :=
  ∀ (Q' : Exit → Act → World → Prop) (G : Gh) (w : World) (a : Act), Rel G w S a →
    (∀ S' G' a' w', Q S' → Step G w G' w' → Rel G' w' S' a' → (∀ i, 1000 ≤ i → G'.ow (i, 0) = G.ow (i, 0)) → Q' .normal a' w') → wpAny P .any ops Q' fuel listed a w
def upTo (sz n : Nat) : Array Bool := (Array.range sz).map (fun i => decide (i < n))
def headsA (ops : Array Oper) (n : Nat) : Nat → Array Bool → Bool
  | 0, listed => (List.range n).all (fun i => listed.getD i false)
  | f + 1, listed => !(Region.ready .any ops listed).isEmpty && (Region.ready .any ops listed).all (fun i => decide (i < n) && headsA ops n f (listed.setIfInBounds i true))
theorem upTo_eq {listed : Array Bool} {sz n : Nat} (hsz : listed.size = sz) (h1 : ∀ j, j < n → listed.getD j false = true) (h2 : ∀ j, n ≤ j → listed.getD j false = false) : listed = upTo sz n := by
  apply Array.ext
  · simp [upTo, hsz]
  · intro i hi hi'
    simp only [upTo, Array.getElem_map, Array.getElem_range]
    by_cases h : i < n
    · have := h1 i h
      simp only [Array.getD_eq_getD_getElem?, Array.getElem?_eq_getElem hi, Option.getD_some] at this
      rw [this]; simp [h]
    · have := h2 i (by omega)
      simp only [Array.getD_eq_getD_getElem?, Array.getElem?_eq_getElem hi, Option.getD_some] at this
      rw [this]; simp [h]
theorem W_head {id : Nat} {ops : Array Oper} {Q : Exit → St → Prop} {S Sc : St} (hm : P.follows .mixedOrders = true) (n : Nat) (v : Nat → SV) (d : Nat → Nat) (hB : headsA ops n n (Array.replicate ops.size false) = true)
    (hd : ∀ i, i < n → ∃ o, ops[i]? = some o ∧ o.dst = some (d i) ∧ o.guard = none) (hinj : ∀ i j, i < n → j < n → d i = d j → i = j) (hlt : ∀ i, i < n → d i < S.fr.length)
    (hop : ∀ i, i < n → ∀ o, ops[i]? = some o → ∀ S' : St, S'.bx = S.bx → S'.gn = S.gn → S'.fr.length = S.fr.length → (∀ e ∈ o.after, Region.binds .any e = true → e.on < n → S'.fr[d e.on]? = some (v e.on)) → (∀ t : Nat, (∀ j, j < n → t ≠ d j) → S'.fr[t]? = S.fr[t]?) →
      ∃ p : Prop, p ∧ astep P o S' = some ⟨p, v i, S'⟩)
    (hS1 : Sc.bx = S.bx) (hS2 : Sc.gn = S.gn) (hS3 : ∀ j, j < n → Sc.fr[d j]? = some (v j)) (hS4 : ∀ t : Nat, (∀ j, j < n → t ≠ d j) → Sc.fr[t]? = S.fr[t]?)
    (h : WA P ops (Q .normal) (ops.size - n) (upTo ops.size n) Sc) : W P (.region id ops true) Q S := by
  intro G0 w0 a0 hr0
  obtain ⟨hstep0, hr0'⟩ := hr0.draw
  apply wp_region_any hm
  have main : ∀ (f : Nat) (listed : Array Bool) (G : Gh) (w : World) (a : Act) (S' : St), headsA ops n f listed = true → listed.size = ops.size → (∀ j, n ≤ j → listed.getD j false = false) → S'.bx = S.bx → S'.gn = S.gn → S'.fr.length = S.fr.length →
      (∀ j, j < n → listed.getD j false = true → S'.fr[d j]? = some (v j)) → (∀ t : Nat, (∀ j, j < n → t ≠ d j) → S'.fr[t]? = S.fr[t]?) → Rel G w S' a → Step G0 w0 G w → (∀ i, 1000 ≤ i → G.ow (i, 0) = G0.ow (i, 0)) → wpAny P .any ops (lift Q G0 w0) (f + (ops.size - n)) listed a w := by
    intro f
    induction f with
    | zero =>
      intro listed G w a S' hb hsz hun h1 h2 h3 h4 h5 hr hst how
      simp only [headsA] at hb
      have hall' : ∀ j, j < n → listed.getD j false = true := fun j hj => List.all_eq_true.1 hb j (List.mem_range.2 hj)
      have hfr : S'.fr = Sc.fr := by
        apply List.ext_getElem?
        intro t
        by_cases ht : ∃ j, j < n ∧ t = d j
        · obtain ⟨j, hj, rfl⟩ := ht
          rw [h4 j hj (hall' j hj), hS3 j hj]
        · have ht' : ∀ j, j < n → t ≠ d j := fun j hj e => ht ⟨j, hj, e⟩
          rw [h5 t ht', hS4 t ht']
      have hSS : S' = Sc := by
        obtain ⟨f1, b1, g1⟩ := S'
        obtain ⟨f2, b2, g2⟩ := Sc
        simp only at hfr h1 h2 hS1 hS2
        rw [hfr, h1, h2, hS1, hS2]
      subst hSS
      rw [upTo_eq hsz hall' hun, Nat.zero_add]
      exact h (lift Q G0 w0) G w a hr (fun S2 G2 a2 w2 q1 q2 q3 q4 => ⟨S2, G2, q1, hst.trans q2, q3, fun i hi => (q4 i hi).trans (how i hi)⟩)
    | succ f ih =>
      intro listed G w a S' hb hsz hun0 h1 h2 h3 h4 h5 hr hst how
      simp only [headsA, Bool.and_eq_true, Bool.not_eq_true', List.isEmpty_eq_false_iff] at hb
      obtain ⟨hne, hall⟩ := hb
      rw [show f + 1 + (ops.size - n) = (f + (ops.size - n)) + 1 by omega]
      refine ⟨fun h0 => absurd h0 hne, fun i hi => ?_⟩
      have hi2 := List.all_eq_true.1 hall i hi
      simp only [Bool.and_eq_true, decide_eq_true_eq] at hi2
      obtain ⟨hin, hbi⟩ := hi2
      obtain ⟨hun, o, ho, hdep⟩ := mem_ready.1 hi
      obtain ⟨o', ho', hdst, hg⟩ := hd i hin
      have : o' = o := Option.some.inj (ho'.symm.trans ho)
      subst this
      obtain ⟨p, hp, hast⟩ := hop i hin o' ho S' h1 h2 h3 (fun e he hbe hen => h4 e.on hen (hdep e he hbe)) h5
      obtain ⟨nx, u, w', G', x1, x2, x3, x4, x5, x6⟩ := astep_sound hast hp G w a hr
      unfold wpOp
      simp only [ho]
      rw [if_pos (wanted_none hg a)]
      refine .inl ?_
      have hlisted : i < listed.size := by rw [hsz]; exact (Array.getElem?_eq_some_iff.1 ho).1
      have next : ∀ u, RepS G' w' (v i) u → wpAny P .any ops (lift Q G0 w0) (f + (ops.size - n)) (listed.setIfInBounds i true) (a.put o'.dst u) w' := by
        intro u hu
        refine ih _ G' w' _ (S'.put (some (d i)) (v i)) hbi (by simp [hsz]) (fun j hj => ?_) h1 h2 (by simp [St.put, h3]) (fun j hj hl => ?_) (fun t ht => ?_) (by rw [hdst]; exact x4.put (some (d i)) hu) (hst.trans x3) (fun i hi => (x6 i hi).trans (how i hi))
        · have hq := hun0 j hj
          simp only [Array.getD_eq_getD_getElem?] at hq ⊢
          rw [Array.getElem?_setIfInBounds_ne (by omega)]
          exact hq
        · simp only [St.put, List.getElem?_set]
          by_cases hji : d i = d j
          · have := hinj i j hin hj hji
            subst this
            rw [if_pos rfl, if_pos (by rw [h3]; exact hlt i hin)]
          · rw [if_neg hji]
            refine h4 j hj ?_
            have hij : i ≠ j := fun e => hji (by rw [e])
            rw [← hl]
            simp only [Array.getD_eq_getD_getElem?]
            rw [Array.getElem?_setIfInBounds_ne hij]
        · simp only [St.put, List.getElem?_set]
          rw [if_neg (fun e => ht i hin e.symm)]
          exact h5 t ht
      unfold Oper.wp
      rw [x1]
      rcases x2 with rfl | ⟨rfl, rfl⟩
      · rw [Oper.upon_value]; exact next _ x5
      · rw [Oper.upon_skip]; exact next _ x5
  by_cases hle : n ≤ ops.size
  · have := main n (Array.replicate ops.size false) G0 _ a0 S hB (by simp) (fun j _ => getD_replicate_false _ _) rfl rfl rfl (fun j _ hl => by rw [getD_replicate_false] at hl; cases hl) (fun _ _ => rfl) hr0' hstep0 (fun _ _ => rfl)
    rwa [show n + (ops.size - n) = ops.size by omega] at this
  · obtain ⟨o, ho, _⟩ := hd ops.size (by omega)
    simp at ho
section
variable {ops : Array Oper} {Q : Exit → Act → World → Prop}
theorem op_value {i : Nat} {o : Oper} {K : Act → World → Prop} {a : Act} {w w' : World} {v : Value} (ho : ops[i]? = some o) (hg : o.guard = none) (hx : (execOp a.eval o).run P w = .ok (.value v) w') (h : K (a.put o.dst v) w') : wpOp P ops Q i K a w := by
  unfold wpOp
  simp only [ho]
  rw [if_pos (wanted_none hg a)]
  refine .inl ?_
  unfold Oper.wp
  rw [hx, Oper.upon_value]; exact h
theorem op_skip {i : Nat} {o : Oper} {K : Act → World → Prop} {a : Act} {w w' : World} (ho : ops[i]? = some o) (hg : o.guard = none) (hd : o.dst = none) (hx : (execOp a.eval o).run P w = .ok .skip w') (h : K a w') : wpOp P ops Q i K a w := by
  unfold wpOp
  simp only [ho]
  rw [if_pos (wanted_none hg a)]
  refine .inl ?_
  unfold Oper.wp
  rw [hx, Oper.upon_skip, hd]; exact h
theorem any_one {L : Array Bool} {i f : Nat} {a : Act} {w : World} (hr : Region.ready .any ops L = [i]) (h : wpOp P ops Q i (wpAny P .any ops Q f (L.setIfInBounds i true)) a w) : wpAny P .any ops Q (f + 1) L a w :=
  ⟨fun h0 => (by rw [hr] at h0; cases h0), fun j hj => (by
    rw [hr] at hj
    obtain rfl : j = i := by simpa using hj
    exact h)⟩
theorem any_two {L : Array Bool} {i j f : Nat} {a : Act} {w : World} (hr : Region.ready .any ops L = [i, j]) (h1 : wpOp P ops Q i (wpAny P .any ops Q f (L.setIfInBounds i true)) a w) (h2 : wpOp P ops Q j (wpAny P .any ops Q f (L.setIfInBounds j true)) a w) : wpAny P .any ops Q (f + 1) L a w :=
  ⟨fun h0 => (by rw [hr] at h0; cases h0), fun k hk => by
    rw [hr] at hk
    simp only [List.mem_cons, List.not_mem_nil, or_false] at hk
    rcases hk with rfl | rfl
    · exact h1
    · exact h2⟩
end
theorem setRow_comm (w : World) {b c : Nat} (h : b ≠ c) (x y : Array Value) : (w.setRow b x).setRow c y = (w.setRow c y).setRow b x := by
  have he : ((w.setRow b x).setRow c y).heap = ((w.setRow c y).setRow b x).heap := by
    apply Array.ext_getElem?
    intro i
    simp only [World.setRow, Array.getElem?_modify]
    by_cases h1 : b = i <;> by_cases h2 : c = i
    · exact (h (h1.trans h2.symm)).elim
    · simp [h1, h2]
    · simp [h1, h2]
    · simp [h1, h2]
  exact congrArg (fun h => ({ w with heap := h } : World)) he
/-- The orders in which the idiom comes. -/
def pushB (ops : Array Oper) (n : Nat) (L : Array Bool) : Bool :=
  let s := fun (L : Array Bool) (i : Nat) => L.setIfInBounds i true
  decide (Region.ready .any ops L = [n]) && decide (Region.ready .any ops (s L n) = [n + 1, n + 3]) && decide (Region.ready .any ops (s (s L n) (n + 1)) = [n + 2, n + 3]) && decide (Region.ready .any ops (s (s (s L n) (n + 1)) (n + 2)) = [n + 3]) &&
  decide (Region.ready .any ops (s (s L n) (n + 3)) = [n + 1]) && decide (Region.ready .any ops (s (s (s L n) (n + 3)) (n + 1)) = [n + 2]) && decide (Region.ready .any ops (s (s (s L n) (n + 1)) (n + 3)) = [n + 2]) &&
  decide (Region.ready .any ops (s (s (s (s L n) (n + 1)) (n + 2)) (n + 3)) = []) && decide (Region.ready .any ops (s (s (s (s L n) (n + 3)) (n + 1)) (n + 2)) = []) && decide (Region.ready .any ops (s (s (s (s L n) (n + 1)) (n + 3)) (n + 2)) = [])
theorem WA_push {ops : Array Oper} {o4 o5 o6 o7 : Oper} {Q : St → Prop} {S : St} {n : Nat} {L : Array Bool} {t e T T7 ty : TypeId} {sz bt bt' bt7 : Nat} {z : Value} {z' z7 : Option Value} {k : Key} {g d4 d5 p1 bid : Nat} {l : List AV} {x0 x : AV} {s0 : SV} {A B C X : Operand}
    (hB : pushB ops n L = true) (hi4 : ops[n]? = some o4) (hi5 : ops[n + 1]? = some o5) (hi6 : ops[n + 2]? = some o6) (hi7 : ops[n + 3]? = some o7)
    (ho4 : o4.op = .call { callee := .builtin .append, args := #[A, B], argTypes := #[t, t] }) (hd4 : o4.dst = some d4) (hg4 : o4.guard = none) (ho5 : o5.op = .indexAddr t (.tmp d4) C) (hd5 : o5.dst = some d5) (hg5 : o5.guard = none) (ho6 : o6.op = .store T (.tmp d5) X) (hd6 : o6.dst = none) (hg6 : o6.guard = none)
    (ho7 : o7.op = .store T7 (.tmp p1) (.tmp d4)) (hd7 : o7.dst = none) (hg7 : o7.guard = none)
    (hA : S.ev A = .own k g sz l) (hBv : S.ev B = .av (.sl [x0])) (hC : S.ev C = .av (.val (.int .i64 l.length))) (hX : (S.ev X).toAV = some x) (hP : S.ev (.tmp p1) = .ptr bid 0) (hbx : S.bx.lookup bid = some (.cells ty [s0]))
    (hC4 : C ≠ .tmp d4) (hX4 : X ≠ .tmp d4) (hX5 : X ≠ .tmp d5) (hp4 : p1 ≠ d4) (hp5 : p1 ≠ d5) (hne : d4 ≠ d5) (hl4 : d4 < S.fr.length) (hl5 : d5 < S.fr.length)
    (ht : tElem P t = some e) (h2 : notInt P t = true) (hi : tInfo P e = some (sz, bt, some z)) (hT : tInfo P T = some (sz, bt', z')) (hT7 : tInfo P T7 = some (1, bt7, z7)) (hz : z.cells.size = sz) (hbt : 0 < bt) (hke : e + 1 = k.2) (hgen : S.gen k = g) (hu0 : Uni sz [x0]) (hux : Uni sz [x]) (hb : (l.length + 1) * bt ≤ 140737488355328)
    (h : Q ((((S.next k).put (some d4) (.own k (g + 1) sz (l ++ [x]))).put (some d5) .junk).setBox bid (.cells ty [.own k (g + 1) sz (l ++ [x])]))) : WA P ops Q 4 L S := by
  intro Q' G w a hr hq
  simp only [pushB, Bool.and_eq_true, decide_eq_true_eq] at hB
  obtain ⟨⟨⟨⟨⟨⟨⟨⟨⟨b1, b2⟩, b3⟩, b4⟩, b5⟩, b6⟩, b7⟩, b8⟩, b9⟩, b10⟩ := hB
  have ht' : P.underlying t = some (.slice e) := by
    unfold tElem at ht; split at ht
    · rename_i hh; simp at ht; subst ht; exact hh
    · simp at ht
  have hrA := hr.ev A; rw [hA] at hrA
  have hrB := hr.ev B; rw [hBv] at hrB
  have hrC := hr.ev C; rw [hC] at hrC
  simp only [RepS, Rep] at hrC
  have hrP := hr.ev (.tmp p1); rw [hP] at hrP
  obtain ⟨bx, hbx1, hbx2⟩ := hrP
  obtain ⟨bx', arrb, q1, q2, q3, q4, q5⟩ := hr.bx _ (lookup_mem hbx)
  simp only at q1
  rw [hbx1] at q1; simp only [Option.some.injEq] at q1; subst q1
  have hrX := (hr.ev X).toAV hX
  obtain ⟨es0, hs0⟩ := src_sl (P := P) (x := a.eval B) hrB hu0
  obtain ⟨b, off, cap, w1, arr1, arr2, e1, G', r1, r0, r2, s1, s2, s3, s4, s5⟩ := push_own (ty := o4.type) ht h2 hi hz hbt hr hrA hke hgen hs0 hu0 hrX hux hb
  obtain ⟨c1, c2⟩ := s5 (bid, 0) bx (by intro e; rw [← e] at hke; simp at hke) hbx1
  have hheapx : w1.heap[bx]? = some (.cells arrb ty (0, 0)) := by rw [c2]; exact q2
  have hsz : a.tmps.size = S.fr.length := hr.size.symm
  have evne : ∀ (a' : Act) (y : Operand) (v : Value) (d : Nat), y ≠ .tmp d → (a'.put (some d) v).eval y = a'.eval y := by
    intro a' y v d hy
    cases y with
    | tmp t' =>
      have : t' ≠ d := fun e => hy (by rw [e])
      simp only [Act.eval, Act.put, Array.getD_eq_getD_getElem?]
      rw [Array.getElem?_setIfInBounds_ne (Ne.symm this)]
    | _ => rfl
  have eveq : ∀ (a' : Act) (v : Value) (d : Nat), d < a'.tmps.size → (a'.put (some d) v).eval (.tmp d) = v := by
    intro a' v d hd
    simp only [Act.eval, Act.put, Array.getD_eq_getD_getElem?]
    rw [Array.getElem?_setIfInBounds_self_of_lt hd]; rfl
  obtain ⟨u1, hu1⟩ : ∃ u1, u1 = Value.slice (some ⟨b, off, none⟩) (l.length + 1) cap := ⟨_, rfl⟩
  obtain ⟨pt, hpt⟩ : ∃ pt, pt = Value.pointer (some ⟨b, off + l.length * sz, none⟩) := ⟨_, rfl⟩
  have x4 : (execOp a.eval o4).run P w = .ok (.value u1) w1 := by
    obtain ⟨c, hc⟩ := exec_builtin (P := P) (a := a) ho4 w
    rw [hc, hu1]; simp [builtin, r1]
  have hs4 : d4 < a.tmps.size := by omega
  have hs5 : d5 < (a.put (some d4) u1).tmps.size := by simp only [Act.put, Array.size_setIfInBounds]; omega
  have x5 : ∀ W, (execOp (a.put (some d4) u1).eval o5).run P W = .ok (.value pt) W := by
    intro W
    have hlt' : ((l.length : Nat) : Int) < ((l.length : Nat) : Int) + 1 := by omega
    have ev4 : (a.put (some d4) u1).eval (.tmp d4) = .slice (some ⟨b, off, none⟩) (l.length + 1) cap := by rw [eveq _ _ _ hs4, hu1]
    rw [hpt]
    simp [execOp, ho5, ev4, evne _ C _ d4 hC4, hrC.1, Instr.indexAt, asIntOf, run_underlying' ht', run_sizeOf' hi, addr_add, hlt']
  have hcs : (a.eval X).cells.size = sz := by
    have := hux.sizes (show RepL G.U w [x] [a.eval X] by simp only [RepL]; exact ⟨_, [], rfl, hrX, rfl⟩)
    exact this _ (by simp)
  have x6 : ∀ W : World, W.heap[b]? = some (.cells arr1 e1 (0, 0)) → (execOp ((a.put (some d4) u1).put (some d5) pt).eval o6).run P W = .ok .skip (W.setRow b arr2) := by
    intro W hW
    have ev5 : ((a.put (some d4) u1).put (some d5) pt).eval (.tmp d5) = .pointer (some ⟨b, off + l.length * sz, none⟩) := by rw [eveq _ _ _ hs5, hpt]
    simp [execOp, ho6, ev5, evne _ X _ _ hX5, evne _ X _ _ hX4, Instr.storeAt, Instr.sureAddr, storeVar, run_sizeOf' hT, hcs, r2 W hW]
  have hone : u1.oneCell' = true := by rw [hu1]; rfl
  have hcell : u1.cells = #[u1] := by rw [hu1]; rfl
  have hal : arrb.size = 1 := by simpa using q4.length
  have x7' : ∀ W : World, W.heap[bx]? = some (.cells arrb ty (0, 0)) → (storeCells ⟨bx, 0, none⟩ [u1]).run P W = .ok () (W.setRow bx (arrb.toList.take 0 ++ [u1] ++ arrb.toList.drop (0 + 1)).toArray) := by
    intro W hW
    have := run_storeCells_at (P := P) bx 0 ty [u1] 0 arrb W hW (by simp; omega) (by simpa using hone)
    simpa using this
  have x7 : ∀ (a' : Act) (W : World), a'.eval (.tmp p1) = .pointer (some ⟨bx, 0, none⟩) → a'.eval (.tmp d4) = u1 → W.heap[bx]? = some (.cells arrb ty (0, 0)) → (execOp a'.eval o7).run P W = .ok .skip (W.setRow bx (arrb.toList.take 0 ++ [u1] ++ arrb.toList.drop (0 + 1)).toArray) := by
    intro a' W e1 e2 hW
    have hc1 : u1.cells.size = 1 := by rw [hcell]; rfl
    have hc2 : u1.cells.toList = [u1] := by rw [hcell]
    have := x7' W hW
    simp [execOp, ho7, e1, e2, Instr.storeAt, Instr.sureAddr, storeVar, run_sizeOf' hT7, hc1, hc2, this] at this ⊢
  have evp1 : (a.put (some d4) u1).eval (.tmp p1) = .pointer (some ⟨bx, 0, none⟩) := by
    rw [evne _ (.tmp p1) _ _ (by simpa using hp4)]; exact hbx2
  have evp2 : ((a.put (some d4) u1).put (some d5) pt).eval (.tmp p1) = .pointer (some ⟨bx, 0, none⟩) := by
    rw [evne _ (.tmp p1) _ _ (by simpa using hp5)]; exact evp1
  have evd1 : (a.put (some d4) u1).eval (.tmp d4) = u1 := eveq _ _ _ hs4
  have evd2 : ((a.put (some d4) u1).put (some d5) pt).eval (.tmp d4) = u1 := by
    rw [evne _ (.tmp d4) _ _ (by simpa using hne)]; exact evd1
  -- the end
  have s3' : RepS G' (w1.setRow b arr2) (.own k (g + 1) sz (l ++ [x])) u1 := by rw [hu1]; exact s3
  have hfin0 : Rel G' (w1.setRow b arr2) (((S.next k).put (some d4) (.own k (g + 1) sz (l ++ [x]))).put (some d5) .junk) ((a.put (some d4) u1).put (some d5) pt) := (s2.put (some d4) s3').put (some d5) trivial
  have hx2 : (w1.setRow b arr2).heap[bx]? = some (.cells arrb ty (0, 0)) := by rw [setRow_other _ _ _ _ c1]; exact hheapx
  obtain ⟨w3, y1, y2, y3⟩ := hfin0.storeBox (b := bid) (ty := ty) (l := [s0]) (by simpa [St.put, St.next] using hbx) (by rw [s4]; exact hbx1) 0 (xs := [.own k (g + 1) sz (l ++ [x])]) (vs := [u1]) ⟨u1, [], rfl, s3', rfl⟩ (by simpa using hone) (by simp)
  have hw3 : w3 = (w1.setRow b arr2).setRow bx (arrb.toList.take 0 ++ [u1] ++ arrb.toList.drop (0 + 1)).toArray := by
    have := (y1 P).symm.trans (x7' _ hx2)
    simpa using this
  have fin : Q' .normal ((a.put (some d4) u1).put (some d5) pt) w3 := hq _ G' _ w3 (by simpa using h) (s1.trans y2) y3 (fun i _ => s4 i)
  have hcomm : ((w1.setRow bx (arrb.toList.take 0 ++ [u1] ++ arrb.toList.drop (0 + 1)).toArray).setRow b arr2) = w3 := by rw [hw3]; exact setRow_comm w1 c1 _ _
  have hb1 : (w1.setRow bx (arrb.toList.take 0 ++ [u1] ++ arrb.toList.drop (0 + 1)).toArray).heap[b]? = some (.cells arr1 e1 (0, 0)) := by rw [setRow_other _ _ _ _ (Ne.symm c1)]; exact r0
  refine any_one b1 (op_value hi4 hg4 x4 ?_)
  rw [hd4]
  refine any_two b2 (op_value hi5 hg5 (x5 w1) ?_) (op_skip hi7 hg7 hd7 (x7 _ w1 evp1 evd1 hheapx) ?_)
  · rw [hd5]
    refine any_two b3 (op_skip hi6 hg6 hd6 (x6 w1 r0) ?_) (op_skip hi7 hg7 hd7 (x7 _ w1 evp2 evd2 hheapx) ?_)
    · refine any_one b4 (op_skip hi7 hg7 hd7 (x7 _ _ evp2 evd2 hx2) ?_)
      rw [← hw3]
      exact ⟨b8, fin⟩
    · refine any_one b7 (op_skip hi6 hg6 hd6 (x6 _ hb1) ?_)
      rw [hcomm]
      exact ⟨b10, fin⟩
  · refine any_one b5 (op_value hi5 hg5 (x5 _) ?_)
    rw [hd5]
    refine any_one b6 (op_skip hi6 hg6 hd6 (x6 _ hb1) ?_)
    rw [hcomm]
    exact ⟨b9, fin⟩
end Go.Eng
namespace Go.Proofs.YtcdfhagcchmnhaaGreatDoor
open Go Go.Eng
theorem uni_strs (l : List ByteArray) : Uni 1 (l.map strAV) := by
  intro x hx
  obtain ⟨s, _, rfl⟩ := List.mem_map.1 hx
  exact ⟨rfl, rfl⟩
set_option maxRecDepth 100000 in
theorem clnS_to (l : List ByteArray) (h : l.length ≤ 1073741824) : CallTo Tryz.prog 51 [(jL (l.map strAV))] [] [] (jL (l.map strAV)) [] [] :=
  clone_to (t := 34) (e := 9) (sz := 1) (bt := 16) (z := .string ⟨#[]⟩) Tryz.func51 (Eq.refl Tryz.f51.body) (by kernel_rfl) (by kernel_rfl) (by kernel_rfl) ⟨rfl, rfl, rfl⟩ ⟨rfl, rfl, rfl⟩ ⟨rfl, rfl, rfl⟩ ⟨rfl, rfl, rfl⟩ ⟨rfl, rfl, rfl⟩ ⟨rfl, rfl, rfl⟩ ⟨rfl, rfl, rfl⟩ ⟨rfl, rfl, rfl⟩ (by kernel_rfl) (by kernel_rfl) (by kernel_rfl) (by decide) (l.map strAV) (uni_strs l) (by rw [List.length_map]; omega)
set_option maxRecDepth 100000 in
theorem clnC_to (l : List DCited) (h : l.length ≤ 1073741824) : CallTo Tryz.prog 52 [(jL (l.map aCited))] [] [] (jL (l.map aCited)) [] [] :=
  clone_to (t := 46) (e := 98) (sz := 4) (bt := 56) (z := .agg #[.string ⟨#[]⟩, .string ⟨#[]⟩, .string ⟨#[]⟩, .bool false]) Tryz.func52 (Eq.refl Tryz.f52.body) (by kernel_rfl) (by kernel_rfl) (by kernel_rfl) ⟨rfl, rfl, rfl⟩ ⟨rfl, rfl, rfl⟩ ⟨rfl, rfl, rfl⟩ ⟨rfl, rfl, rfl⟩ ⟨rfl, rfl, rfl⟩ ⟨rfl, rfl, rfl⟩ ⟨rfl, rfl, rfl⟩ ⟨rfl, rfl, rfl⟩ (by kernel_rfl) (by kernel_rfl) (by kernel_rfl) (by decide) (l.map aCited) (uni_aCited l) (by rw [List.length_map]; omega)
set_option maxRecDepth 100000 in
theorem clnP_to (l : List DPair) (h : l.length ≤ 1073741824) : CallTo Tryz.prog 74 [(jL (l.map aPair))] [] [] (jL (l.map aPair)) [] [] :=
  clone_to (t := 22) (e := 54) (sz := 2) (bt := 32) (z := .agg #[.string ⟨#[]⟩, .string ⟨#[]⟩]) Tryz.func74 (Eq.refl Tryz.f74.body) (by kernel_rfl) (by kernel_rfl) (by kernel_rfl) ⟨rfl, rfl, rfl⟩ ⟨rfl, rfl, rfl⟩ ⟨rfl, rfl, rfl⟩ ⟨rfl, rfl, rfl⟩ ⟨rfl, rfl, rfl⟩ ⟨rfl, rfl, rfl⟩ ⟨rfl, rfl, rfl⟩ ⟨rfl, rfl, rfl⟩ (by kernel_rfl) (by kernel_rfl) (by kernel_rfl) (by decide) (l.map aPair) (uni_aPair l) (by rw [List.length_map]; omega)
def cpyT (a : DAttr) : DAttr := a
set_option maxRecDepth 100000 in
set_option maxHeartbeats 4000000 in
theorem cpyT_to (a : DAttr) (ha : wAttr a ≤ 1073741824) : CallTo Tryz.prog 50 [(.av (cAttr a))] [] [] (.av (cAttr (cpyT a))) [] [] := by
  have hwa := wAttr_eq a
  simp only [wStr] at hwa
  have hw_0 := wl_len (w := wStr) wStr_pos a.fClasses
  have hw_1 := wl_len (w := wPair) wPair_pos a.fPairs
  refine BEG (fun r : DAttr => (.av (cAttr r))) (cpyT a) Tryz.func50 (by kernel_rfl) ?_
  refine UF (cpyT.eq_1 ..) ?_
  refine GO (tn 4 (kc (clnS_to a.fClasses (by first | assumption | omega | decide | (simp; done) | (simp; omega))) (tn 4 (kc (clnP_to a.fPairs (by first | assumption | omega | decide | (simp; done) | (simp; omega))) (tn 4 z))))) (by kernel_rfl) ?_
  exact EN (by kernel_rfl)
end Go.Proofs.YtcdfhagcchmnhaaGreatDoor
namespace Go.Eng
variable {P : Program}
theorem BEGb {α : Type} (enc : α → SV) (M : α) {f : FuncId} {fn : Func} {args : List SV} {bx bx' : List (Nat × ABox)} {gn gn' : List (Key × Nat)} (hf : P.funcs[f]? = some fn) (hok : (fn.body.isSome && !(fn.name == "runtime.NumGoroutine") && decide (args.length ≤ fn.ntmps)) = true)
    (hids : ∀ p ∈ bx, 1000 ≤ p.1) (hgk : ∀ p ∈ gn, 1000 ≤ p.1.1 ∧ 0 < p.1.2) (hargs : ∀ s ∈ args, OkSV (bx.map (·.1)) gn s) (hbx : ∀ p ∈ bx, ∀ s ∈ p.2.svs, OkSV (bx.map (·.1)) gn s)
    (hres : OkSV (bx.map (·.1)) gn' (enc M)) (hbx' : ∀ p ∈ bx', ∀ s ∈ p.2.svs, OkSV (bx.map (·.1)) gn' s) (hsame : bx'.map (·.1) = bx.map (·.1)) (hgn' : gn'.map (·.1) = gn.map (·.1))
    (h : Nx P (KE P fn enc bx' gn') M (start (bodyOf fn) ⟨args ++ List.replicate (fn.ntmps - args.length) .junk, bx, gn⟩)) : CallTo P f args bx gn (enc M) bx' gn' := by
  simp only [Bool.and_eq_true, decide_eq_true_eq, Bool.not_eq_true'] at hok
  obtain ⟨⟨h1, h2⟩, h3⟩ := hok
  obtain ⟨c, hb⟩ := Option.isSome_iff_exists.1 h1
  have e : bodyOf fn = c := by simp [bodyOf, hb]
  refine CallTo_of_body hf hb h2 rfl h3 hids hgk hargs hbx hres hbx' hsame hgn' ?_
  rw [← e]; exact h.x
theorem ENb {α : Type} {fn : Func} {enc : α → SV} {M : α} {X : Cf} {bx' : List (Nat × ABox)} {gn' : List (Key × Nat)} (h : endOf P fn X = some (enc M)) (h3 : ∀ p ∈ bx', (stOf X).bx.lookup p.1 = some p.2) (h4 : ∀ p ∈ gn', (stOf X).gen p.1 = p.2) : Nx P (KE P fn enc bx' gn') M X := by
  unfold endOf at h
  split at h
  · exact ⟨ends (.inl rfl) h rfl h3 h4⟩
  · exact ⟨ends (.inr rfl) h rfl h3 h4⟩
  · simp at h
def atC (X : Cf) : Code := match X with
  | some (_, _, .at c _ _) => c
  | _ => .skip
def isAt (X : Cf) : Bool := match X with
  | some (_, _, .at _ _ _) => true
  | _ => false
def contX (P : Program) (X : Cf) (S2 : St) (ors : List Oq) : Cf := match X with
  | some (_, _, .at _ ks _) => goK P ks (some ([], ors, .fin .normal S2))
  | _ => none
theorem W_weakQ {c : Code} {S S2 : St} (h : W P c (fun e S1 => e = .normal ∧ Weak S1 S2) S) : W P c (fun e S1 => e = .normal ∧ S1 = S2) S :=
  fun G w a hr => wp_mono (h G w a hr) (fun e a' w' ⟨S1, G', ⟨he, hw⟩, h2, h3, h4⟩ => ⟨S2, G', ⟨he, rfl⟩, h2, hw G' w' a' h3, h4⟩)
theorem W_code {c c' : Code} {Q : Exit → St → Prop} {S : St} (h : c = c') (hw : W P c' Q S) : W P c Q S := by rw [h]; exact hw
/-- A piece of code that is told by hand. -/
theorem NXW {α : Type} {K : α → Exit → St → Prop} {M : α} {X : Cf} (S2 : St) (oc : OC) (hX : isAt X = true) (hW : W P (atC X) (fun e S1 => e = .normal ∧ Weak S1 S2) (stOf X)) (h : csOf (contX P X S2 oc.o) = some oc.c) (hn : Nx P K M (contX P X S2 oc.o)) : Nx P K M X := by
  unfold isAt at hX
  split at hX
  · rename_i c0 o0 c ks S
    obtain ⟨hn⟩ := hn
    simp only [contX] at h hn
    cases hk : goK P ks (some ([], oc.o, .fin .normal S2)) with
    | none => rw [hk] at h; simp [csOf] at h
    | some r =>
      obtain ⟨c2, o2, out2⟩ := r
      rw [hk] at h hn
      unfold csOf at h
      split at h
      · rename_i e
        simp only [Option.some.injEq, Prod.mk.injEq] at e h
        obtain ⟨rfl, rfl, rfl⟩ := e
        subst h
        obtain ⟨q1, q2⟩ := goK_sound (K M) ks _ _ _ _ _ _ hk (oc.h trivial) hn
        refine ⟨?_⟩
        exact W_mono (W_weakQ hW) (fun e S1 ⟨he, hs⟩ => by subst he hs; exact q2)
      · simp at h
  · simp at hX
theorem st_load {o : Oper} {S : St} {t ty : TypeId} {x : Operand} {b k : Nat} {l : List SV} {s : SV} (ho : o.op = .load t x) (hx : S.ev x = .ptr b k) (ht : tAgg P t = some false) (hb : S.bx.lookup b = some (.cells ty l)) (hs : l[k]? = some s) : astep P o S = some ⟨True, s, S⟩ := by
  unfold astep
  rw [ho]
  simp only [aLoad, ht, hx, hb, hs, Option.map_some]
theorem st_load_agg {o : Oper} {S : St} {t ty : TypeId} {sz bt : Nat} {z : Option Value} {x : Operand} {b k : Nat} {l : List SV} {r : List AV} (ho : o.op = .load t x) (hx : S.ev x = .ptr b k) (ht : tAgg P t = some true) (hi : tInfo P t = some (sz, bt, z)) (hb : S.bx.lookup b = some (.cells ty l))
    (h1 : ((l.drop k).take sz).any SV.isTok = false) (h2 : SV.allAV ((l.drop k).take sz) = some r) (h3 : r.length = sz) : astep P o S = some ⟨True, .av (.agg r), S⟩ := by
  unfold astep
  rw [ho]
  simp only [aLoad, ht, hi, hx, hb, h1, h2, h3, if_true]
theorem st_len {o : Oper} {S : St} {t : TypeId} {x : Operand} {k : Key} {g sz : Nat} {l : List AV} (ho : o.op = .call { callee := .builtin .len, args := #[x], argTypes := #[t] }) (hx : S.ev x = .own k g sz l) (ht : tSlice P t = true) : astep P o S = some ⟨True, .av (.val (.int .i64 l.length)), S⟩ := by
  unfold astep
  rw [ho]
  simp only [aBuiltin, aLen, hx, SV.toAV, ht, if_true]
theorem st_build {o : Oper} {S : St} {t e : TypeId} {sz bt : Nat} {z c : Value} {x : AV} (ho : o.op = .buildSlice t 1 #[(0, .const c)]) (ht : tElem P t = some e) (hi : tInfo P e = some (sz, bt, some z)) (hc : (constSV c).toAV = some x) (hsz : sz ≤ 16777216) : astep P o S = some ⟨Uni sz [x], .av (.sl [x]), S⟩ := by
  unfold astep
  rw [ho]
  have h1 : (S.ev (.const c)).toAV = some x := hc
  simp only [aBuildSlice, ht, hi, List.map_cons, List.map_nil, allAVop, h1]
  rw [if_pos ⟨rfl, by omega⟩]
end Go.Eng
namespace Go.Proofs.YtcdfhagcchmnhaaGreatDoor
open Go Go.Eng
theorem dpIN_fuel : ∀ (n m : Nat) (l : List DInline), wl wInline l < n → wl wInline l < m → dpIN n l = dpIN m l
  | 0, m, l, h, _ => by omega
  | n + 1, 0, l, _, h => by omega
  | n + 1, m + 1, l, h1, h2 => by
    rw [dpIN, dpIN, dpIS_eq, dpIS_eq]
    refine flat_eq (fun x hx => ?_)
    have h3 := wl_mem (w := wInline) hx
    have h4 := wInline_eq x
    rw [dpIN_fuel n m x.fKids (by omega) (by omega)]
theorem dpI_eq (l : List DInline) : dpI l = l.flatMap (fun x => x :: dpI x.fKids) := by
  show dpIN (wl wInline l + 1) l = _
  rw [dpIN, dpIS_eq]
  refine flat_eq (fun x hx => ?_)
  have h3 := wl_mem (w := wInline) hx
  have h4 := wInline_eq x
  rw [dpI, dpIN_fuel (wl wInline l) (wl wInline x.fKids + 1) x.fKids (by omega) (by omega)]
theorem take_succ_el {α : Type} [Inhabited α] {l : List α} {i : Nat} (h : i < l.length) : l.take (i + 1) = l.take i ++ [el l i] := by
  rw [List.take_add_one, List.getElem?_eq_getElem h]
  simp [el, h]
theorem dpI_take {l : List DInline} {i : Nat} (h : i < l.length) : dpI (l.take (i + 1)) = dpI (l.take i) ++ (el l i :: dpI (el l i).fKids) := by
  rw [dpI_eq (l.take (i + 1)), take_succ_el h, List.flatMap_append, ← dpI_eq]
  simp
theorem dpI_len (l : List DInline) (h : wl wInline l ≤ 1073741824) : (dpI l).length ≤ wl wInline l := dpI_bd l h
def bxI (g : Nat) (xs : List DInline) : List (Nat × ABox) := [(1000, .cells 42 [.own (1002, 49) g 10 (xs.map aInline)]), (1001, .cells 93 [.fn 49 [] [.ptr 1000 0, .ptr 1001 0]])]
def regAt (id : Nat) : Code → Option (Array Oper)
  | .region i ops _ => if i = id then some ops else none
  | .seq x y => (regAt id x).orElse (fun _ => regAt id y)
  | .cond _ x y => (regAt id x).orElse (fun _ => regAt id y)
  | .block _ c => regAt id c
  | .loop c => regAt id c
  | _ => none
noncomputable def R7 : Array Oper := (regAt 7 (bodyOf Tryz.f49)).getD #[]
noncomputable def o7 (i : Nat) : Oper := R7.getD i (R7.getD 0 default)
def zI : AV := .agg [vI 0, vS ⟨#[]⟩, vS ⟨#[]⟩, vS ⟨#[]⟩, vS ⟨#[]⟩, .sl [], .sl [], .sl [], .sl [], .sl []]
def c7 (x : DInline) : List SV := (cInline x).cells.map SV.av
def S7 (l : List DInline) (v8 : Nat) (q : Nat) (ys : List DInline) : St :=
  sx 41 [(0, (jL (l.map aInline))), (1, (.ptr 1000 0)), (2, (.ptr 1001 0)), (4, (jI (((v8 : Nat) : Int)))), (5, (.ptr 5 0)), (7, (jI (((lenM aInline l : Nat) : Int)))), (8, (jI (((v8 : Nat) : Int))))] ((5, .cells 48 (c7 (el l v8))) :: bxI q ys) [((1002, 49), q)]
def v7 (l : List DInline) (v8 : Nat) (q : Nat) (ys : List DInline) (i : Nat) : SV := match i with
  | 0 => .own (1002, 49) q 10 (ys.map aInline)
  | 1 => .av (cInline (el l v8))
  | 2 => .av (.val (.int .i64 (ys.map aInline).length))
  | _ => .av (.sl [zI])
theorem und41 : tElem Tryz.prog 42 = some 48 := by kernel_rfl
theorem inf50 : tInfo Tryz.prog 48 = some (10, 192, some (.agg #[.int .i64 0, .string ⟨#[]⟩, .string ⟨#[]⟩, .string ⟨#[]⟩, .string ⟨#[]⟩, .slice none 0 0, .slice none 0 0, .slice none 0 0, .slice none 0 0, .slice none 0 0])) := by kernel_rfl
set_option maxRecDepth 100000 in
set_option maxHeartbeats 4000000 in
theorem r7 (l : List DInline) (v8 : Nat) (q : Nat) (ys : List DInline) (hy : ys.length ≤ 4294967296) :
    W Tryz.prog (.region 7 R7 true) (fun e S1 => e = .normal ∧ Weak S1 (sx 41 [(0, (jL (l.map aInline))), (1, (.ptr 1000 0)), (2, (.ptr 1001 0)), (4, (jI (((v8 : Nat) : Int)))), (7, (jI (((lenM aInline l : Nat) : Int)))), (8, (jI (((v8 : Nat) : Int))))] (bxI (q + 1) (ys ++ [el l v8])) [((1002, 49), q + 1)])) (S7 l v8 q ys) := by
  have hl4 : (S7 l v8 q ys).fr.length = 41 := by kernel_rfl
  refine W_head (Sc := ((((S7 l v8 q ys).put (some 27) (v7 l v8 q ys 0)).put (some 28) (v7 l v8 q ys 1)).put (some 29) (v7 l v8 q ys 2)).put (some 30) (v7 l v8 q ys 3)) (by kernel_rfl) 4 (v7 l v8 q ys) (fun i => 27 + i) (by kernel_rfl) ?_ (fun i j _ _ h => by omega) (fun i hi => by rw [hl4]; omega) ?_ rfl rfl ?_ ?_ ?_
  · intro i hi
    match i, hi with
    | 0, _ => exact ⟨o7 0, by kernel_rfl, by kernel_rfl, by kernel_rfl⟩
    | 1, _ => exact ⟨o7 1, by kernel_rfl, by kernel_rfl, by kernel_rfl⟩
    | 2, _ => exact ⟨o7 2, by kernel_rfl, by kernel_rfl, by kernel_rfl⟩
    | 3, _ => exact ⟨o7 3, by kernel_rfl, by kernel_rfl, by kernel_rfl⟩
    | i + 4, h => exact absurd h (by omega)
  · intro i hi o ho S' hb hg hlen hdep hoth
    have hget : ∀ (t : Nat) (s : SV), (∀ j, j < 4 → t ≠ 27 + j) → (S7 l v8 q ys).fr[t]? = some s → S'.ev (.tmp t) = s := by
      intro t s h1 h2
      have := hoth t h1
      simp only [St.ev, List.getD_eq_getElem?_getD, this, h2, Option.getD_some]
    have e1 : S'.ev (.tmp 1) = .ptr 1000 0 := hget 1 _ (fun j _ => by omega) (by kernel_rfl)
    have e5 : S'.ev (.tmp 5) = .ptr 5 0 := hget 5 _ (fun j _ => by omega) (by kernel_rfl)
    have b1 : S'.bx.lookup 1000 = some (.cells 42 [.own (1002, 49) q 10 (ys.map aInline)]) := by rw [hb]; kernel_rfl
    have b5 : S'.bx.lookup 5 = some (.cells 48 (c7 (el l v8))) := by rw [hb]; kernel_rfl
    match i, hi with
    | 0, _ =>
      obtain rfl : o7 0 = o := Option.some.inj ((show R7[0]? = some (o7 0) by kernel_rfl).symm.trans ho)
      exact ⟨True, trivial, st_load (t := 42) (x := .tmp 1) (by kernel_rfl) e1 (by kernel_rfl) b1 rfl⟩
    | 1, _ =>
      obtain rfl : o7 1 = o := Option.some.inj ((show R7[1]? = some (o7 1) by kernel_rfl).symm.trans ho)
      exact ⟨True, trivial, st_load_agg (t := 48) (x := .tmp 5) (by kernel_rfl) e5 (by kernel_rfl) inf50 b5 (by kernel_rfl) (by kernel_rfl) (by kernel_rfl)⟩
    | 2, _ =>
      obtain rfl : o7 2 = o := Option.some.inj ((show R7[2]? = some (o7 2) by kernel_rfl).symm.trans ho)
      have e27 : S'.ev (.tmp 27) = .own (1002, 49) q 10 (ys.map aInline) := by
        have this : S'.fr[27]? = some (.own (1002, 49) q 10 (ys.map aInline)) := hdep ⟨0, .data⟩ (by show _ ∈ (o7 2).after; rw [show (o7 2).after = #[⟨0, .data⟩] by kernel_rfl]; simp) rfl (by decide)
        simp only [St.ev, List.getD_eq_getElem?_getD, this, Option.getD_some]
      exact ⟨True, trivial, st_len (t := 42) (x := .tmp 27) (by kernel_rfl) e27 (by kernel_rfl)⟩
    | 3, _ =>
      obtain rfl : o7 3 = o := Option.some.inj ((show R7[3]? = some (o7 3) by kernel_rfl).symm.trans ho)
      exact ⟨Uni 10 [zI], uni_one rfl rfl, st_build (t := 42) (c := .agg #[.int .i64 0, .string ⟨#[]⟩, .string ⟨#[]⟩, .string ⟨#[]⟩, .string ⟨#[]⟩, .slice none 0 0, .slice none 0 0, .slice none 0 0, .slice none 0 0, .slice none 0 0]) (by kernel_rfl) und41 inf50 (by kernel_rfl) (by decide)⟩
    | i + 4, h => exact absurd h (by omega)
  · intro j hj
    match j, hj with
    | 0, _ => rfl
    | 1, _ => rfl
    | 2, _ => rfl
    | 3, _ => rfl
    | j + 4, h => exact absurd h (by omega)
  · intro t ht
    simp only [St.put, List.getElem?_set]
    rw [if_neg (fun e => ht 3 (by omega) e.symm), if_neg (fun e => ht 2 (by omega) e.symm), if_neg (fun e => ht 1 (by omega) e.symm), if_neg (fun e => ht 0 (by omega) e.symm)]
  · refine WA_push (n := 4) (o4 := o7 4) (o5 := o7 5) (o6 := o7 6) (o7 := o7 7) (t := 42) (e := 48) (T := 48) (T7 := 42) (ty := 42) (sz := 10) (k := (1002, 49)) (g := q) (d4 := 31) (d5 := 32) (p1 := 1) (bid := 1000) (s0 := .own (1002, 49) q 10 (ys.map aInline)) (bt7 := 24) (z7 := some (.slice none 0 0)) (l := ys.map aInline) (x0 := zI) (x := cInline (el l v8)) (A := .tmp 27) (B := .tmp 30) (C := .tmp 29) (X := .tmp 28)
      (by kernel_rfl) (by kernel_rfl) (by kernel_rfl) (by kernel_rfl) (by kernel_rfl) (by kernel_rfl) (by kernel_rfl) (by kernel_rfl) (by kernel_rfl) (by kernel_rfl) (by kernel_rfl) (by kernel_rfl) (by kernel_rfl) (by kernel_rfl) (by kernel_rfl) (by kernel_rfl) (by kernel_rfl)
      (by kernel_rfl) (by kernel_rfl) (by kernel_rfl) (by kernel_rfl) (by kernel_rfl) (by kernel_rfl) (by intro h; cases h) (by intro h; cases h) (by intro h; cases h) (by decide) (by decide) (by decide) (of_decide_eq_true (by kernel_rfl)) (of_decide_eq_true (by kernel_rfl))
      und41 (by kernel_rfl) inf50 inf50 (by kernel_rfl) (by kernel_rfl) (by decide) rfl (by kernel_rfl) (uni_one rfl rfl) (uni_one rfl rfl) (by rw [List.length_map]; omega) ?_
    refine ⟨rfl, ?_⟩
    have e := ap1_aInline ys (el l v8)
    rw [e]
    exact WK (by kernel_rfl)
set_option maxRecDepth 100000 in
set_option maxHeartbeats 4000000 in
theorem inl_st (l : List DInline) (hl : wl wInline l ≤ 1073741824) (g : Nat) (xs : List DInline) (hx : xs.length + wl wInline l ≤ 4294967296)
    (hrec : ∀ l' : List DInline, wl wInline l' < wl wInline l → wl wInline l' ≤ 1073741824 → ∀ (g : Nat) (xs : List DInline), xs.length + wl wInline l' ≤ 4294967296 →
      CallTo Tryz.prog 49 [jL (l'.map aInline), .ptr 1000 0, .ptr 1001 0] (bxI g xs) [((1002, 49), g)] undefS (bxI (g + (dpI l').length) (xs ++ dpI l')) [((1002, 49), g + (dpI l').length)]) :
    CallTo Tryz.prog 49 [jL (l.map aInline), .ptr 1000 0, .ptr 1001 0] (bxI g xs) [((1002, 49), g)] undefS (bxI (g + (dpI l).length) (xs ++ dpI l)) [((1002, 49), g + (dpI l).length)] := by
  have hwl := wl_len (w := wInline) wInline_pos l
  refine BEGb (fun _ : Unit => undefS) () Tryz.func49 (by kernel_rfl) (by simp [bxI]) (by simp) (by simp [OkSV, SV.keys, bxI]) (by simp [OkSV, SV.keys, PV.keys, bxI, ABox.svs, List.lookup]; omega) (by simp [OkSV, SV.keys, undefS]) (by simp [OkSV, SV.keys, PV.keys, bxI, ABox.svs, List.lookup]; omega) rfl rfl ?_
  refine GO (tn 3 z) (by kernel_rfl) ?_
  refine LP (fun N M S => ∃ v8 : Nat, ∃ q : Nat, ∃ ys : List DInline, (v8 ≤ l.length) ∧ (q = g + (dpI (l.take v8)).length) ∧ (ys = xs ++ dpI (l.take v8)) ∧ (List.length l - v8 < N) ∧ M = () ∧ S = (sx 41 [(0, (jL (l.map aInline))), (1, (.ptr 1000 0)), (2, (.ptr 1001 0)), (7, (jI (((lenM aInline l : Nat) : Int)))), (8, (jI (((v8 : Nat) : Int))))] (bxI q ys) [((1002, 49), q)])) (n := l.length + 1) (by kernel_rfl) ⟨0, g, xs, by omega, by simp [dpI_eq []], by simp [dpI_eq []], by omega, rfl, rfl⟩ (WK (by kernel_rfl)) ?_
  rintro n0 M S ⟨v8, q, ys, hi, hq, hys, hF0, rfl, rfl⟩
  obtain ⟨n0, rfl⟩ : ∃ k, n0 = k + 1 := ⟨n0 - 1, by omega⟩
  have hlm := lenM_eq aInline l
  refine GO (tn 1 z) (by kernel_rfl) ?_
  by_cases h1 : v8 < l.length
  · have hd : decide ((((v8 : Nat) : Int) : Int) < ((lenM aInline l : Nat) : Int)) = true := decide_eq_true (by omega)
    have hce := wl_el (w := wInline) (l := l) (i := v8) (by omega)
    have hcw := wInline_eq (el l v8)
    simp only [wStr, w1] at hcw
    have ha1 := wl_len (w := wStr) wStr_pos (el l v8).fArgs
    have htk := wl_take (w := wInline) (l := l) (i := v8) (by omega)
    have hdl := dpI_len (l.take v8) (by have := wl_take_le (w := wInline) l v8; omega)
    have hyl : ys.length = xs.length + (dpI (l.take v8)).length := by rw [hys, List.length_append]
    have ha2 := wl_len (w := wCited) wCited_pos (el l v8).fCites
    refine GO (kb hd (tn 4 (ke (el_aInline l v8 (by omega)) (tn 5 (kc (cpyT_to ((el l v8).fAttr) (by omega)) (tn 4 (kc (clnS_to ((el l v8).fArgs) (by omega)) (tn 4 (kc (clnC_to ((el l v8).fCites) (by omega)) (tn 2 z)))))))))) (by kernel_rfl) ?_
    obtain ⟨S2, hS2⟩ : ∃ S2 : St, S2 = (sx 41 [(0, (jL (l.map aInline))), (1, (.ptr 1000 0)), (2, (.ptr 1001 0)), (4, (jI (((v8 : Nat) : Int)))), (7, (jI (((lenM aInline l : Nat) : Int)))), (8, (jI (((v8 : Nat) : Int))))] (bxI (q + 1) (ys ++ [el l v8])) [((1002, 49), q + 1)]) := ⟨_, rfl⟩
    refine NXW S2 z (by kernel_rfl) ?_ (by rw [hS2]; kernel_rfl) ?_
    · rw [hS2]
      refine W_weak (S' := S7 l v8 q ys) (WK (by kernel_rfl)) ?_
      exact W_code (c' := .region 7 R7 true) (by kernel_rfl) (r7 l v8 q ys (by omega))
    · rw [hS2]
      have hc := hrec (el l v8).fKids (by omega) (by omega) (q + 1) (ys ++ [el l v8]) (by rw [List.length_append, List.length_singleton]; omega)
      have hwr := wrE ((((v8 : Nat) : Int)) + 1) (((v8 + 1 : Nat) : Int)) (by omega)
      refine DR3 (tn 3 (ko (eO (el_aInline l v8 (by omega))) (kp (el_aInline l v8 (by omega)) (tn 2 (ko (cO hc) (kp hc (kp (show q + 1 = q + 1 ∧ True from ⟨rfl, trivial⟩) (ko (nO hwr) (kp hwr (tn 1 z)))))))))) (by kernel_rfl) (by kernel_rfl) (by kernel_rfl) ?_
      have hq2 : q + 1 + (dpI (el l v8).fKids).length = g + (dpI (l.take (v8 + 1))).length := by rw [dpI_take h1, List.length_append, List.length_cons, hq]; omega
      have hy2 : ys ++ [el l v8] ++ dpI (el l v8).fKids = xs ++ dpI (l.take (v8 + 1)) := by rw [dpI_take h1, hys]; simp
      exact AG (m := n0) ⟨v8 + 1, q + 1 + (dpI (el l v8).fKids).length, ys ++ [el l v8] ++ dpI (el l v8).fKids, by omega, hq2, hy2, by omega, rfl, rfl⟩ (WK (by kernel_rfl)) (by kernel_rfl) (Nat.lt_succ_self _)
  · have hd : decide ((((v8 : Nat) : Int) : Int) < ((lenM aInline l : Nat) : Int)) = false := decide_eq_false (by omega)
    have hv : v8 = l.length := by omega
    subst hv
    rw [List.take_length] at hq hys
    subst hq hys
    refine GO (kb hd z) (by kernel_rfl) ?_
    refine OUT z (by kernel_rfl) ?_
    exact ENb (by kernel_rfl) (by intro p hp; simp only [bxI, List.mem_cons, List.not_mem_nil, or_false] at hp; rcases hp with rfl | rfl <;> rfl) (by intro p hp; simp only [List.mem_cons, List.not_mem_nil, or_false] at hp; subst hp; rfl)
end Go.Proofs.YtcdfhagcchmnhaaGreatDoor
namespace Go.Eng
def reSt (X : Cf) (S' : St) : Cf := match X with
  | some (c, o, .at d ks _) => some (c, o, .at d ks S')
  | _ => none
theorem GHOST {P : Program} {α : Type} {K : α → Exit → St → Prop} {M : α} {X : Cf} {S' : St} (hg : Ghost (stOf X) S') (hn : Nx P K M (reSt X S')) : Nx P K M X := by
  obtain ⟨hn⟩ := hn
  unfold reSt at hn
  split at hn
  · rename_i c o d ks S
    exact ⟨W_ghost hg hn⟩
  · exact hn.elim
/-- A nil slice is one that may be written, from here on. -/
theorem ghost_tell {S : St} {t b e sz : Nat} (hs : slotOf S (some t) = .nil) (hb : b < 1000) (hn : S.names b = false) : Ghost S ((S.put (some t) (.vs b 0)).addBox b (.vec e sz [])) := by
  intro G w a hr
  let G' : Gh := { G with ow := fun κ => if κ = (b, 0) then none else G.ow κ }
  have how : ∀ κ c, G'.ow κ = some c → G.ow κ = some c := by
    intro κ c h
    simp only [G'] at h
    split at h
    · cases h
    · exact h
  have hkp : ∀ κ, κ ≠ (b, 0) → Keep G w G' w κ := fun κ hκ => ⟨by simp only [G']; rw [if_neg hκ], fun _ _ => ⟨rfl, rfl⟩⟩
  have hstep : Step G w G' w := ⟨⟨fun _ => Nat.le_refl _, Imm.refl _ _, Nat.le_refl _, rfl, rfl, rfl, fun _ _ => rfl, fun _ => Nat.le_refl _, fun κ h0 _ => hkp κ (by intro e; rw [e] at h0; simp at h0)⟩, fun _ _ _ => ⟨rfl, rfl⟩, fun κ c h => .inl ⟨κ, how κ c h⟩⟩
  have hwf : Wf G' w := ⟨fun κ κ' c h h' => hr.wf.inj κ κ' c (how κ c h) (how κ' c h'), fun κ c h => hr.wf.lt κ c (how κ c h), hr.wf.zero⟩
  have hr1 : Rel G' w S a := hr.but hn hstep.toExt hwf hkp rfl
  have hbx : RepB G' w b (.vec e sz []) := Or.inl ⟨rfl, by simp [G']⟩
  have hput : Rel G' w (S.put (some t) (.vs b 0)) a := by
    refine ⟨hr1.wf, by simp only [St.put, List.length_set]; exact hr1.size, fun u s hu => ?_, hr1.bx, hr1.gn, hr1.defers⟩
    simp only [St.put] at hu
    rw [List.getElem?_set] at hu
    split at hu
    · rename_i hd; subst hd
      split at hu
      · rename_i hlt
        simp only [Option.some.injEq] at hu; subst hu
        have h0 : S.fr[t]? = some .nil := by
          simp only [slotOf, List.getD_eq_getElem?_getD] at hs
          rw [List.getElem?_eq_getElem hlt] at hs ⊢
          simpa using hs
        have := hr1.fr t _ h0
        exact Or.inl ⟨rfl, this, by simp [G']⟩
      · cases hu
    · exact hr1.fr u s hu
  exact ⟨G', hstep, hput.add hbx, fun i hi => by simp only [G']; rw [if_neg (by intro h; simp at h; omega)]⟩
def vecOf (S : St) (t b : Nat) : Option (Nat × List AV) := match slotOf S (some t), S.bx.lookup b with
  | .vs b' n, some (.vec _ _ l) => match decide (b' = b) with
    | true => some (n, l)
    | false => none
  | _, _ => none
/-- It is not written any more. -/
theorem ghost_freeze_vec {S : St} {t b n : Nat} {l : List AV} (hv : vecOf S t b = some (n, l)) (hn : n ≤ l.length) : Ghost S ((S.forget b).put (some t) (.av (.sl (l.take n)))) := by
  intro G w a hr
  unfold vecOf at hv
  split at hv
  · rename_i b' n' e sz l' hs hb
    split at hv
    · rename_i hd
      have := of_decide_eq_true hd; subst this
      simp only [Option.some.injEq, Prod.mk.injEq] at hv
      obtain ⟨rfl, rfl⟩ := hv
      have hbox := hr.bx _ (lookup_mem hb)
      have put : ∀ {G' : Gh}, Rel G' w (S.forget b') a → (∀ u, RepS G w (.vs b' n') u → Rep G'.U w (.sl (l'.take n')) u) → Rel G' w ((S.forget b').put (some t) (.av (.sl (l'.take n')))) a := by
        intro G' h1 h2
        refine ⟨h1.wf, by simp only [St.put, List.length_set]; exact h1.size, fun u s hu => ?_, h1.bx, h1.gn, h1.defers⟩
        simp only [St.put] at hu
        rw [List.getElem?_set] at hu
        split at hu
        · rename_i hd; subst hd
          split at hu
          · rename_i hlt
            simp only [Option.some.injEq] at hu; subst hu
            have hlt' : t < S.fr.length := by simpa [St.forget] using hlt
            have h0 : S.fr[t]? = some (.vs b' n') := by
              simp only [slotOf, List.getD_eq_getElem?_getD] at hs
              rw [List.getElem?_eq_getElem hlt'] at hs ⊢
              simpa using hs
            exact h2 _ (hr.fr t _ h0)
          · cases hu
        · exact h1.fr u s hu
      rcases hbox with ⟨hl, how⟩ | ⟨blk, arr, es, g0, g1, g2, g3, g4, g5, g6, ⟨rest, g7⟩, g8⟩
      · refine ⟨G, Step.refl G w, put (hr.forget b') (fun u hu => ?_), fun _ _ => rfl⟩
        simp only at hl how
        subst hl
        rcases hu with ⟨rfl, rfl, _⟩ | ⟨blk, _, h, _⟩
        · simpa using Rep_nil _ _
        · rw [how] at h; cases h
      · simp only at g1
        have hU : ∀ c, G.U c ≤ (G.setU blk (vcells (es.take n')).length).U c := by
          intro c; simp only [Gh.setU]; split
          · rename_i h; rw [h, g3]; omega
          · omega
        have hkp : ∀ κ, κ ≠ (b', 0) → Keep G w (G.setU blk (vcells (es.take n')).length) w κ := fun κ hκ => ⟨rfl, fun c hc => ⟨rfl, by
          simp only [Gh.setU]; rw [if_neg (fun he => hκ (hr.wf.inj κ (b', 0) c hc (by rw [he]; exact g1)))]⟩⟩
        have hstep : Step G w (G.setU blk (vcells (es.take n')).length) w := ⟨⟨hU, Imm.refl _ _, Nat.le_refl _, rfl, rfl, rfl, fun _ _ => rfl, fun _ => Nat.le_refl _, fun κ h0 _ => hkp κ (by intro e; rw [e] at h0; simp at h0)⟩,
          fun c _ hn => ⟨rfl, by simp only [Gh.setU]; rw [if_neg (fun he => hn (b', 0) (by rw [he]; exact g1))]⟩, fun κ c h => .inl ⟨κ, h⟩⟩
        have hwf : Wf (G.setU blk (vcells (es.take n')).length) w := ⟨hr.wf.inj, hr.wf.lt, fun c hc => by simp only [Gh.setU]; rw [if_neg (by omega)]; exact hr.wf.zero c hc⟩
        refine ⟨_, hstep, put ((hr.forget b').but (forget_free S b') hstep.toExt hwf hkp rfl) (fun u hu => ?_), fun _ _ => rfl⟩
        rcases hu with ⟨rfl, rfl, h⟩ | ⟨blk', h0, h, rfl, h3⟩
        · rw [g1] at h; cases h
        · rw [g1] at h; simp only [Option.some.injEq] at h; subst h
          simp only [Rep]
          have hlen : (l'.take n').length = n' := by simp; omega
          have htake := vcells_take es n' g6
          refine ⟨some ⟨blk, 0, none⟩, G.cp blk, es.take n', sz, by rw [hlen], (RepL.mono hU (Imm.refl _ _) _ _ g5).take n', fun x hx => g6 x (List.mem_of_mem_take hx), by simp, by rw [hlen]; exact h3, fun _ ad had => by simp at had; subst had; rfl, .inr ⟨blk, 0, rfl, by simp [Gh.setU], fun j x hj => ?_⟩⟩
          have hj' := hj
          rw [htake, List.getElem?_take] at hj'
          split at hj'
          · have hlt2 : j < (vcells es).length := by
              rcases Nat.lt_or_ge j (vcells es).length with q | q
              · exact q
              · rw [List.getElem?_eq_none q] at hj'; cases hj'
            have harr : arr.toList[j]? = some x := by rw [g7, List.getElem?_append_left hlt2]; exact hj'
            exact ⟨by simpa [World.cell?, g2] using harr, g8 x (List.mem_of_getElem? hj')⟩
          · cases hj'
    · cases hv
  · cases hv
/-- The rules. -/
theorem TELL {P : Program} {α : Type} {K : α → Exit → St → Prop} {M : α} {X : Cf} (t b e sz : Nat) (h : (slotOf (stOf X) (some t), decide (b < 1000), (stOf X).names b) = (.nil, true, false)) (hn : Nx P K M (reSt X (((stOf X).put (some t) (.vs b 0)).addBox b (.vec e sz [])))) : Nx P K M X := by
  simp only [Prod.mk.injEq] at h
  exact GHOST (ghost_tell h.1 (of_decide_eq_true h.2.1) h.2.2) hn
theorem FRZ {P : Program} {α : Type} {K : α → Exit → St → Prop} {M : α} {X : Cf} (t b : Nat) {n : Nat} {l l' : List AV} (h : vecOf (stOf X) t b = some (n, l)) (hn : n ≤ l.length) (hl : l.take n = l') (hx : Nx P K M (reSt X (((stOf X).forget b).put (some t) (.av (.sl l'))))) : Nx P K M X := by
  subst hl
  exact GHOST (ghost_freeze_vec h hn) hx
end Go.Eng
namespace Go.Proofs.YtcdfhagcchmnhaaGreatDoor
open Go Go.Eng
theorem inl_n : ∀ (n : Nat) (l : List DInline), wl wInline l < n → wl wInline l ≤ 1073741824 → ∀ (g : Nat) (xs : List DInline), xs.length + wl wInline l ≤ 4294967296 →
    CallTo Tryz.prog 49 [jL (l.map aInline), .ptr 1000 0, .ptr 1001 0] (bxI g xs) [((1002, 49), g)] undefS (bxI (g + (dpI l).length) (xs ++ dpI l)) [((1002, 49), g + (dpI l).length)]
  | 0, l, h, _, _, _, _ => by omega
  | n + 1, l, h, hl, g, xs, hx => inl_st l hl g xs hx (fun l' h1 h2 g' xs' h3 => inl_n n l' (by omega) h2 g' xs' h3)
theorem inl_to (l : List DInline) (hl : wl wInline l ≤ 1073741824) (g : Nat) (xs : List DInline) (hx : xs.length + wl wInline l ≤ 4294967296) :
    CallTo Tryz.prog 49 [jL (l.map aInline), .ptr 1000 0, .ptr 1001 0] (bxI g xs) [((1002, 49), g)] undefS (bxI (g + (dpI l).length) (xs ++ dpI l)) [((1002, 49), g + (dpI l).length)] := inl_n _ l (Nat.lt_succ_self _) hl g xs hx
theorem lsBN_fuel : ∀ (n m : Nat) (l : List DBlock), wl wBlock l < n → wl wBlock l < m → lsBN n l = lsBN m l
  | 0, m, l, h, _ => by omega
  | n + 1, 0, l, _, h => by omega
  | n + 1, m + 1, l, h1, h2 => by
    rw [lsBN, lsBN, lsBS_eq, lsBS_eq]
    refine flat_eq (fun x hx => ?_)
    have h3 := wl_mem (w := wBlock) hx
    have h4 := wBlock_eq x
    rw [lsBN_fuel n m x.fKids (by omega) (by omega)]
theorem lsB_eq (l : List DBlock) : lsB l = l.flatMap (fun x => x :: lsB x.fKids) := by
  show lsBN (wl wBlock l + 1) l = _
  rw [lsBN, lsBS_eq]
  refine flat_eq (fun x hx => ?_)
  have h3 := wl_mem (w := wBlock) hx
  have h4 := wBlock_eq x
  rw [lsB, lsBN_fuel (wl wBlock l) (wl wBlock x.fKids + 1) x.fKids (by omega) (by omega)]
theorem ilsB_flat (l : List DBlock) : ilsB l = l.flatMap (fun x => dpI x.fLine ++ ilsB x.fKids) := by
  rw [ilsB_eq, lsB_eq, List.flatMap_assoc]
  refine flat_eq (fun x _ => ?_)
  rw [List.flatMap_cons, ilsB_eq]
theorem ilsB_take {l : List DBlock} {i : Nat} (h : i < l.length) : ilsB (l.take (i + 1)) = ilsB (l.take i) ++ (dpI (el l i).fLine ++ ilsB (el l i).fKids) := by
  rw [ilsB_flat (l.take (i + 1)), take_succ_el h, List.flatMap_append, ← ilsB_flat]
  simp
def bxB (g : Nat) (xs : List DInline) : List (Nat × ABox) := [(1000, .cells 42 [.own (1002, 49) g 10 (xs.map aInline)]), (1001, .cells 93 [.fn 49 [] [.ptr 1000 0, .ptr 1001 0]]), (1003, .cells 99 [.fn 53 [] [.ptr 1001 0, .ptr 1003 0]])]
set_option maxRecDepth 100000 in
set_option maxHeartbeats 4000000 in
theorem inb_st (l : List DBlock) (hl : wl wBlock l ≤ 1073741824) (g : Nat) (xs : List DInline) (hx : xs.length + wl wBlock l ≤ 4294967296)
    (hrec : ∀ l' : List DBlock, wl wBlock l' < wl wBlock l → wl wBlock l' ≤ 1073741824 → ∀ (g : Nat) (xs : List DInline), xs.length + wl wBlock l' ≤ 4294967296 →
      CallTo Tryz.prog 53 [jL (l'.map aBlock), .ptr 1001 0, .ptr 1003 0] (bxB g xs) [((1002, 49), g)] undefS (bxB (g + (ilsB l').length) (xs ++ ilsB l')) [((1002, 49), g + (ilsB l').length)]) :
    CallTo Tryz.prog 53 [jL (l.map aBlock), .ptr 1001 0, .ptr 1003 0] (bxB g xs) [((1002, 49), g)] undefS (bxB (g + (ilsB l).length) (xs ++ ilsB l)) [((1002, 49), g + (ilsB l).length)] := by
  have hwl := wl_len (w := wBlock) wBlock_pos l
  refine BEGb (fun _ : Unit => undefS) () Tryz.func53 (by kernel_rfl) (by simp [bxB]) (by simp) (by simp [OkSV, SV.keys, bxB]) (by simp [OkSV, SV.keys, PV.keys, bxB, ABox.svs, List.lookup]; first | omega | (constructor <;> intros <;> omega)) (by simp [OkSV, SV.keys, undefS]) (by simp [OkSV, SV.keys, PV.keys, bxB, ABox.svs, List.lookup]; first | omega | (constructor <;> intros <;> omega)) rfl rfl ?_
  refine GO (tn 3 z) (by kernel_rfl) ?_
  refine LP (fun N M S => ∃ v7 : Nat, ∃ q : Nat, ∃ ys : List DInline, (v7 ≤ l.length) ∧ (q = g + (ilsB (l.take v7)).length) ∧ (ys = xs ++ ilsB (l.take v7)) ∧ (List.length l - v7 < N) ∧ M = () ∧ S = (sx 25 [(0, (jL (l.map aBlock))), (1, (.ptr 1001 0)), (2, (.ptr 1003 0)), (6, (jI (((lenM aBlock l : Nat) : Int)))), (7, (jI (((v7 : Nat) : Int))))] (bxB q ys) [((1002, 49), q)])) (n := l.length + 1) (by kernel_rfl) ⟨0, g, xs, by omega, by simp [ilsB_flat []], by simp [ilsB_flat []], by omega, rfl, rfl⟩ (WK (by kernel_rfl)) ?_
  rintro n0 M S ⟨v7, q, ys, hi, hq, hys, hF0, rfl, rfl⟩
  obtain ⟨n0, rfl⟩ : ∃ k, n0 = k + 1 := ⟨n0 - 1, by omega⟩
  have hlm := lenM_eq aBlock l
  refine GO (tn 1 z) (by kernel_rfl) ?_
  by_cases h1 : v7 < l.length
  · have hd : decide ((((v7 : Nat) : Int) : Int) < ((lenM aBlock l : Nat) : Int)) = true := decide_eq_true (by omega)
    have hce := wl_el (w := wBlock) (l := l) (i := v7) (by omega)
    have hcw := wBlock_eq (el l v7)
    simp only [wStr, w1] at hcw
    have htk := wl_take (w := wBlock) (l := l) (i := v7) (by omega)
    have hdl := ilsB_len (l.take v7) (by have := wl_take_le (w := wBlock) l v7; omega)
    have hyl : ys.length = xs.length + (ilsB (l.take v7)).length := by rw [hys, List.length_append]
    have hdp := dpI_len (el l v7).fLine (by omega)
    have hc1 := inl_to (el l v7).fLine (by omega) q ys (by omega)
    have hc2 := hrec (el l v7).fKids (by omega) (by omega) (q + (dpI (el l v7).fLine).length) (ys ++ dpI (el l v7).fLine) (by rw [List.length_append]; omega)
    refine GO (kb hd (tn 2 z)) (by kernel_rfl) ?_
    refine DR3 (tn 3 (ko (eO (el_aBlock l v7 (by omega))) (kp (el_aBlock l v7 (by omega)) (tn 2 (ko (cO hc1) (kp hc1 (kp (show q = q ∧ True from ⟨rfl, trivial⟩) z))))))) (by kernel_rfl) (by kernel_rfl) (by kernel_rfl) ?_
    have hwr := wrE ((((v7 : Nat) : Int)) + 1) (((v7 + 1 : Nat) : Int)) (by omega)
    refine DR3 (tn 3 (ko (eO (el_aBlock l v7 (by omega))) (kp (el_aBlock l v7 (by omega)) (tn 2 (ko (cO hc2) (kp hc2 (kp (show q + (dpI (el l v7).fLine).length = q + (dpI (el l v7).fLine).length ∧ True from ⟨rfl, trivial⟩) (ko (nO hwr) (kp hwr (tn 1 z)))))))))) (by kernel_rfl) (by kernel_rfl) (by kernel_rfl) ?_
    have hq2 : q + (dpI (el l v7).fLine).length + (ilsB (el l v7).fKids).length = g + (ilsB (l.take (v7 + 1))).length := by rw [ilsB_take h1, List.length_append, List.length_append, hq]; omega
    have hy2 : ys ++ dpI (el l v7).fLine ++ ilsB (el l v7).fKids = xs ++ ilsB (l.take (v7 + 1)) := by rw [ilsB_take h1, hys]; simp
    exact AG (m := n0) ⟨v7 + 1, q + (dpI (el l v7).fLine).length + (ilsB (el l v7).fKids).length, ys ++ dpI (el l v7).fLine ++ ilsB (el l v7).fKids, by omega, hq2, hy2, by omega, rfl, rfl⟩ (WK (by kernel_rfl)) (by kernel_rfl) (Nat.lt_succ_self _)
  · have hd : decide ((((v7 : Nat) : Int) : Int) < ((lenM aBlock l : Nat) : Int)) = false := decide_eq_false (by omega)
    have hv : v7 = l.length := by omega
    subst hv
    rw [List.take_length] at hq hys
    subst hq hys
    refine GO (kb hd z) (by kernel_rfl) ?_
    refine OUT z (by kernel_rfl) ?_
    exact ENb (by kernel_rfl) (by intro p hp; simp only [bxB, List.mem_cons, List.not_mem_nil, or_false] at hp; rcases hp with rfl | rfl | rfl <;> rfl) (by intro p hp; simp only [List.mem_cons, List.not_mem_nil, or_false] at hp; subst hp; rfl)
theorem inb_n : ∀ (n : Nat) (l : List DBlock), wl wBlock l < n → wl wBlock l ≤ 1073741824 → ∀ (g : Nat) (xs : List DInline), xs.length + wl wBlock l ≤ 4294967296 →
    CallTo Tryz.prog 53 [jL (l.map aBlock), .ptr 1001 0, .ptr 1003 0] (bxB g xs) [((1002, 49), g)] undefS (bxB (g + (ilsB l).length) (xs ++ ilsB l)) [((1002, 49), g + (ilsB l).length)]
  | 0, l, h, _, _, _, _ => by omega
  | n + 1, l, h, hl, g, xs, hx => inb_st l hl g xs hx (fun l' h1 h2 g' xs' h3 => inb_n n l' (by omega) h2 g' xs' h3)
theorem ghost_weak {S S' : St} (h : Weak S S') : Ghost S S' := fun G w a hr => ⟨G, Step.refl G w, h G w a hr, fun _ _ => rfl⟩
theorem castp {p q : Prop} (h : p = q) (x : p) : q := h ▸ x
def sI (κ : Key) : Key := if κ = (1000, 0) then (3, 0) else if κ = (3, 0) then (1000, 0) else if κ = (1001, 0) then (4, 0) else if κ = (4, 0) then (1001, 0) else if κ = (1003, 0) then (5, 0) else if κ = (5, 0) then (1003, 0) else if κ = (1002, 49) then (3, 49) else if κ = (3, 49) then (1002, 49) else κ
theorem sI_inv : Inv sI := by
  refine ⟨fun κ => ?_, fun κ => ?_⟩
  · unfold sI
    by_cases h1 : κ = (1000, 0)
    · subst h1; decide
    by_cases h2 : κ = (3, 0)
    · subst h2; decide
    by_cases h3 : κ = (1001, 0)
    · subst h3; decide
    by_cases h4 : κ = (4, 0)
    · subst h4; decide
    by_cases h5 : κ = (1003, 0)
    · subst h5; decide
    by_cases h6 : κ = (5, 0)
    · subst h6; decide
    by_cases h7 : κ = (1002, 49)
    · subst h7; decide
    by_cases h8 : κ = (3, 49)
    · subst h8; decide
    simp only [h1, h2, h3, h4, h5, h6, h7, h8, if_false]
  · unfold sI
    repeat' split
    all_goals first | rfl | (rename_i h; rw [h]) | (subst_vars; rfl)
def bx3 (g : Nat) (xs : List DInline) : List (Nat × ABox) := [(3, .cells 42 [.own (3, 49) g 10 (xs.map aInline)]), (4, .cells 93 [.fn 49 [] [.ptr 3 0, .ptr 4 0]]), (5, .cells 99 [.fn 53 [] [.ptr 4 0, .ptr 5 0]])]
def bxN : List (Nat × ABox) := [(3, .cells 42 [.nil]), (4, .cells 93 [.fn 49 [] [.ptr 3 0, .ptr 4 0]]), (5, .cells 99 [.fn 53 [] [.ptr 4 0, .ptr 5 0]])]
theorem WkS_refl (S : St) (s : SV) : WkS S s s := by
  cases s with
  | ag l => exact WkCs_refl S l
  | _ => simp [WkS]
theorem WkL_refl (S : St) : ∀ l : List SV, WkL S l l
  | [] => trivial
  | s :: l => ⟨WkS_refl S s, WkL_refl S l⟩
theorem weak_N (n : Nat) (sl : List (Nat × SV)) : Weak (sx n sl bxN []) (sx n sl (bx3 0 []) [((3, 49), 0)]) :=
  weak_of (WkL_refl _ _) ⟨⟨rfl, ⟨rfl, Nat.succ_pos _, rfl⟩, trivial⟩, ⟨rfl, WkL_refl _ _⟩, ⟨rfl, WkL_refl _ _⟩, trivial⟩ ⟨rfl, trivial⟩
set_option maxRecDepth 100000 in
set_option maxHeartbeats 4000000 in
theorem ilsT_to (l : List DBlock) (hl : wl wBlock l ≤ 1073741824) : CallTo Tryz.prog 24 [(jL (l.map aBlock))] [] [] (jL ((ilsB l).map aInline)) [] [] := by
  have hc0 := CallTo_ren sI_inv (inb_n _ l (Nat.lt_succ_self _) hl 0 [] (by simp; omega))
  have hc : CallTo Tryz.prog 53 [jL (l.map aBlock), .ptr 4 0, .ptr 5 0] (bx3 0 []) [((3, 49), 0)] undefS (bx3 (0 + (ilsB l).length) ([] ++ ilsB l)) [((3, 49), 0 + (ilsB l).length)] := castp (by kernel_rfl) hc0
  refine BEG (fun r : List DInline => (jL (r.map aInline))) (ilsB l) Tryz.func24 (by kernel_rfl) ?_
  refine GO (tn 8 (kq 6 z)) (by kernel_rfl) ?_
  refine GHOST (S' := sx 12 [(0, (jL (l.map aBlock))), (3, .ptr 3 0), (4, .ptr 4 0), (5, .ptr 5 0)] (bx3 0 []) [((3, 49), 0)]) (ghost_weak (wtr (WK (bx := bxN) (gn := []) (by kernel_rfl)) (weak_N _ _))) ?_
  refine GO (tn 2 (kg hc (show (0 : Nat) = 0 ∧ True from ⟨rfl, trivial⟩) (tn 2 z))) (by kernel_rfl) ?_
  refine ENw (r := jL (([] ++ ilsB l).map aInline)) rfl (by kernel_rfl)
end Go.Proofs.YtcdfhagcchmnhaaGreatDoor
namespace Go.Proofs.YtcdfhagcchmnhaaGreatDoor
open Go Go.Eng
abbrev tv : AV := .val (.bool true)
def tvs (ks : List ByteArray) : List AV := ks.map (fun _ => AV.val (.bool true))
theorem eqs_beq (s k : ByteArray) : (s == k) = eqs k s := by
  rw [Bool.eq_iff_iff, bytes_eq]
  unfold eqs
  rw [beq_iff_eq]
  constructor
  · intro h; rw [h]
  · intro h
    obtain ⟨⟨s⟩⟩ := s
    obtain ⟨⟨k⟩⟩ := k
    simp only at h; rw [h]
theorem kpos_has (s : ByteArray) : ∀ ks : List ByteArray, (kpos ks s).isSome = hasR ks s
  | [] => rfl
  | k :: ks => by
    have h := kpos_has s ks
    rw [hasR_any] at h ⊢
    rw [kpos, List.any_cons, ← h, eqs_beq]
    cases eqs k s with
    | true => rfl
    | false => simp
theorem look_has (ks : List ByteArray) (s : ByteArray) : mgetT false (.val (.bool false)) ks (tvs ks) s = .val (.bool (hasR ks s)) := by
  simp only [mgetT, Bool.false_eq_true, if_false, mget]
  rw [← kpos_has]
  cases h : kpos ks s with
  | none => rfl
  | some j =>
    have h1 := kpos_get h
    have h2 : j < ks.length := by
      rcases Nat.lt_or_ge j ks.length with h3 | h3
      · exact h3
      · rw [List.getElem?_eq_none h3] at h1; cases h1
    simp [tvs, h2]
theorem put_new {ks : List ByteArray} {s : ByteArray} (h : hasR ks s = false) : mputK ks s = ks ++ [s] ∧ mputV ks (tvs ks) s tv = tvs (ks ++ [s]) := by
  rw [← kpos_has] at h
  unfold mputK mputV
  cases h1 : kpos ks s with
  | none => simp [tvs]
  | some j => rw [h1] at h; cases h
theorem weak_map {n : Nat} {sl : List (Nat × SV)} {gn : List (Key × Nat)} {b : Nat} {k k' : List ByteArray} {v v' : List AV} {r : List (Nat × ABox)} (h1 : k = k') (h2 : v = v') : Weak (sx n sl ((b, .map k v) :: r) gn) (sx n sl ((b, .map k' v') :: r) gn) := by subst h1 h2; exact fun _ _ _ h => h
set_option maxRecDepth 100000 in
set_option maxHeartbeats 4000000 in
theorem uses_to (l : List DBlock) (hw : wl wBlock l ≤ 1073741824) : CallTo Tryz.prog 11 [(jL (l.map aBlock))] [] [] (jL ((useR l).map strAV)) [] [] := by
  have hil := ilsB_len l (by omega)
  refine BEG (fun r : List ByteArray => (jL (r.map strAV))) (useR l) Tryz.func11 (by kernel_rfl) ?_
  refine UF (useR.eq_1 ..) ?_
  refine GO (tn 5 (kc (ilsT_to l (by omega)) (tn 2 z))) (by kernel_rfl) ?_
  refine LP (fun N M S => ∃ gv3 : Nat, ∃ v3 : List ByteArray, ∃ v9 : Nat, (v3.length ≤ v9) ∧ (List.length (ilsB l) - v9 < N) ∧ M = useR_L0 l N v3 v9 ∧ S = (sx 35 [(3, (.own (203, 10) (gv3) 1 (v3.map strAV))), (4, .mp 7), (9, (jL ((ilsB l).map aInline))), (10, (jI (((lenM aInline (ilsB l) : Nat) : Int)))), (11, (jI (((v9 : Nat) : Int))))] [(7, .map v3 (tvs v3))] [((203, 10), gv3)])) (by kernel_rfl) ⟨0, _, _, by simp, by omega, rfl, rfl⟩ (WKf [(3, (.own (203, 10) ((0)) 1 (([]).map strAV)))] (ac (show ((([]).map strAV) : List AV) = [] ∧ 0 < 10 ∧ ((0) : Nat) = (0) from ⟨rfl, by decide, rfl⟩) an) (by kernel_rfl)) ?_
  rintro n0 M S ⟨gv3, v3, v9, hv, hF0, rfl, rfl⟩
  obtain ⟨n0, rfl⟩ : ∃ k, n0 = k + 1 := ⟨n0 - 1, by omega⟩
  refine UF (useR_L0.eq_2 ..) ?_
  refine GO (tn 1 z) (by kernel_rfl) ?_
  refine CSd (fun h1p h1 => ?_) (fun h1p h1 => ?_)
  · have := lenM_eq aInline (ilsB l)
    have hm := ilsB_mem l _ (el_mem (l := ilsB l) (i := v9) (by omega))
    have hmw := wInline_eq (el (ilsB l) v9)
    refine GO (kb h1 (ke (el_aInline (ilsB l) v9 (by omega)) (tn 7 (kj ((((el (ilsB l) v9).fKind : Int) == 15)) (tn 3 (hl (fun _ => look_has v3 ((el (ilsB l) v9).fText)) (tn 1 z))) z z)))) (by kernel_rfl) ?_
    refine CS (fun h2 => ?_) (fun h2 => ?_)
    · obtain ⟨h2a, h2o⟩ := cond_ff h2
      have h2on := nott h2o
      obtain ⟨p1, p2⟩ := put_new h2on
      refine GO (kb h2 (tn 7 (kp (show Uni 1 [(vS ((el (ilsB l) v9).fText))] from (uni_one rfl rfl)) (kp (show (gv3 : Nat) = gv3 ∧ Uni 1 [(vS ((el (ilsB l) v9).fText))] ∧ (((v3.map strAV) : List AV).length + ([(vS ((el (ilsB l) v9).fText))] : List AV).length) * 16 ≤ 140737488355328 from ⟨rfl, uni_one rfl rfl, by simp; omega⟩) (kw (ap1 strAV v3 ((el (ilsB l) v9).fText)) (tn 1 (kn (wrE ((((v9 : Nat) : Int)) + 1) (((v9 + 1 : Nat) : Int)) (by omega)) (tn 1 z)))))))) (by kernel_rfl) ?_
      exact AG ⟨gv3 + 1, _, _, by simp; omega, by omega, rfl, rfl⟩ (wtr (WK (bx := [(7, .map (mputK v3 (el (ilsB l) v9).fText) (mputV v3 (tvs v3) (el (ilsB l) v9).fText tv))]) (by kernel_rfl)) (weak_map p1 p2)) (by kernel_rfl) (Nat.lt_succ_self _)
    · refine GO (kb h2 (kn (wrE ((((v9 : Nat) : Int)) + 1) (((v9 + 1 : Nat) : Int)) (by omega)) (tn 1 z))) (by kernel_rfl) ?_
      exact AG ⟨gv3, _, _, by omega, by omega, rfl, rfl⟩ (WK (by kernel_rfl)) (by kernel_rfl) (Nat.lt_succ_self _)
  · have := lenM_eq aInline (ilsB l)
    refine GO (kb h1 z) (by kernel_rfl) ?_
    refine OUT (tn 2 z) (by kernel_rfl) ?_
    exact EN (by kernel_rfl)
end Go.Proofs.YtcdfhagcchmnhaaGreatDoor
namespace Go.Eng
variable {P : Program}
theorem step_bindc2 {G : Gh} {w : World} (hw : Wf G w) (o : Obj) (id c : Nat) :
    Step G w (G.bindc id w.heap.size c) (w.alloc o) ∧ Wf (G.bindc id w.heap.size c) (w.alloc o) ∧ ∀ κ, κ ≠ (id, 0) → Keep G w (G.bindc id w.heap.size c) (w.alloc o) κ := by
  obtain ⟨s1, s2, s3⟩ := step_bind hw o id
  exact ⟨⟨⟨s1.U, s1.imm, s1.size, s1.os, s1.tape, s1.output, fun b hb => if_neg (by omega), s1.gen, s1.tok⟩, s1.stay, s1.rng⟩, ⟨s2.inj, s2.lt, s2.zero⟩, s3⟩
/-- make of a slice. -/
theorem sound_make {o : Oper} {S : St} {t e : TypeId} {sz bt : Nat} {z : Value} {x y : Operand} {k k' : IntKind} {n id : Nat} {X : ABox} (ho : o.op = .makeSlice t x y) (hx : S.ev x = .av (.val (.int k (n : Int)))) (hy : S.ev y = .av (.val (.int k' (n : Int))))
    (ht : tElem P t = some e) (hi : tInfo P e = some (sz, bt, some z)) (hb : bt * n ≤ 281474976710656) (h63 : n ≤ 9223372036854775807) (hid : id < 1000) (hn : S.names id = false)
    (hX : ∀ (G : Gh) (w : World) (blk : Nat), blk < w.heap.size → G.ow (id, 0) = some blk → w.heap[blk]? = some (.cells (madeCells z.cells (n * sz)) e (0, 0)) → G.U blk = 0 → G.cp blk = n → RepB G w id X) : Sound P o S ⟨True, .vs id n, S.addBox id X⟩ := by
  intro _ G w a hr
  have h1 := hr.ev x; rw [hx] at h1; simp only [RepS, Rep] at h1
  have h2 := hr.ev y; rw [hy] at h2; simp only [RepS, Rep] at h2
  obtain ⟨i, e1, e2, e3, e4⟩ : ∃ i, P.info? e = some i ∧ i.size = sz ∧ i.bytes = bt ∧ i.zero = some z := by
    unfold tInfo at hi
    cases hI : P.info? e with
    | none => rw [hI] at hi; simp at hi
    | some i => rw [hI] at hi; simp at hi; exact ⟨i, rfl, hi.1, hi.2.1, hi.2.2⟩
  subst e2 e3
  have hbi : (i.bytes : Int) * (n : Int) ≤ 281474976710656 := by
    have h : ((i.bytes * n : Nat) : Int) ≤ 281474976710656 := by omega
    rwa [Int.natCast_mul] at h
  have hrun := run_make (P := P) w t e i z (elem_und ht) e1 e4 k k' n n (by omega) (Int.le_refl _) hbi (by omega)
  simp only [Int.toNat_natCast] at hrun
  obtain ⟨s1, s2, s3⟩ := step_bindc2 hr.wf (.cells (madeCells z.cells (n * i.size)) e) id n
  have hr1 := hr.but hn s1.toExt s2 s3 rfl
  refine ⟨_, _, _, _, ?_, .inl rfl, s1, hr1.add (hX _ _ w.heap.size (by simp) (by simp [Gh.bindc]) (heap_alloc_new w _) ?_ (by simp [Gh.bindc])), .inr ⟨w.heap.size, by simp, by simp [Gh.bindc], rfl, by simp [Gh.bindc]⟩, fun j hj => ?_⟩
  · simp only [execOp, ho, h1.1, h2.1, hrun]
    simp [hrun, Gh.bindc]
  · exact hr.wf.zero _ (Nat.le_refl _)
  · simp only [Gh.bindc]; rw [if_neg (by intro h; simp only [Prod.mk.injEq] at h; omega)]
theorem made_one (z : Value) (h : z.cells = #[z]) (n : Nat) : (madeCells z.cells (n * 1)).toList = List.replicate n z := by
  rw [h, Nat.mul_one]
  apply List.ext_getElem
  · simp [madeCells]
  · intro i h1 h2
    simp [madeCells, Nat.mod_one]
theorem RepL_rep {U : Nat → Nat} {w : World} {x : AV} {z : Value} (h : Rep U w x z) : ∀ n, RepL U w (List.replicate n x) (List.replicate n z)
  | 0 => by simp [RepL]
  | n + 1 => by rw [List.replicate_succ, List.replicate_succ]; simp only [RepL]; exact ⟨_, _, rfl, h, RepL_rep h n⟩
theorem vcells_rep {z : Value} (h : z.cells = #[z]) : ∀ n, vcells (List.replicate n z) = List.replicate n z
  | 0 => rfl
  | n + 1 => by rw [List.replicate_succ, vcells, List.flatMap_cons, ← vcells, vcells_rep h n, h]; rfl
/-- make of a slice of small values. -/
theorem sound_makeVec {o : Oper} {S : St} {t e : TypeId} {bt : Nat} {z : Value} {x y : Operand} {k k' : IntKind} {n id : Nat} (ho : o.op = .makeSlice t x y) (hx : S.ev x = .av (.val (.int k (n : Int)))) (hy : S.ev y = .av (.val (.int k' (n : Int))))
    (ht : tElem P t = some e) (hi : tInfo P e = some (1, bt, some z)) (hz : z.cells = #[z]) (hz1 : z.oneCell' = true) (hb : bt * n ≤ 281474976710656) (h63 : n ≤ 9223372036854775807) (hid : id < 1000) (hn : S.names id = false) : Sound P o S ⟨True, .vs id n, S.addBox id (.vec e 1 (List.replicate n (.val z)))⟩ := by
  refine sound_make ho hx hy ht hi hb h63 hid hn (fun G w blk h1 h2 h3 h4 h5 => .inr ⟨blk, _, List.replicate n z, h1, h2, h3, h4, ?_, RepL_rep (by simp only [Rep]; exact ⟨trivial, hz1⟩) n, ?_, ⟨[], ?_⟩, ?_⟩)
  · rw [h5, size_madeCells]; exact Nat.le_refl _
  · intro c hc
    rw [List.eq_of_mem_replicate hc, hz]; rfl
  · rw [List.append_nil, vcells_rep hz, made_one z hz]
  · intro c hc
    rw [vcells_rep hz] at hc
    rw [List.eq_of_mem_replicate hc]; exact hz1
/-- Rows: slices of the call's own, in a slice. -/
def rowK (b e : Nat) (j : Nat) : Key := (b + j, e + 1)
def rowsS (b e : Nat) (R : Nat → List AV) (n : Nat) : List SV := (List.range n).map (fun j => SV.own (rowK b e j) (R j).length 1 (R j))
def rowsG (b e : Nat) (R : Nat → List AV) (n : Nat) : List (Key × Nat) := (List.range n).map (fun j => (rowK b e j, (R j).length))
theorem RepSs_nils {G : Gh} {w : World} : ∀ (ks : List Key), (∀ k ∈ ks, 0 < k.2) → RepSs G w (ks.map (fun k => SV.own k 0 1 [])) (List.replicate ks.length (.slice none 0 0))
  | [], _ => rfl
  | k :: ks, h => ⟨_, _, rfl, ⟨h k (by simp), Nat.zero_le _, none, 0, [], rfl, by simp [RepL], by simp, by simp, by simp, by simp, .inl (by simp [vcells]), fun _ => .inl rfl⟩, RepSs_nils ks (fun q hq => h q (by simp [hq]))⟩
/-- make of a slice of slices. -/
theorem sound_makeRows {o : Oper} {S : St} {t e e2 : TypeId} {bt : Nat} {x y : Operand} {k k' : IntKind} {n id : Nat} (b : Nat) (ho : o.op = .makeSlice t x y) (hx : S.ev x = .av (.val (.int k (n : Int)))) (hy : S.ev y = .av (.val (.int k' (n : Int))))
    (ht : tElem P t = some e) (hi : tInfo P e = some (1, bt, some (.slice none 0 0))) (hb : bt * n ≤ 281474976710656) (h63 : n ≤ 9223372036854775807) (hid : id < 1000) (hn : S.names id = false) : Sound P o S ⟨True, .vs id n, S.addBox id (.cells e (rowsS b e2 (fun _ => []) n))⟩ := by
  refine sound_make ho hx hy ht hi hb h63 hid hn (fun G w blk h1 h2 h3 h4 h5 => ⟨blk, _, h2, h3, h4, ?_, ?_⟩)
  · rw [made_one _ rfl]
    have := RepSs_nils (G := G) (w := w) ((List.range n).map (rowK b e2)) (fun k hk => by simp only [List.mem_map] at hk; obtain ⟨j, _, rfl⟩ := hk; exact Nat.succ_pos _)
    rw [List.map_map, List.length_map, List.length_range] at this
    exact this
  · rw [made_one _ rfl]
    intro c hc
    rw [List.eq_of_mem_replicate hc]; rfl
/-- A load and a store by an address of an element of a slice in a box. -/
theorem sound_load_vpc {o : Oper} {S : St} {t ty : TypeId} {x : Operand} {b : Nat} {i : Int} {l : List SV} {s : SV} (ho : o.op = .load t x) (hx : S.ev x = .vp b 1 i 0) (ht : tAgg P t = some false) (hb : S.bx.lookup b = some (.cells ty l)) (hs : l[i.toNat]? = some s) : Sound P o S ⟨True, s, S⟩ :=
  Sound.still fun _ G w a hr => by
    have h1 := hr.ev x; rw [hx] at h1
    obtain ⟨blk, h2, h3⟩ := h1
    rw [Nat.mul_one, Nat.add_zero] at h3
    obtain ⟨blk', arr, g1, g2, g3, g4, g5⟩ := hr.bx _ (lookup_mem hb)
    simp only at g1
    rw [h2] at g1; simp only [Option.some.injEq] at g1; subst g1
    obtain ⟨u, h7, h8⟩ := g4.get _ s hs
    have hc : w.cell? ⟨blk, i.toNat, none⟩ = some u := by simpa [World.cell?, g2] using h7
    exact ⟨u, by simp [execOp, ho, h3, Instr.loadAt, Instr.sureAddr, run_loadVar_one ht hc], h8⟩
theorem sound_store_vpc {o : Oper} {S : St} {t ty : TypeId} {bt : Nat} {z : Option Value} {x y : Operand} {b : Nat} {i : Int} {l : List SV} {s : SV} (ho : o.op = .store t x y) (hx : S.ev x = .vp b 1 i 0) (hi : tInfo P t = some (1, bt, z)) (hb : S.bx.lookup b = some (.cells ty l))
    (hy : S.ev y = s) (hs : s.cells = some [s]) (hlt : i.toNat < l.length) : Sound P o S ⟨True, undefS, S.setBox b (.cells ty (l.set i.toNat s))⟩ := by
  intro _ G w a hr
  have h1 := hr.ev x; rw [hx] at h1
  obtain ⟨blk, h2, h3⟩ := h1
  rw [Nat.mul_one, Nat.add_zero] at h3
  have hry := hr.ev y
  rw [hy] at hry
  obtain ⟨h4, h5⟩ := hry.cells hs
  have hl := h4.length
  obtain ⟨w', e1, e2, e3⟩ := hr.storeBox hb h2 i.toNat h4 h5 (by simp; omega)
  have hset : l.take i.toNat ++ [s] ++ l.drop (i.toNat + [s].length) = l.set i.toNat s := by
    rw [List.set_eq_take_append_cons_drop, if_pos hlt]
    simp
  rw [hset] at e3
  refine ⟨.skip, undef, w', G, ?_, .inr ⟨rfl, rfl⟩, e2, e3, ?_, fun _ _ => rfl⟩
  · have hcs : (a.eval y).cells.size = 1 := by simpa using hl
    simp [execOp, ho, h3, Instr.storeAt, Instr.sureAddr, storeVar, run_sizeOf' hi, hcs, e1 P]
  · simp only [undefS, RepS, Rep]; exact ⟨#[], rfl, by simp [RepL]⟩
/-- The rest of a queue. -/
theorem sound_front {o : Oper} {S : St} {t e : TypeId} {bt : Nat} {z : Option Value} {x : Operand} {k : Key} {g : Nat} {l : List AV} (ho : o.op = .slice t x (some (.const (.int .i64 1))) none none) (hx : S.ev x = .own k g 1 l) (ht : tElem P t = some e) (hi : tInfo P e = some (1, bt, z)) (hl : 1 ≤ l.length) :
    Sound P o S ⟨True, .own k g 1 (l.drop 1), S⟩ :=
  Sound.still fun _ G w a hr => by
    have h1 := hr.ev x; rw [hx] at h1
    obtain ⟨hk0, hgle, ad, cap, es, g1, g2, g3, g4, gn, gsp, g5, g6⟩ := h1
    have hll := g2.length
    refine ⟨.slice (if cap = 1 then ad else ad.map (·.add (1 * 1))) (l.length - 1) (cap - 1), ?_, ?_⟩
    · have : (1 : Int) ≤ (l.length : Int) := by omega
      have hc : a.eval (.const (.int .i64 1)) = .int .i64 1 := rfl
      simp [execOp, ho, g1, hc, Instr.sliceAt, Instr.slice, run_underlying' (elem_und ht), Instr.sliceBounds, Instr.sliceBound, asIntOf, run_sizeOf' hi, this]
    · have hlen : (l.drop 1).length = l.length - 1 := by simp
      refine ⟨hk0, hgle, _, _, es.drop 1, by rw [hlen], g2.drop 1, fun c hc => g3 c (List.mem_of_mem_drop hc), by rw [hlen]; omega, fun hn => ?_, fun ad' hd => ?_, ?_, fun hg => ?_⟩
      · cases ad with
        | none => rw [gn rfl]; rfl
        | some ad' => split at hn <;> simp at hn
      · cases ad with
        | none => split at hd <;> simp at hd
        | some ad2 =>
          have := gsp ad2 rfl
          obtain ⟨bb, oo, ss⟩ := ad2
          simp only at this; subst this
          split at hd
          · simp at hd; subst hd; rfl
          · simp [addr_add] at hd; subst hd; rfl
      · by_cases hc : cap = 1
        · have h0 : l.length = 1 := by omega
          have : es.drop 1 = [] := List.drop_eq_nil_of_le (by omega)
          rw [this]; exact .inl rfl
        · rw [if_neg hc]
          cases ad with
          | none => rw [gn rfl]; exact .inl rfl
          | some ad2 =>
            have := gsp ad2 rfl
            obtain ⟨bb, oo, ss⟩ := ad2
            simp only at this; subst this
            simp only [Option.map_some, addr_add]
            have hv := vcells_drop (sz := 1) es 1 g3
            have ht := List.take_of_length_le (l := (vcells es).drop (1 * 1)) (i := ((vcells es).drop (1 * 1)).length) (Nat.le_refl _)
            rw [hv, ← ht]
            exact g5.sub _ _
      · have g7 := g6 hg
        clear g6
        by_cases hc : cap = 1
        · exact .inl (by subst hc; rfl)
        · rcases g7 with h0 | ⟨b, off, arr, e', rfl, o1, o2, o3, o4, o5⟩
          · exact .inl (by omega)
          · refine .inr ⟨b, off + 1, arr, e', by rw [if_neg hc]; simp [addr_add], o1, o2, ?_, ?_, o5⟩
            · omega
            · rw [o4, hlen]; omega
theorem rows_sl {G : Gh} {w : World} : ∀ (ks : List (Key × List AV)) {us : List Value}, RepSs G w (ks.map (fun p => SV.own p.1 p.2.length 1 p.2)) us → RepL G.U w (ks.map (fun p => AV.sl p.2)) us
  | [], us, h => by
    have h : us = [] := h
    subst h; simp [RepL]
  | k :: ks, us, h => by
    obtain ⟨u, us', rfl, h1, h2⟩ := h
    simp only [List.map_cons, RepL]
    exact ⟨u, us', rfl, RepS.own_sl h1, rows_sl ks h2⟩
def rowsA (R : Nat → List AV) (n : Nat) : List AV := (List.range n).map (fun j => AV.sl (R j))
theorem rowsS_rep {G : Gh} {w : World} {b e : Nat} {R : Nat → List AV} {n : Nat} {us : List Value} (h : RepSs G w (rowsS b e R n) us) : RepL G.U w (rowsA R n) us := by
  have := rows_sl (G := G) (w := w) ((List.range n).map (fun j => (rowK b e j, R j))) (us := us) (by rw [List.map_map]; exact h)
  rw [List.map_map] at this
  exact this
/-- A slice of small values in a box of cells is not written any more. -/
theorem ghost_freeze_cells {S : St} {t b n e : Nat} {l : List SV} {avs : List AV} (hs : slotOf S (some t) = .vs b n) (hb : S.bx.lookup b = some (.cells e l)) (hl : ∀ (G : Gh) (w : World) (us : List Value), RepSs G w l us → RepL G.U w avs us) (hlen : avs.length = n) : Ghost S ((S.forget b).put (some t) (.av (.sl avs))) := by
  intro G w a hr
  obtain ⟨blk, arr, g1, g2, g3, g4, g5⟩ := hr.bx _ (lookup_mem hb)
  simp only at g1
  have hrep := hl G w _ g4
  have hal : arr.toList.length = n := by rw [hrep.length, hlen]
  have hU : ∀ c, G.U c ≤ (G.setU blk n).U c := by
    intro c; simp only [Gh.setU]; split
    · rename_i h; rw [h, g3]; omega
    · omega
  have hkp : ∀ κ, κ ≠ (b, 0) → Keep G w (G.setU blk n) w κ := fun κ hκ => ⟨rfl, fun c hc => ⟨rfl, by
    simp only [Gh.setU]; rw [if_neg (fun he => hκ (hr.wf.inj κ (b, 0) c hc (by rw [he]; exact g1)))]⟩⟩
  have hstep : Step G w (G.setU blk n) w := ⟨⟨hU, Imm.refl _ _, Nat.le_refl _, rfl, rfl, rfl, fun _ _ => rfl, fun _ => Nat.le_refl _, fun κ h0 _ => hkp κ (by intro e; rw [e] at h0; simp at h0)⟩,
    fun c _ hn => ⟨rfl, by simp only [Gh.setU]; rw [if_neg (fun he => hn (b, 0) (by rw [he]; exact g1))]⟩, fun κ c h => .inl ⟨κ, h⟩⟩
  have hwf : Wf (G.setU blk n) w := ⟨hr.wf.inj, hr.wf.lt, fun c hc => by simp only [Gh.setU]; rw [if_neg (fun he => by have := hr.wf.lt _ _ g1; omega)]; exact hr.wf.zero c hc⟩
  have h1 : Rel (G.setU blk n) w (S.forget b) a := (hr.forget b).but (forget_free S b) hstep.toExt hwf hkp rfl
  refine ⟨_, hstep, ⟨h1.wf, by simp only [St.put, List.length_set]; exact h1.size, fun u s hu => ?_, h1.bx, h1.gn, h1.defers⟩, fun _ _ => rfl⟩
  simp only [St.put] at hu
  rw [List.getElem?_set] at hu
  split at hu
  · rename_i hd; subst hd
    split at hu
    · rename_i hlt
      simp only [Option.some.injEq] at hu; subst hu
      have hlt' : t < S.fr.length := by simpa [St.forget] using hlt
      have h0 : S.fr[t]? = some (.vs b n) := by
        simp only [slotOf, List.getD_eq_getElem?_getD] at hs
        rw [List.getElem?_eq_getElem hlt'] at hs ⊢
        simpa using hs
      rcases hr.fr t _ h0 with ⟨rfl, hv, h⟩ | ⟨blk', _, h, hv, h3⟩
      · rw [g1] at h; cases h
      · rw [g1] at h; simp only [Option.some.injEq] at h; subst h
        simp only [RepS, Rep]
        have hones : ∀ c ∈ arr.toList, c.cells = #[c] := fun c hc => by
          have := g5 c hc
          cases c <;> first | rfl | simp [Value.oneCell'] at this
        have hvc : vcells arr.toList = arr.toList := by
          have : ∀ l : List Value, (∀ c ∈ l, c.cells = #[c]) → vcells l = l := by
            intro l
            induction l with
            | nil => intro _; rfl
            | cons x l ih => intro hx; rw [vcells, List.flatMap_cons, ← vcells, ih (fun c hc => hx c (by simp [hc])), hx x (by simp)]; rfl
          exact this _ hones
        refine ⟨some ⟨blk, 0, none⟩, G.cp blk, arr.toList, 1, by rw [hlen]; exact hv, RepL.mono hU (Imm.refl _ _) _ _ hrep, fun x hx => by rw [hones x hx]; rfl, by simp, by rw [hlen]; exact h3, fun _ ad had => by simp at had; subst had; rfl, .inr ⟨blk, 0, rfl, ?_, fun j x hj => ?_⟩⟩
        · rw [hvc, hal]; simp [Gh.setU]
        · rw [hvc] at hj
          exact ⟨by simpa [World.cell?, g2] using hj, g5 x (List.mem_of_getElem? hj)⟩
    · cases hu
  · exact h1.fr u s hu
/-- A slice of one small value that is made. -/
theorem run_build1 {o : Oper} {a : Act} {w : World} {t e : TypeId} {bt : Nat} {z u : Value} {x : Operand} (ho : o.op = .buildSlice t 1 #[(0, x)]) (ht : tElem P t = some e) (hi : tInfo P e = some (1, bt, some z)) (hx : a.eval x = u) (hu : u.cells = #[u]) :
    (execOp a.eval o).run P w = .ok (.value (.slice (some ⟨w.heap.size, 0, none⟩) 1 1)) (w.alloc (.cells #[u] e)) := by
  simp only [execOp, ho, Instr.buildSlice, Sem.run_bind, run_underlying' (elem_und ht), Result.andThen_ok, run_sizeOf' hi]
  simp [newRow, Instr.fill, hx, hu, run_zeroValue' hi]
  congr 2
  apply Array.ext'
  simp
theorem sound_build1 {o : Oper} {S : St} {t e : TypeId} {bt : Nat} {z : Value} {x : Operand} {v : Value} {id : Nat} (ho : o.op = .buildSlice t 1 #[(0, x)]) (ht : tElem P t = some e) (hi : tInfo P e = some (1, bt, some z)) (hx : S.ev x = .av (.val v)) (hu : v.cells = #[v]) (hid : id < 1000) (hn : S.names id = false) :
    Sound P o S ⟨True, .vs id 1, S.addBox id (.vec e 1 [.val v])⟩ := by
  intro _ G w a hr
  have h1 := hr.ev x; rw [hx] at h1; simp only [RepS, Rep] at h1
  obtain ⟨s1, s2, s3⟩ := step_bindc2 hr.wf (.cells #[v] e) id 1
  have hr1 := hr.but hn s1.toExt s2 s3 rfl
  refine ⟨_, _, _, _, ?_, .inl rfl, s1, hr1.add (.inr ⟨w.heap.size, #[v], [v], by simp, by simp [Gh.bindc], heap_alloc_new w _, hr.wf.zero _ (Nat.le_refl _), by simp [Gh.bindc], by simp only [RepL]; exact ⟨v, [], rfl, by simp only [Rep]; exact ⟨trivial, h1.2⟩, rfl⟩, ?_, ⟨[], ?_⟩, ?_⟩), .inr ⟨w.heap.size, by simp, by simp [Gh.bindc], rfl, by simp [Gh.bindc]⟩, fun j hj => ?_⟩
  · have := run_build1 ho ht hi h1.1 hu (w := w)
    rw [this]
    simp [Gh.bindc]
  · intro c hc
    simp at hc; subst hc; rw [hu]; rfl
  · simp [vcells, hu]
  · intro c hc
    simp [vcells, hu] at hc; subst hc; exact h1.2
  · simp only [Gh.bindc]; rw [if_neg (by intro h; simp only [Prod.mk.injEq] at h; omega)]
theorem sound_build1_own {o : Oper} {S : St} {t e : TypeId} {bt : Nat} {z : Value} {x : Operand} {v : Value} (d : Nat) (ho : o.op = .buildSlice t 1 #[(0, x)]) (ht : tElem P t = some e) (hi : tInfo P e = some (1, bt, some z)) (hx : S.ev x = .av (.val v)) (hu : v.cells = #[v]) :
    Sound P o S ⟨True, .own (d, e + 1) (S.gen (d, e + 1) + 1) 1 [.val v], S.next (d, e + 1)⟩ := by
  intro _ G w a hr
  have h1 := hr.ev x; rw [hx] at h1; simp only [RepS, Rep] at h1
  have hk0 : 0 < ((d, e + 1) : Key).2 := Nat.succ_pos e
  have hk2 : ∀ κ : Key, κ.2 = 0 → κ ≠ (d, e + 1) := by intro κ h0 he; rw [he] at h0; simp at h0
  obtain ⟨s1, s2, s3⟩ := step_tok0 hr.wf (.cells #[v] e) hk0 1
  refine ⟨_, .slice (some ⟨w.heap.size, 0, none⟩) 1 1, w.alloc (.cells #[v] e), _, by rw [run_build1 ho ht hi h1.1 hu (w := w)], .inl rfl, s1, hr.nextTok s1.toExt s2 (fun κ h0 => s3 κ (hk2 κ h0)) (next_gen (G := G.setU _ _) hr.gn _ _), ?_, fun i _ => by simp only [Gh.next, Gh.setU]; rw [if_neg (hk2 (i, 0) rfl)]⟩
  have hg : G.gen (d, e + 1) = S.gen (d, e + 1) := hr.gn _
  have hv : vcells [v] = [v] := by simp [vcells, hu]
  refine ⟨hk0, by simp only [Gh.next, Gh.setU, if_true]; omega, some ⟨w.heap.size, 0, none⟩, 1, [v], rfl, by simp only [RepL]; exact ⟨v, [], rfl, by simp only [Rep]; exact ⟨trivial, h1.2⟩, rfl⟩, fun c hc => by simp at hc; subst hc; rw [hu]; rfl, by simp, by simp, by simp, .inr ⟨w.heap.size, 0, rfl, by rw [hv]; simp [Gh.next, Gh.setU], fun j c hj => ?_⟩, fun _ => .inr ⟨w.heap.size, 0, #[v], e, rfl, by simp [Gh.next], heap_alloc_new w _, by simp, by simp [Gh.next, Gh.setU], rfl⟩⟩
  rw [hv] at hj
  have hc := heap_alloc_new w (.cells #[v] e)
  refine ⟨by simp only [World.cell?, hc, Nat.zero_add]; simpa using hj, ?_⟩
  have := List.mem_of_getElem? hj
  simp at this; subst this; exact h1.2
/-- An operation that leaves the boxes as they are. -/
theorem WO_pure {ops : Array Oper} {o : Oper} {rest : List Oper} {Q : St → Prop} {S : St} (v : SV) (d : Nat) (hg : (o.guard, o.dst) = (none, some d)) (h : astep P o S = some ⟨True, v, S⟩) (hn : WO P ops rest Q (S.put (some d) v)) : WO P ops (o :: rest) Q S := by
  simp only [Prod.mk.injEq] at hg
  refine WO_sound hg.1 (astep_sound h) trivial ?_
  rw [hg.2]; exact hn
theorem WO_pureP {ops : Array Oper} {o : Oper} {rest : List Oper} {Q : St → Prop} {S : St} {p : Prop} (v : SV) (d : Nat) (hp : p) (hg : (o.guard, o.dst) = (none, some d)) (h : astep P o S = some ⟨p, v, S⟩) (hn : WO P ops rest Q (S.put (some d) v)) : WO P ops (o :: rest) Q S := by
  simp only [Prod.mk.injEq] at hg
  refine WO_sound hg.1 (astep_sound h) hp ?_
  rw [hg.2]; exact hn
theorem WO_own {ops : Array Oper} {o : Oper} {rest : List Oper} {Q : St → Prop} {S S' : St} (v : SV) (d : Nat) (hg : (o.guard, o.dst) = (none, some d)) (h : Sound P o S ⟨True, v, S'⟩) (hn : WO P ops rest Q (S'.put (some d) v)) : WO P ops (o :: rest) Q S := by
  simp only [Prod.mk.injEq] at hg
  refine WO_sound hg.1 h trivial ?_
  rw [hg.2]; exact hn
theorem WKg {S : St} {n : Nat} {l : List (Nat × SV)} {bx : List (Nat × ABox)} {gn : List (Key × Nat)} (h : (S.fr.length, (keysOf l).map (fun k => S.fr[k]?), (bkeys bx).map (fun b => S.bx.lookup b)) = (n, valsOf l, bvals bx)) (hg : ∀ k : Key, S.gen k = (gn.lookup k).getD 0) : Weak S (sx n l bx gn) := by
  simp only [Prod.mk.injEq] at h
  obtain ⟨h1, h2, h3⟩ := h
  have hw := weak_seesB (S := S) (n := n) (l := l) (bx := bx) (gn := S.gn) (by simp only [seesB, h1, h2, h3])
  intro G w a hr
  have hr2 := hw G w a hr
  exact ⟨hr2.wf, hr2.size, hr2.fr, hr2.bx, fun k => by rw [hr2.gn k]; exact hg k, hr2.defers⟩
def upR (R : Nat → List AV) (i : Nat) (x : AV) : Nat → List AV := fun j => if j = i then R j ++ [x] else R j
theorem rowsS_get {b e : Nat} {R : Nat → List AV} {n i : Nat} (h : i < n) : (rowsS b e R n)[i]? = some (.own (rowK b e i) (R i).length 1 (R i)) := by simp [rowsS, h]
theorem rowsS_set {b e : Nat} {R : Nat → List AV} {n i : Nat} (x : AV) (h : i < n) : (rowsS b e R n).set i (.own (rowK b e i) ((R i).length + 1) 1 (R i ++ [x])) = rowsS b e (upR R i x) n := by
  apply List.ext_getElem?
  intro j
  rw [List.getElem?_set]
  by_cases hj : j < n
  · rw [rowsS_get hj]
    by_cases hij : i = j
    · subst hij
      simp [rowsS, h, upR]
    · rw [if_neg hij, rowsS_get hj]
      simp [upR, show ¬ j = i from fun e => hij e.symm]
  · have h1 : (rowsS b e (upR R i x) n)[j]? = none := by simp [rowsS]; omega
    have h2 : (rowsS b e R n)[j]? = none := by simp [rowsS]; omega
    rw [h1, h2, if_neg (by omega)]
theorem rowsG_gen (b e : Nat) (R : Nat → List AV) (n : Nat) (κ : Key) : ((rowsG b e R n).lookup κ).getD 0 = if κ.2 = e + 1 ∧ b ≤ κ.1 ∧ κ.1 < b + n then (R (κ.1 - b)).length else 0 := by
  have gen : ∀ (l : List Nat), ((l.map (fun j => (rowK b e j, (R j).length))).lookup κ).getD 0 = if κ.2 = e + 1 ∧ b ≤ κ.1 ∧ (κ.1 - b) ∈ l then (R (κ.1 - b)).length else 0 := by
    intro l
    induction l with
    | nil => simp
    | cons j l ih =>
      rw [List.map_cons, List.lookup_cons]
      by_cases h : κ = rowK b e j
      · subst h
        simp [rowK]
      · rw [show (κ == rowK b e j) = false by rw [beq_eq_false_iff_ne]; exact h]
        simp only []
        rw [ih]
        have : (κ.2 = e + 1 ∧ b ≤ κ.1 ∧ κ.1 - b ∈ j :: l) ↔ (κ.2 = e + 1 ∧ b ≤ κ.1 ∧ κ.1 - b ∈ l) := by
          constructor
          · rintro ⟨h1, h2, h3⟩
            refine ⟨h1, h2, ?_⟩
            rcases List.mem_cons.1 h3 with h3 | h3
            · exact absurd (show κ = rowK b e j from by
                obtain ⟨k1, k2⟩ := κ
                simp only [rowK, Prod.mk.injEq] at h1 h2 h3 ⊢
                exact ⟨by omega, h1⟩) h
            · exact h3
          · rintro ⟨h1, h2, h3⟩
            exact ⟨h1, h2, List.mem_cons_of_mem _ h3⟩
        simp only [this]
  have := gen (List.range n)
  rw [rowsG, this]
  have h2 : (κ.2 = e + 1 ∧ b ≤ κ.1 ∧ κ.1 - b ∈ List.range n) ↔ (κ.2 = e + 1 ∧ b ≤ κ.1 ∧ κ.1 < b + n) := by
    rw [List.mem_range]
    constructor <;> rintro ⟨h1, h2, h3⟩ <;> exact ⟨h1, h2, by omega⟩
  simp only [h2]
theorem next_genS (S : St) (k κ : Key) : (S.next k).gen κ = if κ = k then S.gen k + 1 else S.gen κ := by
  have h := next_gen (G := { U := fun _ => 0, cp := fun _ => 0, ow := fun _ => none, gen := S.gen, df := [] }) (S := S) (fun _ => rfl) k 0 κ
  rw [← h]
  simp only [Gh.next]
  by_cases hk : κ = k
  · rw [if_pos hk, if_pos hk, hk]
  · rw [if_neg hk, if_neg hk]
theorem rows_next {S : St} {b e : Nat} {R : Nat → List AV} {n i : Nat} {x : AV} (hg : ∀ κ : Key, S.gen κ = ((rowsG b e R n).lookup κ).getD 0) (hi : i < n) (κ : Key) : (S.next (rowK b e i)).gen κ = ((rowsG b e (upR R i x) n).lookup κ).getD 0 := by
  rw [next_genS, hg, hg, rowsG_gen, rowsG_gen, rowsG_gen]
  by_cases h : κ = rowK b e i
  · subst h
    simp [rowK, hi, upR]
  · rw [if_neg h]
    by_cases h2 : κ.2 = e + 1 ∧ b ≤ κ.1 ∧ κ.1 < b + n
    · rw [if_pos h2, if_pos h2]
      have : ¬ κ.1 - b = i := fun h3 => h (by
        obtain ⟨k1, k2⟩ := κ
        simp only [rowK, Prod.mk.injEq] at h2 h3 ⊢
        exact ⟨by omega, h2.1⟩)
      simp [upR, this]
    · rw [if_neg h2, if_neg h2]
theorem rows_at (b e : Nat) (R : Nat → List AV) {n i : Nat} (hi : i < n) : ((rowsG b e R n).lookup (rowK b e i)).getD 0 = (R i).length := by
  rw [rowsG_gen]
  simp [rowK, hi]
theorem WO_app {ops : Array Oper} {o : Oper} {rest : List Oper} {Q : St → Prop} {S : St} {t e : TypeId} {sz bt : Nat} {z : Value} {x y : Operand} {k : Key} {g : Nat} {l l' : List AV} (d : Nat) (hg : (o.guard, o.dst) = (none, some d)) (ho : o.op = .call { callee := .builtin .append, args := #[x, y], argTypes := #[t, t] })
    (hx : S.ev x = .own k g sz l) (hy : (S.ev y).toAV = some (.sl l')) (hk : e + 1 = k.2) (ht : tElem P t = some e) (hi : tInfo P e = some (sz, bt, some z)) (hz : z.cells.size = sz) (hbt : 0 < bt) (h2 : notInt P t = true)
    (hp : S.gen k = g ∧ Uni sz l' ∧ (l.length + l'.length) * bt ≤ 140737488355328) (hn : WO P ops rest Q ((S.next k).put (some d) (.own k (g + 1) sz (l ++ l')))) : WO P ops (o :: rest) Q S := by
  simp only [Prod.mk.injEq] at hg
  refine WO_sound hg.1 (astep_sound (append_own_step ho hg.2 hx hy hk ht hi hz hbt h2)) hp ?_
  rw [hg.2]; exact hn
theorem WO_ownN {ops : Array Oper} {o : Oper} {rest : List Oper} {Q : St → Prop} {S S' : St} {v : SV} (hg : (o.guard, o.dst) = (none, none)) (h : Sound P o S ⟨True, v, S'⟩) (hn : WO P ops rest Q S') : WO P ops (o :: rest) Q S := by
  simp only [Prod.mk.injEq] at hg
  refine WO_sound hg.1 h trivial ?_
  rw [hg.2]; exact hn
theorem FRC {P : Program} {α : Type} {K : α → Exit → St → Prop} {M : α} {X : Cf} (t b : Nat) {n e : Nat} {l : List SV} {avs : List AV} (h : (slotOf (stOf X) (some t), (stOf X).bx.lookup b) = (.vs b n, some (.cells e l)))
    (hl : ∀ (G : Gh) (w : World) (us : List Value), RepSs G w l us → RepL G.U w avs us) (hlen : avs.length = n) (hx : Nx P K M (reSt X (((stOf X).forget b).put (some t) (.av (.sl avs))))) : Nx P K M X := by
  simp only [Prod.mk.injEq] at h
  exact GHOST (ghost_freeze_cells h.1 h.2 hl hlen) hx
theorem WKh {S : St} {n : Nat} {l : List (Nat × SV)} {bx : List (Nat × ABox)} {gn : List (Key × Nat)} (gn0 : List (Key × Nat)) (h : (S.fr.length, (keysOf l).map (fun k => S.fr[k]?), (bkeys bx).map (fun b => S.bx.lookup b), S.gn) = (n, valsOf l, bvals bx, gn0)) (hg : ∀ k : Key, (gn0.lookup k).getD 0 = (gn.lookup k).getD 0) : Weak S (sx n l bx gn) := by
  simp only [Prod.mk.injEq] at h
  obtain ⟨h1, h2, h3, h4⟩ := h
  refine WKg (by rw [h1, h2, h3]) (fun k => ?_)
  rw [← hg k, ← h4]; rfl
theorem q_gn (k : Key) (g : Nat) (l : List (Key × Nat)) (κ : Key) : ((((k, g + 1) :: dropKey k ((k, g) :: l)) : List (Key × Nat)).lookup κ).getD 0 = ((((k, g + 1) :: l) : List (Key × Nat)).lookup κ).getD 0 := by
  have h := next_genS ⟨[], [], (k, g) :: l⟩ k κ
  have e0 : (⟨[], [], (k, g) :: l⟩ : St).gen k = g := by simp [St.gen]
  rw [e0] at h
  have e1 : ((((k, g + 1) :: dropKey k ((k, g) :: l)) : List (Key × Nat)).lookup κ).getD 0 = ((⟨[], [], (k, g) :: l⟩ : St).next k).gen κ := by rw [St.next, e0]; rfl
  rw [e1, h, List.lookup_cons]
  by_cases hk : κ = k
  · subst hk; simp
  · rw [if_neg hk, show (κ == k) = false by rw [beq_eq_false_iff_ne]; exact hk]
    simp only [St.gen, List.lookup_cons, show (κ == k) = false by rw [beq_eq_false_iff_ne]; exact hk]
end Go.Eng
namespace Go.Proofs.YtcdfhagcchmnhaaGreatDoor
open Go Go.Eng
def aRow (r : List Int) : AV := .sl (r.map vI)
def bAV (b : Bool) : AV := .val (.bool b)
def OkN (next : List (List Int)) : Prop := (∀ r ∈ next, r.length ≤ 1048576 ∧ ∀ j ∈ r, 0 ≤ j ∧ j < (next.length : Int)) ∧ next.length ≤ 1048576
def innK (k : List Bool → List Int → Bool) (start : Int) : List Int → List Bool → List Int → Bool
  | [], s, t => k s t
  | j :: r, s, t => cond (j == start) true (cond (!s.getD j.toNat false) (innK k start r (s.set j.toNat true) (t ++ [j])) (innK k start r s t))
def ret (next : List (List Int)) (start : Int) : Nat → List Bool → List Int → Bool
  | 0, _, _ => false
  | n + 1, s, t => match t.getLast? with
    | none => false
    | some i => innK (ret next start n) start (el next i.toNat) s t.dropLast
def retM (next : List (List Int)) (start : Int) : Bool := ret next start (next.length + 2) (List.replicate next.length false) [start]
theorem el_aRow (xs : List (List Int)) (i : Int) (h0 : 0 ≤ i) (h : i < (xs.length : Int)) : 0 ≤ i ∧ (xs.map aRow)[i.toNat]? = some (aRow (el xs i.toNat)) := elxI rfl h0 h rfl
theorem el_bAV (xs : List Bool) (i : Int) (h0 : 0 ≤ i) (h : i < (xs.length : Int)) : 0 ≤ i ∧ (xs.map bAV)[i.toNat]? = some (bAV (xs.getD i.toNat false)) := by
  refine ⟨h0, ?_⟩
  have : i.toNat < xs.length := by omega
  simp [this]
theorem weak_vec1 {n : Nat} {sl : List (Nat × SV)} {gn : List (Key × Nat)} {b e sz : Nat} {l l' : List AV} {q r : List (Nat × ABox)} (h : l = l') : Weak (sx n sl (q ++ (b, .vec e sz l) :: r) gn) (sx n sl (q ++ (b, .vec e sz l') :: r) gn) := by subst h; exact fun _ _ _ h => h
noncomputable def A1 : Array Oper := (regAt 1 (bodyOf Tryz.f28)).getD #[]
noncomputable def A2 : Array Oper := (regAt 2 (bodyOf Tryz.f28)).getD #[]
noncomputable def a1 (i : Nat) : Oper := A1.getD i (A1.getD 0 default)
noncomputable def a2 (i : Nat) : Oper := A2.getD i (A2.getD 0 default)
def Ra (next : List (List Int)) (start : Int) : St := sx 54 [(0, .av (.sl (next.map aRow))), (1, jI start)] [] []
def Rb (next : List (List Int)) (start : Int) : St := sx 54 [(0, .av (.sl (next.map aRow))), (1, jI start), (5, .vs 12 (lenM aRow next))] [(12, .vec 4 1 (List.replicate (lenM aRow next) (.val (.bool false))))] []
def Rc (next : List (List Int)) (start : Int) : St := sx 54 [(0, .av (.sl (next.map aRow))), (1, jI start), (5, .vs 12 (lenM aRow next)), (6, .vs 14 1)] [(12, .vec 4 1 (List.replicate (lenM aRow next) (.val (.bool false)))), (14, .vec 3 1 [.val (.int .i64 start)])] []
set_option maxRecDepth 100000 in
set_option maxHeartbeats 4000000 in
theorem ra1 (next : List (List Int)) (start : Int) (hl : next.length ≤ 1048576) : W Tryz.prog (.region 1 A1 false) (fun e S1 => e = .normal ∧ Weak S1 (Rb next start)) (Ra next start) := by
  have hlm := lenM_eq aRow next
  refine W_regionO ?_
  rw [show A1.toList = [a1 0, a1 1, a1 2, a1 3] by kernel_rfl]
  refine WO_pure (.av (.sl (next.map aRow))) 10 (by kernel_rfl) (by kernel_rfl) ?_
  refine WO_pure (jI ((lenM aRow next : Nat) : Int)) 11 (by kernel_rfl) (by kernel_rfl) ?_
  refine WO_own (.vs 12 (lenM aRow next)) 12 (by kernel_rfl) (sound_makeVec (id := 12) (n := lenM aRow next) (t := 104) (e := 4) (bt := 1) (z := .bool false) (x := .tmp 11) (y := .tmp 11) (k := .i64) (k' := .i64) (by kernel_rfl) (by kernel_rfl) (by kernel_rfl) (by kernel_rfl) (by kernel_rfl) rfl rfl (by omega) (by omega) (by decide) (by kernel_rfl)) ?_
  refine WO_pure (.vs 12 (lenM aRow next)) 5 (by kernel_rfl) (by kernel_rfl) ?_
  refine WO_nil rfl ⟨rfl, WK (by kernel_rfl)⟩
set_option maxRecDepth 100000 in
set_option maxHeartbeats 4000000 in
theorem ra2 (next : List (List Int)) (start : Int) : W Tryz.prog (.region 2 A2 false) (fun e S1 => e = .normal ∧ Weak S1 (Rc next start)) (Rb next start) := by
  refine W_regionO ?_
  rw [show A2.toList = [a2 0, a2 1, a2 2] by kernel_rfl]
  refine WO_pure (jI start) 13 (by kernel_rfl) (by kernel_rfl) ?_
  refine WO_own (.vs 14 1) 14 (by kernel_rfl) (sound_build1 (id := 14) (t := 70) (e := 3) (bt := 8) (z := .int .i64 0) (x := .tmp 13) (v := .int .i64 start) (by kernel_rfl) (by kernel_rfl) (by kernel_rfl) (by kernel_rfl) rfl (by decide) (by kernel_rfl)) ?_
  refine WO_pure (.vs 14 1) 6 (by kernel_rfl) (by kernel_rfl) ?_
  refine WO_nil rfl ⟨rfl, WK (by kernel_rfl)⟩
theorem cnt_set : ∀ (s : List Bool) (i : Nat), i < s.length → s.getD i false = false → (s.set i true).count false + 1 = s.count false
  | b :: s, 0, _, h => by
    have h : b = false := h
    subst h; simp
  | b :: s, i + 1, h1, h2 => by
    have := cnt_set s i (by simpa using h1) (by simpa using h2)
    cases b <;> simp <;> omega
theorem take_last {B : List Int} {n : Nat} (h0 : 0 < n) (h : n ≤ B.length) : B.take n = B.take (n - 1) ++ [el B (n - 1)] := by
  obtain ⟨m, rfl⟩ : ∃ m, n = m + 1 := ⟨n - 1, by omega⟩
  exact take_succ_el (by omega)
theorem ret_snoc (next : List (List Int)) (start : Int) (n : Nat) (s : List Bool) (t : List Int) (i : Int) : ret next start (n + 1) s (t ++ [i]) = innK (ret next start n) start (el next i.toNat) s t := by simp [ret]
theorem set_bAV (s : List Bool) (i : Nat) (h : i < s.length) : (s.map bAV).getD i (.val undef) = bAV (s.getD i false) := by simp [h]
theorem upd_bAV (b : Bool) (v : AV) : (bAV b).upd 0 v = v := rfl
theorem drop_consI {l : List Int} {v : Nat} (h : v < l.length) : l.drop v = el l v :: l.drop (v + 1) := drop_el h
theorem el_vI' (xs : List Int) (i : Int) (k : Nat) (hk : i = (k : Int)) (h : k < xs.length) : 0 ≤ i ∧ (xs.map vI)[i.toNat]? = some (vI (el xs k)) := by
  subst hk
  exact elx rfl h rfl
set_option maxRecDepth 100000 in
set_option maxHeartbeats 4000000 in
theorem ret_to (next : List (List Int)) (start : Int) (hok : OkN next) (h0 : 0 ≤ start) (h1 : start < (next.length : Int)) : CallTo Tryz.prog 28 [.av (.sl (next.map aRow)), jI start] [] [] (jB (retM next start)) [] [] := by
  have hlm := lenM_eq aRow next
  obtain ⟨hrow, hlen⟩ := hok
  refine BEG (fun r : Bool => jB r) (retM next start) Tryz.func28 (by kernel_rfl) ?_
  refine UF (retM.eq_1 ..) ?_
  refine GO (tn 1 (kq 1 z)) (by kernel_rfl) ?_
  refine NXW (Rb next start) (kq 2 z) (by kernel_rfl) ?_ (by kernel_rfl) ?_
  · refine W_weak (S' := Ra next start) (WK (by kernel_rfl)) ?_
    exact W_code (c' := .region 1 A1 false) (by kernel_rfl) (ra1 next start hlen)
  refine NXW (Rc next start) z (by kernel_rfl) ?_ (by kernel_rfl) ?_
  · refine W_weak (S' := Rb next start) (WK (by kernel_rfl)) ?_
    exact W_code (c' := .region 2 A2 false) (by kernel_rfl) (ra2 next start)
  have hrep : List.replicate (lenM aRow next) (AV.val (.bool false)) = (List.replicate next.length false).map bAV := by rw [hlm, List.map_replicate]; rfl
  refine LP (n := next.length + 2) (fun N M S => ∃ (s : List Bool) (B : List Int) (n : Nat), (s.length = next.length) ∧ (n ≤ B.length) ∧ (∀ j ∈ B, 0 ≤ j ∧ j < (next.length : Int)) ∧ (n + s.count false ≤ next.length + 1) ∧ (n + s.count false < N) ∧ M = ret next start N s (B.take n) ∧ S = (sx 54 [(0, .av (.sl (next.map aRow))), (1, jI start), (5, .vs 12 (lenM aRow next)), (6, .vs 14 n)] ([] ++ (12, .vec 4 1 (s.map bAV)) :: [(14, .vec 3 1 (B.map vI))]) [])) (by kernel_rfl)
    ⟨List.replicate next.length false, [start], 1, by simp, by simp, by intro j hj; simp at hj; subst hj; exact ⟨h0, h1⟩, by simp; omega, by simp; omega, rfl, rfl⟩ (wtr (WK (bx := [] ++ (12, .vec 4 1 (List.replicate (lenM aRow next) (.val (.bool false)))) :: [(14, .vec 3 1 ([start].map vI))]) (by kernel_rfl)) (weak_vec1 hrep)) ?_
  rintro n0 M S ⟨s, B, n, hs, hn, hB, hn2, hF0, rfl, rfl⟩
  obtain ⟨n0, rfl⟩ : ∃ k, n0 = k + 1 := ⟨n0 - 1, by omega⟩
  refine GO (tn 3 z) (by kernel_rfl) ?_
  by_cases h2 : 0 < n
  · have hd : decide (((n : Nat) : Int) > 0) = true := dT (by omega)
    have hlast := take_last h2 hn
    obtain ⟨i, hi⟩ : ∃ i, el B (n - 1) = i := ⟨_, rfl⟩
    rw [hi] at hlast
    obtain ⟨hi0, hi1⟩ : 0 ≤ i ∧ i < (next.length : Int) := by rw [← hi]; exact hB _ (el_mem (by omega))
    rw [hlast]
    refine UF (ret_snoc ..) ?_
    obtain ⟨row, hrw⟩ : ∃ row, el next i.toNat = row := ⟨_, rfl⟩
    have hrm : row ∈ next := by rw [← hrw]; exact el_mem (by omega)
    obtain ⟨hr1, hr2⟩ := hrow row hrm
    have hel := el_aRow next i hi0 hi1
    rw [hrw] at hel ⊢
    have hlr := lenM_eq vI row
    have hw1 := wrE (((n : Nat) : Int) - 1) (((n - 1 : Nat) : Int)) (by omega)
    have hke := el_vI' B (((n - 1 : Nat) : Int)) (n - 1) rfl (by omega)
    rw [hi] at hke
    refine GO (kb hd (tn 3 (kn hw1 (kp (show 0 ≤ (((n - 1 : Nat) : Int)) ∧ (((n - 1 : Nat) : Int)) < ((n : Nat) : Int) from ⟨by omega, by omega⟩) (ke hke (tn 4 (kn hw1 (kp (show (0 : Int) = 0 ∧ 0 ≤ (((n - 1 : Nat) : Int)) ∧ (((n - 1 : Nat) : Int)) ≤ ((n : Nat) : Int) from ⟨rfl, by omega, by omega⟩) (tn 3 (ke hel (tn 3 z))))))))))) (by kernel_rfl) ?_
    refine LP (n := row.length + 1) (fun N M S => ∃ (k : Nat) (s : List Bool) (B : List Int) (n : Nat), (k ≤ row.length) ∧ (s.length = next.length) ∧ (n ≤ B.length) ∧ (∀ j ∈ B, 0 ≤ j ∧ j < (next.length : Int)) ∧ (n + s.count false < n0) ∧ (n + s.count false ≤ next.length) ∧ (row.length - k < N) ∧ M = innK (ret next start n0) start (row.drop k) s (B.take n) ∧ S = (sx 54 [(0, .av (.sl (next.map aRow))), (1, jI start), (5, .vs 12 (lenM aRow next)), (6, .vs 14 n), (32, jL (row.map vI)), (33, jI ((lenM vI row : Nat) : Int)), (34, jI ((k : Nat) : Int))] ([] ++ (12, .vec 4 1 (s.map bAV)) :: [(14, .vec 3 1 (B.map vI))]) [])) (by kernel_rfl)
      ⟨0, s, B, n - 1, by omega, hs, by omega, hB, by omega, by omega, by omega, rfl, rfl⟩ (WK (by kernel_rfl)) ?_
    rintro m0 M S ⟨k, s, B, n, hk, hs, hn, hB, hF0, hFn, hF1, rfl, rfl⟩
    obtain ⟨m0, rfl⟩ : ∃ k, m0 = k + 1 := ⟨m0 - 1, by omega⟩
    refine GO (tn 1 z) (by kernel_rfl) ?_
    by_cases h3 : k < row.length
    · have hd : decide ((((k : Nat) : Int) : Int) < ((lenM vI row : Nat) : Int)) = true := dT (by omega)
      obtain ⟨j, hj⟩ : ∃ j, el row k = j := ⟨_, rfl⟩
      obtain ⟨hj0, hj1⟩ : 0 ≤ j ∧ j < (next.length : Int) := by rw [← hj]; exact hr2 _ (el_mem h3)
      have hke := el_vI' row ((k : Nat) : Int) k rfl h3
      rw [drop_consI h3]
      rw [hj] at hke ⊢
      have hw1 := wrE (((k : Nat) : Int) + 1) (((k + 1 : Nat) : Int)) (by omega)
      refine UF (innK.eq_2 ..) ?_
      refine GO (kb hd (ke hke (tn 5 z))) (by kernel_rfl) ?_
      refine CSe (fun h4p h4 => ?_) (fun h4p h4 => ?_)
      · refine GO (kb h4 (tn 1 z)) (by kernel_rfl) ?_
        refine OUT z (by kernel_rfl) ?_
        refine OUT z (by kernel_rfl) ?_
        exact EN (by kernel_rfl)
      · have hjb : 0 ≤ j ∧ j < ((lenM aRow next : Nat) : Int) := ⟨hj0, by omega⟩
        have hkb := el_bAV s j hj0 (by omega)
        refine GO (kb h4 (tn 2 (kp hjb (ke hkb (tn 1 z))))) (by kernel_rfl) ?_
        refine CS (fun h5 => ?_) (fun h5 => ?_)
        · have h5n := nott h5
          have hjs : j.toNat < s.length := by omega
          have hcnt := cnt_set s j.toNat hjs h5n
          have hgd := set_bAV s j.toNat hjs
          have hu1 : Uni 1 [vI j] := uni_one rfl rfl
          refine GO (kb h5 (tn 2 (kp hjb (kp (show 0 ≤ j ∧ j < ((s.map bAV).length : Int) ∧ 0 + 1 ≤ ((s.map bAV).getD j.toNat (.val undef)).cells.length ∧ ((s.map bAV).getD j.toNat (.val undef)).isTup = false ∧ (bAV true).isTup = false ∧ (bAV true).cells.length = 1 ∧ 0 < 1 from ⟨hj0, by rw [List.length_map]; omega, by rw [hgd]; exact Nat.le_refl _, by rw [hgd]; rfl, rfl, rfl, by decide⟩) (tn 2 (kp hu1 (kp (show n ≤ (B.map vI).length ∧ Uni 1 [vI j] ∧ (n + [vI j].length) * 8 ≤ 140737488355328 from ⟨by rw [List.length_map]; exact hn, hu1, by simp; omega⟩) (tn 1 (kn hw1 (tn 1 z)))))))))) (by kernel_rfl) ?_
          have e1 : (s.map bAV).set j.toNat (((s.map bAV).getD j.toNat (.val undef)).upd 0 (bAV true)) = (s.set j.toNat true).map bAV := by rw [hgd, upd_bAV, List.map_set]
          have e2 : (B.map vI).take n ++ [vI j] = (B.take n ++ [j]).map vI := by simp [List.map_take]
          have e3 : (B.take n ++ [j]).take (n + 1) = B.take n ++ [j] := List.take_of_length_le (by simp; omega)
          exact AG ⟨k + 1, s.set j.toNat true, B.take n ++ [j], n + 1, by omega, by rw [List.length_set]; exact hs, by simp; omega, fun x hx => by
            rcases List.mem_append.1 hx with hx | hx
            · exact hB x (List.mem_of_mem_take hx)
            · rw [List.mem_singleton] at hx; subst hx; exact ⟨hj0, hj1⟩, by omega, by omega, by omega, by rw [e3], rfl⟩
            (wtr (WK (bx := [] ++ (12, .vec 4 1 ((s.map bAV).set j.toNat (((s.map bAV).getD j.toNat (.val undef)).upd 0 (bAV true)))) :: [(14, .vec 3 1 ((B.map vI).take n ++ [vI j]))]) (by kernel_rfl)) (wtr (weak_vec1 e1) (weak_vec1 (q := [(12, _)]) e2))) (by kernel_rfl) (Nat.lt_succ_self _)
        · refine GO (kb h5 (kn hw1 (tn 1 z))) (by kernel_rfl) ?_
          exact AG ⟨k + 1, s, B, n, by omega, hs, hn, hB, by omega, by omega, by omega, rfl, rfl⟩ (WK (by kernel_rfl)) (by kernel_rfl) (Nat.lt_succ_self _)
    · have hd : decide ((((k : Nat) : Int) : Int) < ((lenM vI row : Nat) : Int)) = false := dF (by omega)
      rw [List.drop_eq_nil_of_le (by omega)]
      refine UF (innK.eq_1 ..) ?_
      refine GO (kb hd z) (by kernel_rfl) ?_
      refine OUT z (by kernel_rfl) ?_
      exact AG ⟨s, B, n, hs, hn, hB, by omega, by omega, rfl, rfl⟩ (WK (by kernel_rfl)) (by kernel_rfl) (Nat.lt_succ_self _)
  · have hd : decide (((n : Nat) : Int) > 0) = false := dF (by omega)
    have hz : n = 0 := by omega
    subst hz
    refine GO (kb hd z) (by kernel_rfl) ?_
    refine OUT (tn 1 z) (by kernel_rfl) ?_
    exact EN (by kernel_rfl)
end Go.Proofs.YtcdfhagcchmnhaaGreatDoor
namespace Go.Proofs.YtcdfhagcchmnhaaGreatDoor
open Go Go.Eng
def upQ (Q : Nat → List Int) (i : Nat) (x : Int) : Nat → List Int := fun j => if j = i then Q j ++ [x] else Q j
def RQ (Q : Nat → List Int) : Nat → List AV := fun j => (Q j).map vI
theorem upR_Q (Q : Nat → List Int) (i : Nat) (x : Int) : upR (RQ Q) i (vI x) = RQ (upQ Q i x) := by
  funext j
  by_cases h : j = i
  · simp [upR, RQ, upQ, h]
  · simp [upR, RQ, upQ, h]
def bkRow (i : Int) : List Int → (Nat → List Int) → (Nat → List Int)
  | [], Q => Q
  | j :: r, Q => bkRow i r (upQ Q j.toNat i)
def bkAll : Nat → List (List Int) → (Nat → List Int) → (Nat → List Int)
  | _, [], Q => Q
  | i, r :: rs, Q => bkAll (i + 1) rs (bkRow (i : Int) r Q)
def bInn (i : Int) : List Int → List Int → List Int → List Int × List Int
  | [], s, t => (s, t)
  | j :: r, s, t => cond (decide (s.getD j.toNat 0 < 0)) (bInn i r (s.set j.toNat (s.getD i.toNat 0 + 1)) (t ++ [j])) (bInn i r s t)
def bfs (B : List (List Int)) : Nat → List Int → List Int → List Int
  | 0, s, _ => s
  | _ + 1, s, [] => s
  | n + 1, s, i :: t => bfs B n (bInn i (el B i.toNat) s (i :: t)).1 ((bInn i (el B i.toNat) s (i :: t)).2.drop 1)
def distC (n : Nat) (to : Int) (Q : Nat → List Int) : List Int := bfs ((List.range n).map Q) (n + 2) ((List.replicate n (-1)).set to.toNat 0) [to]
def distM (next : List (List Int)) (to : Int) : List Int := distC next.length to (bkAll 0 next (fun _ => []))
theorem rowsA_Q (Q : Nat → List Int) (n : Nat) : rowsA (RQ Q) n = ((List.range n).map Q).map aRow := by simp [rowsA, RQ, aRow]
noncomputable def d8A : Array Oper := (regAt 8 (bodyOf Tryz.f29)).getD #[]
noncomputable def d8o (i : Nat) : Oper := d8A.getD i (d8A.getD 0 default)
def d8S (next : List (List Int)) (to : Int) (v i x : Int) (row : List Int) (k : Nat) (R : Nat → List AV) : St := sx 97 [(0, .av (.sl (next.map aRow))), (1, jI to), (5, .vs 17 (lenM aRow next)), (6, jI x), (9, jI i), (18, .av (.sl (next.map aRow))), (19, jI ((lenM aRow next : Nat) : Int)), (20, jI v), (25, jL (row.map vI)), (26, jI ((lenM vI row : Nat) : Int)), (27, jI ((k : Nat) : Int))] ([(17, .cells 70 (rowsS 5000 3 R (lenM aRow next)))]) (rowsG 5000 3 R (lenM aRow next))
set_option maxRecDepth 100000 in
set_option maxHeartbeats 4000000 in
theorem d8w (next : List (List Int)) (to : Int) (v i x : Int) (row : List Int) (k : Nat) (R : Nat → List AV) (h0 : 0 ≤ i) (h1 : i < ((lenM aRow next : Nat) : Int)) (hR : (R (i).toNat).length ≤ 4398046511104) : W Tryz.prog (.region 8 d8A false) (fun e S1 => e = .normal ∧ Weak S1 (d8S next to v i x row k (upR R (i).toNat (vI x)))) (d8S next to v i x row k R) := by
  have hlt : (i).toNat < lenM aRow next := by omega
  refine W_regionO ?_
  rw [show d8A.toList = [d8o 0, d8o 1, d8o 2, d8o 3, d8o 4, d8o 5, d8o 6, d8o 7, d8o 8, d8o 9, d8o 10] by kernel_rfl]
  refine WO_pure (.vs 17 (lenM aRow next)) 31 (by kernel_rfl) (by kernel_rfl) ?_
  refine WO_pure (jI i) 32 (by kernel_rfl) (by kernel_rfl) ?_
  refine WO_pure (.vs 17 (lenM aRow next)) 33 (by kernel_rfl) (by kernel_rfl) ?_
  refine WO_pure (jI i) 34 (by kernel_rfl) (by kernel_rfl) ?_
  refine WO_pureP (p := 0 ≤ i ∧ i < ((lenM aRow next : Nat) : Int)) (.vp 17 1 i 0) 35 ⟨h0, h1⟩ (by kernel_rfl) (by kernel_rfl) ?_
  refine WO_own (.own (rowK 5000 3 (i).toNat) (R (i).toNat).length 1 (R (i).toNat)) 36 (by kernel_rfl) (sound_load_vpc (t := 70) (ty := 70) (x := .tmp 35) (b := 17) (i := i) (l := rowsS 5000 3 R (lenM aRow next)) (by kernel_rfl) (by kernel_rfl) (by kernel_rfl) (by kernel_rfl) (rowsS_get hlt)) ?_
  refine WO_pure (jI x) 37 (by kernel_rfl) (by kernel_rfl) ?_
  refine WO_pureP (p := Uni 1 [vI x]) (.av (.sl [vI x])) 38 (uni_one rfl rfl) (by kernel_rfl) (by kernel_rfl) ?_
  refine WO_app (t := 70) (e := 3) (sz := 1) (bt := 8) (z := .int .i64 0) (x := .tmp 36) (y := .tmp 38) (k := rowK 5000 3 (i).toNat) (g := (R (i).toNat).length) (l := R (i).toNat) (l' := [vI x]) 39 (by kernel_rfl) (by kernel_rfl) (by kernel_rfl) (by kernel_rfl) rfl (by kernel_rfl) (by kernel_rfl) rfl (by decide) (by kernel_rfl) ⟨rows_at 5000 3 R hlt, uni_one rfl rfl, by simp; omega⟩ ?_
  refine WO_pureP (p := 0 ≤ i ∧ i < ((lenM aRow next : Nat) : Int)) (.vp 17 1 i 0) 40 ⟨h0, h1⟩ (by kernel_rfl) (by kernel_rfl) ?_
  refine WO_ownN (by kernel_rfl) (sound_store_vpc (t := 70) (ty := 70) (bt := 24) (z := some (.slice none 0 0)) (x := .tmp 40) (y := .tmp 39) (b := 17) (i := i) (l := rowsS 5000 3 R (lenM aRow next)) (s := .own (rowK 5000 3 (i).toNat) ((R (i).toNat).length + 1) 1 (R (i).toNat ++ [vI x])) (by kernel_rfl) (by kernel_rfl) (by kernel_rfl) (by kernel_rfl) (by kernel_rfl) rfl (by simpa [rowsS] using hlt)) ?_
  rw [rowsS_set (vI x) hlt]
  exact WO_nil rfl ⟨rfl, WKg (by kernel_rfl) (fun κ => rows_next (S := d8S next to v i x row k R) (fun _ => rfl) hlt κ)⟩
noncomputable def d1A : Array Oper := (regAt 1 (bodyOf Tryz.f29)).getD #[]
noncomputable def d1o (i : Nat) : Oper := d1A.getD i (d1A.getD 0 default)
noncomputable def d11A : Array Oper := (regAt 11 (bodyOf Tryz.f29)).getD #[]
noncomputable def d11o (i : Nat) : Oper := d11A.getD i (d11A.getD 0 default)
noncomputable def d18A : Array Oper := (regAt 18 (bodyOf Tryz.f29)).getD #[]
noncomputable def d18o (i : Nat) : Oper := d18A.getD i (d18A.getD 0 default)
noncomputable def d20A : Array Oper := (regAt 20 (bodyOf Tryz.f29)).getD #[]
noncomputable def d20o (i : Nat) : Oper := d20A.getD i (d20A.getD 0 default)
def Da (next : List (List Int)) (to : Int) : St := sx 97 [(0, .av (.sl (next.map aRow))), (1, jI to)] [] []
def Db (next : List (List Int)) (to : Int) (Q : Nat → List Int) : St := sx 97 [(0, .av (.sl (next.map aRow))), (1, jI to), (5, .vs 17 (lenM aRow next))] [(17, .cells 70 (rowsS 5000 3 (RQ Q) (lenM aRow next)))] (rowsG 5000 3 (RQ Q) (lenM aRow next))
def Dc (next : List (List Int)) (to : Int) (Q : Nat → List Int) : St := sx 97 [(0, .av (.sl (next.map aRow))), (1, jI to), (5, .av (.sl (rowsA (RQ Q) (lenM aRow next))))] [] (rowsG 5000 3 (RQ Q) (lenM aRow next))
def Dd (next : List (List Int)) (to : Int) (Q : Nat → List Int) : St := sx 97 [(1, jI to), (5, .av (.sl (rowsA (RQ Q) (lenM aRow next)))), (10, .vs 45 (lenM aRow next))] [(45, .vec 3 1 (List.replicate (lenM aRow next) (.val (.int .i64 0))))] (rowsG 5000 3 (RQ Q) (lenM aRow next))
def De (next : List (List Int)) (to : Int) (Q : Nat → List Int) (s : List Int) : St := sx 97 [(1, jI to), (5, .av (.sl (rowsA (RQ Q) (lenM aRow next)))), (10, .vs 45 (lenM aRow next))] ([] ++ (45, .vec 3 1 (s.map vI)) :: []) (rowsG 5000 3 (RQ Q) (lenM aRow next))
def Df (next : List (List Int)) (Q : Nat → List Int) (s t : List Int) (g : Nat) : St := sx 97 [(5, .av (.sl (rowsA (RQ Q) (lenM aRow next)))), (10, .vs 45 (lenM aRow next)), (12, .own (18, 4) g 1 (t.map vI))] ([] ++ (45, .vec 3 1 (s.map vI)) :: []) (((18, 4), g) :: rowsG 5000 3 (RQ Q) (lenM aRow next))
set_option maxRecDepth 100000 in
set_option maxHeartbeats 4000000 in
theorem d1w (next : List (List Int)) (to : Int) (hl : next.length ≤ 1048576) : W Tryz.prog (.region 1 d1A false) (fun e S1 => e = .normal ∧ Weak S1 (Db next to (fun _ => []))) (Da next to) := by
  have hlm := lenM_eq aRow next
  refine W_regionO ?_
  rw [show d1A.toList = [d1o 0, d1o 1, d1o 2, d1o 3] by kernel_rfl]
  refine WO_pure (.av (.sl (next.map aRow))) 15 (by kernel_rfl) (by kernel_rfl) ?_
  refine WO_pure (jI ((lenM aRow next : Nat) : Int)) 16 (by kernel_rfl) (by kernel_rfl) ?_
  refine WO_own (.vs 17 (lenM aRow next)) 17 (by kernel_rfl) (sound_makeRows (b := 5000) (id := 17) (n := lenM aRow next) (t := 68) (e := 70) (e2 := 3) (bt := 24) (x := .tmp 16) (y := .tmp 16) (k := .i64) (k' := .i64) (by kernel_rfl) (by kernel_rfl) (by kernel_rfl) (by kernel_rfl) (by kernel_rfl) (by omega) (by omega) (by decide) (by kernel_rfl)) ?_
  refine WO_pure (.vs 17 (lenM aRow next)) 5 (by kernel_rfl) (by kernel_rfl) ?_
  refine WO_nil rfl ⟨rfl, WKg (by kernel_rfl) (fun κ => ?_)⟩
  rw [rowsG_gen]
  simp [RQ]
  rfl
set_option maxRecDepth 100000 in
set_option maxHeartbeats 4000000 in
theorem d11w (next : List (List Int)) (to : Int) (Q : Nat → List Int) (hl : next.length ≤ 1048576) : W Tryz.prog (.region 11 d11A false) (fun e S1 => e = .normal ∧ Weak S1 (Dd next to Q)) (Dc next to Q) := by
  have hlm := lenM_eq aRow next
  refine W_regionO ?_
  rw [show d11A.toList = [d11o 0, d11o 1, d11o 2, d11o 3] by kernel_rfl]
  refine WO_pure (.av (.sl (next.map aRow))) 43 (by kernel_rfl) (by kernel_rfl) ?_
  refine WO_pure (jI ((lenM aRow next : Nat) : Int)) 44 (by kernel_rfl) (by kernel_rfl) ?_
  refine WO_own (.vs 45 (lenM aRow next)) 45 (by kernel_rfl) (sound_makeVec (id := 45) (n := lenM aRow next) (t := 70) (e := 3) (bt := 8) (z := .int .i64 0) (x := .tmp 44) (y := .tmp 44) (k := .i64) (k' := .i64) (by kernel_rfl) (by kernel_rfl) (by kernel_rfl) (by kernel_rfl) (by kernel_rfl) rfl rfl (by omega) (by omega) (by decide) (by kernel_rfl)) ?_
  refine WO_pure (.vs 45 (lenM aRow next)) 10 (by kernel_rfl) (by kernel_rfl) ?_
  refine WO_nil rfl ⟨rfl, WKg (by kernel_rfl) (fun κ => rfl)⟩
set_option maxRecDepth 100000 in
set_option maxHeartbeats 4000000 in
theorem d18w (next : List (List Int)) (to : Int) (Q : Nat → List Int) (s : List Int) : W Tryz.prog (.region 18 d18A false) (fun e S1 => e = .normal ∧ Weak S1 (Df next Q s [to] 1)) (De next to Q s) := by
  refine W_regionO ?_
  rw [show d18A.toList = [d18o 0, d18o 1, d18o 2] by kernel_rfl]
  refine WO_pure (jI to) 58 (by kernel_rfl) (by kernel_rfl) ?_
  have hg : ((De next to Q s).put (some 58) (jI to)).gen (18, 4) = 0 := by
    show ((rowsG 5000 3 (RQ Q) (lenM aRow next)).lookup (18, 4)).getD 0 = 0
    rw [rowsG_gen]; simp
  have hs := sound_build1_own (P := Tryz.prog) (o := d18o 1) (S := (De next to Q s).put (some 58) (jI to)) (t := 70) (e := 3) (bt := 8) (z := .int .i64 0) (x := .tmp 58) (v := .int .i64 to) 18 (by kernel_rfl) (by kernel_rfl) (by kernel_rfl) (by kernel_rfl) rfl
  rw [hg] at hs
  refine WO_own (.own (18, 4) (0 + 1) 1 [.val (.int .i64 to)]) 59 (by kernel_rfl) hs ?_
  refine WO_pure (.own (18, 4) (0 + 1) 1 [.val (.int .i64 to)]) 12 (by kernel_rfl) (by kernel_rfl) ?_
  refine WO_nil rfl ⟨rfl, WKg (by kernel_rfl) (fun κ => ?_)⟩
  have h2 := next_genS ((De next to Q s).put (some 58) (jI to)) (18, 4) κ
  rw [hg] at h2
  refine Eq.trans h2 ?_
  rw [List.lookup_cons]
  by_cases hk : κ = (18, 4)
  · subst hk; rfl
  · rw [if_neg hk, show (κ == ((18, 4) : Key)) = false by rw [beq_eq_false_iff_ne]; exact hk]; rfl
set_option maxRecDepth 100000 in
set_option maxHeartbeats 4000000 in
theorem d20w (next : List (List Int)) (Q : Nat → List Int) (s t : List Int) (g : Nat) (ht : 1 ≤ t.length) : W Tryz.prog (.region 20 d20A false) (fun e S1 => e = .normal ∧ Weak S1 (Df next Q s (t.drop 1) g)) (Df next Q s t g) := by
  refine W_regionO ?_
  rw [show d20A.toList = [d20o 0, d20o 1, d20o 2] by kernel_rfl]
  refine WO_pure (.own (18, 4) g 1 (t.map vI)) 63 (by kernel_rfl) (by kernel_rfl) ?_
  refine WO_own (.own (18, 4) g 1 ((t.map vI).drop 1)) 64 (by kernel_rfl) (sound_front (t := 70) (e := 3) (bt := 8) (z := some (.int .i64 0)) (x := .tmp 63) (k := (18, 4)) (g := g) (l := t.map vI) (by kernel_rfl) (by kernel_rfl) (by kernel_rfl) (by kernel_rfl) (by simpa using ht)) ?_
  rw [← List.map_drop]
  refine WO_pure (.own (18, 4) g 1 ((t.drop 1).map vI)) 12 (by kernel_rfl) (by kernel_rfl) ?_
  refine WO_nil rfl ⟨rfl, WKg (by kernel_rfl) (fun κ => rfl)⟩
end Go.Proofs.YtcdfhagcchmnhaaGreatDoor
namespace Go.Proofs.YtcdfhagcchmnhaaGreatDoor
open Go Go.Eng
def neg (s : List Int) : Nat := s.countP (fun x => decide (x < 0))
theorem neg_set : ∀ (s : List Int) (i : Nat) (x : Int), i < s.length → s.getD i 0 < 0 → 0 ≤ x → neg (s.set i x) + 1 = neg s
  | b :: s, 0, x, _, h, hx => by
    have h : b < 0 := h
    simp [neg, h, show ¬ x < 0 by omega]
  | b :: s, i + 1, x, h1, h2, hx => by
    have := neg_set s i x (by simpa using h1) (by simpa using h2) hx
    unfold neg at this ⊢
    simp only [List.set_cons_succ, List.countP_cons]
    omega
def SOk (n : Nat) (s : List Int) : Prop := s.length = n ∧ ∀ x ∈ s, -1 ≤ x ∧ x + ((neg s : Nat) : Int) ≤ (n : Int)
theorem SOk_at {n : Nat} {s : List Int} (h : SOk n s) {i : Int} (h0 : 0 ≤ i) (h1 : i < (n : Int)) : -1 ≤ s.getD i.toNat 0 ∧ s.getD i.toNat 0 + ((neg s : Nat) : Int) ≤ (n : Int) := by
  have hlt : i.toNat < s.length := by have := h.1; omega
  have : s.getD i.toNat 0 = s[i.toNat] := by simp [hlt]
  rw [this]
  exact h.2 _ (List.getElem_mem hlt)
theorem SOk_set {n : Nat} {s : List Int} (h : SOk n s) {i : Int} (h0 : 0 ≤ i) (h1 : i < (n : Int)) (hn : s.getD i.toNat 0 < 0) {y : Int} (hy0 : -1 ≤ y) (hy : y + ((neg s : Nat) : Int) ≤ (n : Int)) : SOk n (s.set i.toNat (y + 1)) ∧ neg (s.set i.toNat (y + 1)) + 1 = neg s := by
  have hlt : i.toNat < s.length := by have := h.1; omega
  have hc := neg_set s i.toNat (y + 1) hlt hn (by omega)
  refine ⟨⟨by rw [List.length_set]; exact h.1, fun x hx => ?_⟩, hc⟩
  rcases List.mem_or_eq_of_mem_set hx with hx | hx
  · have := h.2 x hx; omega
  · subst hx; omega
theorem el_vIg (xs : List Int) (i : Int) (h0 : 0 ≤ i) (h : i < (xs.length : Int)) : 0 ≤ i ∧ (xs.map vI)[i.toNat]? = some (vI (xs.getD i.toNat 0)) := by
  have : i.toNat < xs.length := by omega
  refine ⟨h0, ?_⟩
  simp [this]
theorem get_vI (s : List Int) (i : Nat) (h : i < s.length) : (s.map vI).getD i (.val undef) = vI (s.getD i 0) := by simp [h]
theorem upd_vI (b : Int) (v : AV) : (vI b).upd 0 v = v := rfl
theorem stc (s : List Int) (j : Int) (y : Int) (h0 : 0 ≤ j) (h1 : j < (s.length : Int)) : 0 ≤ j ∧ j < ((s.map vI).length : Int) ∧ 0 + 1 ≤ ((s.map vI).getD j.toNat (.val undef)).cells.length ∧ ((s.map vI).getD j.toNat (.val undef)).isTup = false ∧ (vI y).isTup = false ∧ (vI y).cells.length = 1 ∧ 0 < 1 := by
  have hg := get_vI s j.toNat (by omega)
  exact ⟨h0, by rw [List.length_map]; exact h1, by rw [hg]; exact Nat.le_refl _, by rw [hg]; rfl, rfl, rfl, by decide⟩
theorem ste (s : List Int) (j : Int) (y : Int) (h0 : 0 ≤ j) (h1 : j < (s.length : Int)) : (s.map vI).set j.toNat (((s.map vI).getD j.toNat (.val undef)).upd 0 (vI y)) = (s.set j.toNat y).map vI := by
  rw [get_vI s j.toNat (by omega), upd_vI, List.map_set]
def QOk (n : Nat) (Q : Nat → List Int) (b : Nat) : Prop := (∀ j, (Q j).length ≤ b) ∧ ∀ j, ∀ x ∈ Q j, 0 ≤ x ∧ x < (n : Int)
theorem QOk_up {n : Nat} {Q : Nat → List Int} {b : Nat} (h : QOk n Q b) (j : Nat) {x : Int} (h0 : 0 ≤ x) (h1 : x < (n : Int)) : QOk n (upQ Q j x) (b + 1) := by
  refine ⟨fun i => ?_, fun i y hy => ?_⟩
  · have := h.1 i
    unfold upQ
    split
    · simp; omega
    · omega
  · unfold upQ at hy
    split at hy
    · rcases List.mem_append.1 hy with hy | hy
      · exact h.2 i y hy
      · rw [List.mem_singleton] at hy; subst hy; exact ⟨h0, h1⟩
    · exact h.2 i y hy
theorem QOk_le {n : Nat} {Q : Nat → List Int} {b b' : Nat} (h : QOk n Q b) (hb : b ≤ b') : QOk n Q b' := ⟨fun j => Nat.le_trans (h.1 j) hb, h.2⟩
theorem rep_step (n v : Nat) (h : v < n) : (List.replicate v (-1 : Int) ++ List.replicate (n - v) 0).set v (-1) = List.replicate (v + 1) (-1) ++ List.replicate (n - (v + 1)) 0 := by
  rw [show n - v = (n - (v + 1)) + 1 by omega, List.replicate_succ, List.set_append_right _ _ (by simp)]
  simp [List.replicate_succ']
theorem rep_len (n v : Nat) (h : v ≤ n) : (List.replicate v (-1 : Int) ++ List.replicate (n - v) 0).length = n := by simp; omega
theorem neg_rep (n : Nat) : neg (List.replicate n (-1)) = n := by simp [neg, List.countP_replicate]
theorem drop_consR {l : List (List Int)} {v : Nat} (h : v < l.length) : l.drop v = el l v :: l.drop (v + 1) := drop_el h
set_option maxRecDepth 100000 in
set_option maxHeartbeats 4000000 in
theorem dist_to (next : List (List Int)) (to : Int) (hok : OkN next) (h0 : 0 ≤ to) (h1 : to < (next.length : Int)) : CallTo Tryz.prog 29 [.av (.sl (next.map aRow)), jI to] [] [] (jL ((distM next to).map vI)) [] [] := by
  have hlm := lenM_eq aRow next
  obtain ⟨hrow, hlen⟩ := hok
  refine BEG (fun r : List Int => jL (r.map vI)) (distM next to) Tryz.func29 (by kernel_rfl) ?_
  refine UF (distM.eq_1 ..) ?_
  refine GO (tn 1 (kq 1 z)) (by kernel_rfl) ?_
  refine NXW (Db next to (fun _ => [])) (tn 3 z) (by kernel_rfl) ?_ (by kernel_rfl) ?_
  · refine W_weak (S' := Da next to) (WK (by kernel_rfl)) ?_
    exact W_code (c' := .region 1 d1A false) (by kernel_rfl) (d1w next to hlen)
  refine LP (n := next.length + 1) (fun N M S => ∃ (v : Nat) (Q : Nat → List Int), (v ≤ next.length) ∧ QOk next.length Q (v * 1048576) ∧ (next.length - v < N) ∧ M = distC next.length to (bkAll v (next.drop v) Q) ∧ S = (sx 97 [(0, .av (.sl (next.map aRow))), (1, jI to), (5, .vs 17 (lenM aRow next)), (18, .av (.sl (next.map aRow))), (19, jI ((lenM aRow next : Nat) : Int)), (20, jI ((v : Nat) : Int))] ([(17, .cells 70 (rowsS 5000 3 (RQ Q) (lenM aRow next)))]) (rowsG 5000 3 (RQ Q) (lenM aRow next)))) (by kernel_rfl)
    ⟨0, fun _ => [], by omega, ⟨fun _ => by simp, fun _ x hx => by cases hx⟩, by omega, rfl, rfl⟩ (WK (by kernel_rfl)) ?_
  rintro n0 M S ⟨v, Q, hv, hQ, hF0, rfl, rfl⟩
  obtain ⟨n0, rfl⟩ : ∃ k, n0 = k + 1 := ⟨n0 - 1, by omega⟩
  refine GO (tn 1 z) (by kernel_rfl) ?_
  by_cases h2 : v < next.length
  · have hd : decide ((((v : Nat) : Int) : Int) < ((lenM aRow next : Nat) : Int)) = true := dT (by omega)
    obtain ⟨row, hrw⟩ : ∃ row, el next v = row := ⟨_, rfl⟩
    have hrm : row ∈ next := by rw [← hrw]; exact el_mem h2
    obtain ⟨hr1, hr2⟩ := hrow row hrm
    have hel := el_aRow next ((v : Nat) : Int) (by omega) (by omega)
    rw [Int.toNat_natCast, hrw] at hel
    have hlr := lenM_eq vI row
    rw [drop_consR h2, hrw]
    refine GO (kb hd (tn 1 (ke hel (tn 6 z)))) (by kernel_rfl) ?_
    refine LP (n := row.length + 1) (fun N M S => ∃ (k : Nat) (Q : Nat → List Int), (k ≤ row.length) ∧ QOk next.length Q (v * 1048576 + k) ∧ (row.length - k < N) ∧ M = distC next.length to (bkAll (v + 1) (next.drop (v + 1)) (bkRow ((v : Nat) : Int) (row.drop k) Q)) ∧ S = (sx 97 [(0, .av (.sl (next.map aRow))), (1, jI to), (5, .vs 17 (lenM aRow next)), (6, jI ((v : Nat) : Int)), (18, .av (.sl (next.map aRow))), (19, jI ((lenM aRow next : Nat) : Int)), (20, jI ((v : Nat) : Int)), (25, jL (row.map vI)), (26, jI ((lenM vI row : Nat) : Int)), (27, jI ((k : Nat) : Int))] ([(17, .cells 70 (rowsS 5000 3 (RQ Q) (lenM aRow next)))]) (rowsG 5000 3 (RQ Q) (lenM aRow next)))) (by kernel_rfl)
      ⟨0, Q, by omega, by simpa using hQ, by omega, rfl, rfl⟩ (WK (by kernel_rfl)) ?_
    rintro m0 M S ⟨k, Q, hk, hQ, hF1, rfl, rfl⟩
    obtain ⟨m0, rfl⟩ : ∃ k, m0 = k + 1 := ⟨m0 - 1, by omega⟩
    refine GO (tn 1 z) (by kernel_rfl) ?_
    by_cases h3 : k < row.length
    · have hd : decide ((((k : Nat) : Int) : Int) < ((lenM vI row : Nat) : Int)) = true := dT (by omega)
      obtain ⟨j, hj⟩ : ∃ j, el row k = j := ⟨_, rfl⟩
      obtain ⟨hj0, hj1⟩ : 0 ≤ j ∧ j < (next.length : Int) := by rw [← hj]; exact hr2 _ (el_mem h3)
      have hke := el_vI' row ((k : Nat) : Int) k rfl h3
      rw [drop_consI h3]
      rw [hj] at hke ⊢
      have hw1 := wrE (((k : Nat) : Int) + 1) (((k + 1 : Nat) : Int)) (by omega)
      refine GO (kb hd (ke hke (tn 2 (kq 8 z)))) (by kernel_rfl) ?_
      refine NXW (d8S next to ((v : Nat) : Int) j ((v : Nat) : Int) row k (upR (RQ Q) j.toNat (vI ((v : Nat) : Int)))) (kn hw1 (tn 1 z)) (by kernel_rfl) ?_ (by kernel_rfl) ?_
      · refine W_weak (S' := d8S next to ((v : Nat) : Int) j ((v : Nat) : Int) row k (RQ Q)) (WK (by kernel_rfl)) ?_
        exact W_code (c' := .region 8 d8A false) (by kernel_rfl) (d8w next to ((v : Nat) : Int) j ((v : Nat) : Int) row k (RQ Q) hj0 (by omega) (by have := hQ.1 j.toNat; simp only [RQ, List.length_map]; omega))
      · rw [upR_Q]
        exact AG ⟨k + 1, upQ Q j.toNat ((v : Nat) : Int), by omega, QOk_le (QOk_up hQ _ (by omega) (by omega)) (by omega), by omega, rfl, rfl⟩ (WK (by kernel_rfl)) (by kernel_rfl) (Nat.lt_succ_self _)
    · have hd : decide ((((k : Nat) : Int) : Int) < ((lenM vI row : Nat) : Int)) = false := dF (by omega)
      rw [show List.drop k row = [] from List.drop_eq_nil_of_le (by omega)]
      have hw1 := wrE (((v : Nat) : Int) + 1) (((v + 1 : Nat) : Int)) (by omega)
      refine GO (kb hd z) (by kernel_rfl) ?_
      refine OUT (kn hw1 (tn 1 z)) (by kernel_rfl) ?_
      have hke : k = row.length := by omega
      exact AG ⟨v + 1, Q, by omega, QOk_le hQ (by omega), by omega, rfl, rfl⟩ (WK (by kernel_rfl)) (by kernel_rfl) (Nat.lt_succ_self _)
  · have hd : decide ((((v : Nat) : Int) : Int) < ((lenM aRow next : Nat) : Int)) = false := dF (by omega)
    rw [List.drop_eq_nil_of_le (by omega)]
    refine UF (M' := distC next.length to Q) rfl ?_
    refine GO (kb hd z) (by kernel_rfl) ?_
    refine OUT (kq 11 z) (by kernel_rfl) ?_
    refine FRC (n := lenM aRow next) (e := 70) (l := rowsS 5000 3 (RQ Q) (lenM aRow next)) (avs := rowsA (RQ Q) (lenM aRow next)) 5 17 (by kernel_rfl) (fun G w us h => rowsS_rep h) (by simp [rowsA]) ?_
    refine NXW (Dd next to Q) (tn 3 z) (by kernel_rfl) ?_ (by kernel_rfl) ?_
    · refine W_weak (S' := Dc next to Q) (WK (by kernel_rfl)) ?_
      exact W_code (c' := .region 11 d11A false) (by kernel_rfl) (d11w next to Q hlen)
    have hz0 : List.replicate (lenM aRow next) (AV.val (.int .i64 0)) = (List.replicate 0 (-1 : Int) ++ List.replicate (next.length - 0) 0).map vI := by rw [hlm]; simp [vI]
    refine LP (n := next.length + 1) (fun N M S => ∃ (v : Nat), (v ≤ next.length) ∧ (next.length - v < N) ∧ M = distC next.length to Q ∧ S = (sx 97 [(1, jI to), (5, .av (.sl (rowsA (RQ Q) (lenM aRow next)))), (10, .vs 45 (lenM aRow next)), (47, jI ((lenM aRow next : Nat) : Int)), (48, jI ((v : Nat) : Int))] ([] ++ (45, .vec 3 1 ((List.replicate v (-1 : Int) ++ List.replicate (next.length - v) 0).map vI)) :: []) (rowsG 5000 3 (RQ Q) (lenM aRow next)))) (by kernel_rfl)
      ⟨0, by omega, by omega, rfl, rfl⟩ (wtr (WK (bx := [] ++ (45, .vec 3 1 (List.replicate (lenM aRow next) (AV.val (.int .i64 0)))) :: []) (by kernel_rfl)) (weak_vec1 hz0)) ?_
    rintro n1 M S ⟨v, hv, hF0, rfl, rfl⟩
    obtain ⟨n1, rfl⟩ : ∃ k, n1 = k + 1 := ⟨n1 - 1, by omega⟩
    have hrl := rep_len next.length v hv
    refine GO (tn 1 z) (by kernel_rfl) ?_
    by_cases h2 : v < next.length
    · have hd : decide ((((v : Nat) : Int) : Int) < ((lenM aRow next : Nat) : Int)) = true := dT (by omega)
      have hw1 := wrE (((v : Nat) : Int) + 1) (((v + 1 : Nat) : Int)) (by omega)
      have hb : 0 ≤ ((v : Nat) : Int) ∧ ((v : Nat) : Int) < ((lenM aRow next : Nat) : Int) := ⟨by omega, by omega⟩
      have hst := stc (List.replicate v (-1 : Int) ++ List.replicate (next.length - v) 0) ((v : Nat) : Int) (-1) (by omega) (by rw [hrl]; omega)
      have hse := ste (List.replicate v (-1 : Int) ++ List.replicate (next.length - v) 0) ((v : Nat) : Int) (-1) (by omega) (by rw [hrl]; omega)
      rw [Int.toNat_natCast] at hst hse
      rw [rep_step _ _ h2] at hse
      refine GO (kb hd (tn 4 (kp hb (kp hst (kn hw1 (tn 1 z)))))) (by kernel_rfl) ?_
      exact AG ⟨v + 1, by omega, by omega, rfl, rfl⟩ (wtr (WK (bx := [] ++ (45, .vec 3 1 (((List.replicate v (-1 : Int) ++ List.replicate (next.length - v) 0).map vI).set v ((((List.replicate v (-1 : Int) ++ List.replicate (next.length - v) 0).map vI).getD v (.val undef)).upd 0 (vI (-1))))) :: []) (by kernel_rfl)) (weak_vec1 hse)) (by kernel_rfl) (Nat.lt_succ_self _)
    · have hd : decide ((((v : Nat) : Int) : Int) < ((lenM aRow next : Nat) : Int)) = false := dF (by omega)
      have hvn : v = next.length := by omega
      have hb : 0 ≤ to ∧ to < ((lenM aRow next : Nat) : Int) := ⟨by omega, by omega⟩
      have hst := stc (List.replicate v (-1 : Int) ++ List.replicate (next.length - v) 0) to 0 (by omega) (by rw [hrl]; omega)
      have hse := ste (List.replicate v (-1 : Int) ++ List.replicate (next.length - v) 0) to 0 (by omega) (by rw [hrl]; omega)
      have e0 : (List.replicate v (-1 : Int) ++ List.replicate (next.length - v) 0).set to.toNat 0 = (List.replicate next.length (-1)).set to.toNat 0 := by rw [hvn]; simp
      rw [e0] at hse
      refine GO (kb hd z) (by kernel_rfl) ?_
      refine OUT (tn 2 (kp hb (kp hst (kq 18 z)))) (by kernel_rfl) ?_
      refine NXW (Df next Q ((List.replicate next.length (-1)).set to.toNat 0) [to] 1) z (by kernel_rfl) ?_ (by kernel_rfl) ?_
      · refine W_weak (S' := De next to Q ((List.replicate next.length (-1)).set to.toNat 0)) (wtr (WK (bx := [] ++ (45, .vec 3 1 (((List.replicate v (-1 : Int) ++ List.replicate (next.length - v) 0).map vI).set to.toNat ((((List.replicate v (-1 : Int) ++ List.replicate (next.length - v) 0).map vI).getD to.toNat (.val undef)).upd 0 (vI 0)))) :: []) (by kernel_rfl)) (weak_vec1 hse)) ?_
        exact W_code (c' := .region 18 d18A false) (by kernel_rfl) (d18w next to Q _)
      have hB := rowsA_Q Q next.length
      have hQl : QOk next.length Q 1099511627776 := QOk_le hQ (by omega)
      have hBl : ((List.range next.length).map Q).length = next.length := by simp
      have hs0 : SOk next.length ((List.replicate next.length (-1)).set to.toNat 0) ∧ neg ((List.replicate next.length (-1)).set to.toNat 0) + 1 = next.length := by
        have h := SOk_set (n := next.length) (s := List.replicate next.length (-1)) ⟨by simp, fun x hx => by rw [List.eq_of_mem_replicate hx, neg_rep]; omega⟩ (i := to) (y := -1) h0 h1 (by simp [show to.toNat < next.length by omega]) (by omega) (by rw [neg_rep]; omega)
        rw [neg_rep] at h
        exact h
      refine UF (M' := bfs ((List.range next.length).map Q) (next.length + 2) ((List.replicate next.length (-1)).set to.toNat 0) [to]) rfl ?_
      refine LP (n := next.length + 2) (fun N M S => ∃ (s t : List Int) (g : Nat), SOk next.length s ∧ (∀ x ∈ t, 0 ≤ x ∧ x < (next.length : Int)) ∧ (t.length + neg s ≤ next.length) ∧ (t.length + neg s < N) ∧ M = bfs ((List.range next.length).map Q) N s t ∧ S = Df next Q s t g) (by kernel_rfl)
        ⟨_, [to], 1, hs0.1, fun x hx => by simp at hx; subst hx; exact ⟨h0, h1⟩, by have := hs0.2; simp only [List.length_singleton]; omega, by have := hs0.2; simp only [List.length_singleton]; omega, rfl, rfl⟩ (WK (by kernel_rfl)) ?_
      rintro n2 M S ⟨s, t, g, hs, ht, hn, hF0, rfl, rfl⟩
      obtain ⟨n2, rfl⟩ : ∃ k, n2 = k + 1 := ⟨n2 - 1, by omega⟩
      have hlt := lenM_eq vI t
      refine GO (tn 3 z) (by kernel_rfl) ?_
      cases t with
      | nil =>
        have hd : decide (((lenM vI ([] : List Int) : Nat) : Int) > 0) = false := rfl
        refine GO (kb hd z) (by kernel_rfl) ?_
        refine OUT (kq 28 z) (by kernel_rfl) ?_
        refine FRZ (n := lenM aRow next) (l := s.map vI) (l' := s.map vI) 10 45 (by kernel_rfl) (by rw [List.length_map, hs.1]; omega) (List.take_of_length_le (by rw [List.length_map, hs.1]; omega)) ?_
        refine GO (tn 2 z) (by kernel_rfl) ?_
        exact EN (by kernel_rfl)
      | cons i t =>
        have hd : decide (((lenM vI (i :: t) : Nat) : Int) > 0) = true := dT (by rw [hlt]; simp)
        obtain ⟨hi0, hi1⟩ := ht i (by simp)
        obtain ⟨row, hrw⟩ : ∃ row, el ((List.range next.length).map Q) i.toNat = row := ⟨_, rfl⟩
        have hrq : row = Q i.toNat := by
          rw [← hrw]
          have : i.toNat < next.length := by omega
          simp [el, this]
        have hr1 : row.length ≤ 1099511627776 := by rw [hrq]; exact hQl.1 _
        have hr2 : ∀ x ∈ row, 0 ≤ x ∧ x < (next.length : Int) := by rw [hrq]; exact hQl.2 _
        have hel := el_aRow ((List.range next.length).map Q) i hi0 (by rw [hBl]; omega)
        rw [hrw, ← hB, ← hlm] at hel
        have hhd : 0 ≤ (0 : Int) ∧ ((i :: t).map vI)[(0 : Int).toNat]? = some (vI i) := ⟨by omega, rfl⟩
        have hlr := lenM_eq vI row
        rw [bfs, hrw]
        refine GO (kb hd (tn 2 (ke hhd (tn 1 (ke hel (tn 3 z)))))) (by kernel_rfl) ?_
        have htl : ∀ x ∈ t, 0 ≤ x ∧ x < (next.length : Int) := fun x hx => ht x (by simp [hx])
        refine LP (n := row.length + 1) (fun N M S => ∃ (k : Nat) (s t : List Int) (g : Nat), (k ≤ row.length) ∧ SOk next.length s ∧ (∀ x ∈ t, 0 ≤ x ∧ x < (next.length : Int)) ∧ (t.length + neg s < next.length) ∧ (t.length + neg s < n2) ∧ (row.length - k < N) ∧ M = bfs ((List.range next.length).map Q) n2 (bInn i (row.drop k) s (i :: t)).1 ((bInn i (row.drop k) s (i :: t)).2.drop 1) ∧ S = (sx 97 [(5, .av (.sl (rowsA (RQ Q) (lenM aRow next)))), (10, .vs 45 (lenM aRow next)), (12, .own (18, 4) g 1 ((i :: t).map vI)), (70, jL (row.map vI)), (71, jI ((lenM vI row : Nat) : Int)), (72, jI ((k : Nat) : Int))] ([] ++ (45, .vec 3 1 (s.map vI)) :: []) (((18, 4), g) :: rowsG 5000 3 (RQ Q) (lenM aRow next)))) (by kernel_rfl)
          ⟨0, s, t, g, by omega, hs, htl, by simp only [List.length_cons] at hn; omega, by simp only [List.length_cons] at hF0; omega, by omega, rfl, rfl⟩ (WK (by kernel_rfl)) ?_
        rintro m0 M S ⟨k, s, t, g, hk, hs, ht, hn, hF0, hF1, rfl, rfl⟩
        obtain ⟨m0, rfl⟩ : ∃ k, m0 = k + 1 := ⟨m0 - 1, by omega⟩
        refine GO (tn 1 z) (by kernel_rfl) ?_
        by_cases h3 : k < row.length
        · have hd : decide ((((k : Nat) : Int) : Int) < ((lenM vI row : Nat) : Int)) = true := dT (by omega)
          obtain ⟨j, hj⟩ : ∃ j, el row k = j := ⟨_, rfl⟩
          obtain ⟨hj0, hj1⟩ : 0 ≤ j ∧ j < (next.length : Int) := by rw [← hj]; exact hr2 _ (el_mem h3)
          have hke := el_vI' row ((k : Nat) : Int) k rfl h3
          rw [drop_consI h3]
          rw [hj] at hke ⊢
          have hw1 := wrE (((k : Nat) : Int) + 1) (((k + 1 : Nat) : Int)) (by omega)
          have hjb : 0 ≤ j ∧ j < ((lenM aRow next : Nat) : Int) := ⟨hj0, by omega⟩
          have hib : 0 ≤ i ∧ i < ((lenM aRow next : Nat) : Int) := ⟨hi0, by omega⟩
          have hsl := hs.1
          have hkb := el_vIg s j hj0 (by omega)
          have hki := el_vIg s i hi0 (by omega)
          refine GO (kb hd (ke hke (tn 4 (kp hjb (ke hkb (tn 1 z)))))) (by kernel_rfl) ?_
          by_cases h4 : s.getD j.toNat 0 < 0
          · have h4d : decide (s.getD j.toNat 0 < 0) = true := dT h4
            have hsi := SOk_at hs hi0 hi1
            obtain ⟨hs2, hng⟩ := SOk_set hs hj0 hj1 h4 hsi.1 hsi.2
            have hwi := wrE (s.getD i.toNat 0 + 1) (s.getD i.toNat 0 + 1) (by omega)
            have hst := stc s j (s.getD i.toNat 0 + 1) hj0 (by omega)
            have hse := ste s j (s.getD i.toNat 0 + 1) hj0 (by omega)
            have hu1 : Uni 1 [vI j] := uni_one rfl rfl
            have hhd2 : 0 ≤ (0 : Int) ∧ ((i :: t).map vI)[(0 : Int).toNat]? = some (vI i) := ⟨by omega, rfl⟩
            refine UF (M' := bfs ((List.range next.length).map Q) n2 (bInn i (row.drop (k + 1)) (s.set j.toNat (s.getD i.toNat 0 + 1)) (i :: (t ++ [j]))).1 ((bInn i (row.drop (k + 1)) (s.set j.toNat (s.getD i.toNat 0 + 1)) (i :: (t ++ [j]))).2.drop 1)) (by rw [bInn, h4d]; rfl) ?_
            refine GO (kb h4d (tn 4 (ke hhd2 (tn 1 (kp hib (ke hki (kn hwi (kp hjb (kp hst (tn 2 (kp hu1 (kp (show (g : Nat) = g ∧ Uni 1 [vI j] ∧ (((i :: t).map vI : List AV).length + ([vI j] : List AV).length) * 8 ≤ 140737488355328 from ⟨rfl, hu1, by simp; omega⟩) (kw (ap1 vI (i :: t) j) (tn 1 (kn hw1 (tn 1 z)))))))))))))))) (by kernel_rfl) ?_
            exact AG ⟨k + 1, s.set j.toNat (s.getD i.toNat 0 + 1), t ++ [j], g + 1, by omega, hs2, fun x hx => by
              rcases List.mem_append.1 hx with hx | hx
              · exact ht x hx
              · rw [List.mem_singleton] at hx; subst hx; exact ⟨hj0, hj1⟩, by simp only [List.length_append, List.length_singleton]; omega, by simp only [List.length_append, List.length_singleton]; omega, by omega, rfl, rfl⟩
              (wtr (WKh (bx := [] ++ (45, .vec 3 1 ((s.map vI).set j.toNat (((s.map vI).getD j.toNat (.val undef)).upd 0 (vI (s.getD i.toNat 0 + 1))))) :: []) (((18, 4), g + 1) :: dropKey (18, 4) (((18, 4), g) :: rowsG 5000 3 (RQ Q) (lenM aRow next))) (by kernel_rfl) (fun κ => q_gn (18, 4) g _ κ)) (weak_vec1 hse)) (by kernel_rfl) (Nat.lt_succ_self _)
          · have h4d : decide (s.getD j.toNat 0 < 0) = false := dF h4
            refine UF (M' := bfs ((List.range next.length).map Q) n2 (bInn i (row.drop (k + 1)) s (i :: t)).1 ((bInn i (row.drop (k + 1)) s (i :: t)).2.drop 1)) (by rw [bInn, h4d]; rfl) ?_
            refine GO (kb h4d (kn hw1 (tn 1 z))) (by kernel_rfl) ?_
            exact AG ⟨k + 1, s, t, g, by omega, hs, ht, hn, hF0, by omega, rfl, rfl⟩ (WK (by kernel_rfl)) (by kernel_rfl) (Nat.lt_succ_self _)
        · have hd : decide ((((k : Nat) : Int) : Int) < ((lenM vI row : Nat) : Int)) = false := dF (by omega)
          rw [show List.drop k row = [] from List.drop_eq_nil_of_le (by omega)]
          refine UF (M' := bfs ((List.range next.length).map Q) n2 s t) rfl ?_
          refine GO (kb hd z) (by kernel_rfl) ?_
          refine OUT (kq 20 z) (by kernel_rfl) ?_
          refine NXW (Df next Q s t g) z (by kernel_rfl) ?_ (by kernel_rfl) ?_
          · refine W_weak (S' := Df next Q s (i :: t) g) (WK (by kernel_rfl)) ?_
            exact W_code (c' := .region 20 d20A false) (by kernel_rfl) (d20w next Q s (i :: t) g (by simp))
          · exact AG ⟨s, t, g, hs, ht, by omega, by omega, rfl, rfl⟩ (WK (by kernel_rfl)) (by kernel_rfl) (Nat.lt_succ_self _)
end Go.Proofs.YtcdfhagcchmnhaaGreatDoor
namespace Go.Proofs.YtcdfhagcchmnhaaGreatDoor
open Go Go.Eng
def nmB (b : DBlock) : ByteArray := (getR b.fAttr (⟨#[110, 97, 109, 101]⟩)).1
def agB (b : DBlock) : List ByteArray := wrdR (getR b.fAttr (⟨#[97, 114, 103, 115]⟩)).1
def mkM (b : DBlock) : DMacro := DMacro.mk (nmB b) (agB b) b.fKids
def names (ms : List DMacro) : List ByteArray := ms.map (·.fName)
theorem drop_cons {l : List ByteArray} {v : Nat} (h : v < l.length) : l.drop v = el l v :: l.drop (v + 1) := drop_el h
theorem take_snoc {l : List ByteArray} {v : Nat} (h : v < l.length) : l.take (v + 1) = l.take v ++ [el l v] := take_succ_el h
end Go.Proofs.YtcdfhagcchmnhaaGreatDoor
namespace Go.Proofs.YtcdfhagcchmnhaaGreatDoor
open Go Go.Eng
/-- The place of the first name. -/
def ix (ns : List ByteArray) (s : ByteArray) : Option Nat := ns.findIdx? (fun x => eqs x s)
def ixI (ns : List ByteArray) (s : ByteArray) : Int := match ix ns s with
  | some i => (i : Int)
  | none => 0
def IOk (ns : List ByteArray) (ks : List ByteArray) (vs : List AV) : Prop := ks.length = vs.length ∧ ∀ s, (kpos ks s).isSome = (ix ns s).isSome ∧ ∀ p i, kpos ks s = some p → ix ns s = some i → vs[p]? = some (vI (i : Int))
theorem IOk_nil : IOk [] [] [] := ⟨rfl, fun s => ⟨rfl, fun p i h => by simp [kpos] at h⟩⟩
theorem ix_app (ns : List ByteArray) (a s : ByteArray) : ix (ns ++ [a]) s = match ix ns s with
    | some i => some i
    | none => if eqs a s = true then some ns.length else none := by
  unfold ix
  rw [List.findIdx?_append]
  cases h : List.findIdx? (fun x => eqs x s) ns with
  | some i => rfl
  | none =>
    simp only [Option.none_or, List.findIdx?_cons, List.findIdx?_nil]
    split <;> simp_all
theorem kpos_app (ks : List ByteArray) (a s : ByteArray) : kpos (ks ++ [a]) s = match kpos ks s with
    | some i => some i
    | none => if eqs a s = true then some ks.length else none := by
  induction ks with
  | nil =>
    simp only [List.nil_append, kpos, eqs_beq]
    cases eqs a s <;> rfl
  | cons k ks ih =>
    rw [List.cons_append, kpos, kpos, ih]
    cases (s == k) with
    | true => rfl
    | false =>
      cases kpos ks s with
      | some i => rfl
      | none =>
        simp only [Bool.false_eq_true, if_false, Option.map_none]
        split <;> simp
theorem IOk_old {ns ks : List ByteArray} {vs : List AV} {a : ByteArray} (h : IOk ns ks vs) (ha : (ix ns a).isSome = true) : IOk (ns ++ [a]) ks vs := by
  have e : ∀ s, ix (ns ++ [a]) s = ix ns s := fun s => by
    rw [ix_app]
    cases hs : ix ns s with
    | some i => rfl
    | none =>
      simp only []
      split
      · rename_i hq
        have : a = s := by
          obtain ⟨⟨a⟩⟩ := a
          obtain ⟨⟨s⟩⟩ := s
          simp only [eqs, beq_iff_eq] at hq
          rw [hq]
        subst this
        rw [hs] at ha; cases ha
      · rfl
  exact ⟨h.1, fun s => by rw [e]; exact h.2 s⟩
theorem IOk_new {ns ks : List ByteArray} {vs : List AV} {a : ByteArray} (h : IOk ns ks vs) (ha : (ix ns a).isSome = false) : IOk (ns ++ [a]) (mputK ks a) (mputV ks vs a (vI (ns.length : Int))) := by
  have hk : kpos ks a = none := by
    have := (h.2 a).1
    rw [ha] at this
    cases hq : kpos ks a with
    | none => rfl
    | some p => rw [hq] at this; cases this
  unfold mputK mputV
  rw [hk]
  refine ⟨by simp [h.1], fun s => ?_⟩
  rw [ix_app, kpos_app]
  obtain ⟨h1, h2⟩ := h.2 s
  cases hp : kpos ks s with
  | some p =>
    rw [hp] at h1
    cases hi : ix ns s with
    | none => rw [hi] at h1; cases h1
    | some i =>
      refine ⟨rfl, fun p' i' e1 e2 => ?_⟩
      simp only [Option.some.injEq] at e1 e2
      subst e1 e2
      have h3 := h2 p i hp hi
      have hlt : p < vs.length := by
        rcases Nat.lt_or_ge p vs.length with q | q
        · exact q
        · rw [List.getElem?_eq_none q] at h3; cases h3
      rw [List.getElem?_append_left hlt]; exact h3
  | none =>
    rw [hp] at h1
    cases hi : ix ns s with
    | some i => rw [hi] at h1; cases h1
    | none =>
      simp only []
      cases eqs a s with
      | false => exact ⟨rfl, fun p' i' e1 => by simp at e1⟩
      | true =>
        refine ⟨rfl, fun p' i' e1 e2 => ?_⟩
        simp only [if_true, Option.some.injEq] at e1 e2
        subst e1 e2
        rw [h.1]; simp
theorem IOk_get {ns ks : List ByteArray} {vs : List AV} (h : IOk ns ks vs) (s : ByteArray) : mget (vI 0) ks vs s = vI (ixI ns s) ∧ (kpos ks s).isSome = (ix ns s).isSome := by
  obtain ⟨h1, h2⟩ := h.2 s
  refine ⟨?_, h1⟩
  unfold mget ixI
  cases hp : kpos ks s with
  | none =>
    rw [hp] at h1
    cases hi : ix ns s with
    | none => rfl
    | some i => rw [hi] at h1; cases h1
  | some p =>
    rw [hp] at h1
    cases hi : ix ns s with
    | none => rw [hi] at h1; cases h1
    | some i =>
      simp only []
      have := h2 p i hp hi
      simp [List.getD, this]
theorem IOk_lookT {ns ks : List ByteArray} {vs : List AV} (h : IOk ns ks vs) (s : ByteArray) : mgetT true (.val (.int .i64 0)) ks vs s = .tup [vI (ixI ns s), .val (.bool (ix ns s).isSome)] := by
  obtain ⟨h1, h2⟩ := IOk_get h s
  rw [← h2]
  have h1 : mget (.val (.int .i64 0)) ks vs s = vI (ixI ns s) := h1
  simp only [mgetT, if_true, h1]
theorem IOk_look {ns ks : List ByteArray} {vs : List AV} (h : IOk ns ks vs) (s : ByteArray) : mgetT false (.val (.int .i64 0)) ks vs s = vI (ixI ns s) := (IOk_get h s).1
theorem put_any (ks : List ByteArray) (a : ByteArray) : ∃ ks', mputK ks a = ks' ∧ mputV ks (tvs ks) a tv = tvs ks' ∧ ∀ x, hasR ks' x = (hasR ks x || eqs a x) := by
  cases h : hasR ks a with
  | false =>
    obtain ⟨h1, h2⟩ := put_new h
    exact ⟨_, h1, h2, fun x => hasR_app ks a x⟩
  | true =>
    have h' := kpos_has a ks
    rw [h] at h'
    refine ⟨ks, ?_, ?_, fun x => ?_⟩
    · unfold mputK
      cases hk : kpos ks a with
      | none => rw [hk] at h'; cases h'
      | some j => rfl
    · unfold mputV
      cases hk : kpos ks a with
      | none => rw [hk] at h'; cases h'
      | some j =>
        simp only [tvs]
        apply List.ext_getElem?
        intro i
        rw [List.getElem?_set]
        split
        · rename_i hij; subst hij
          split
          · rename_i hlt
            have : j < ks.length := by simpa using hlt
            simp [this]
          · rename_i hlt
            rw [List.getElem?_eq_none (by omega)]
        · rfl
    · cases hx : eqs a x with
      | false => simp
      | true =>
        have : a = x := by
          obtain ⟨⟨a⟩⟩ := a
          obtain ⟨⟨x⟩⟩ := x
          simp only [eqs, beq_iff_eq] at hx
          rw [hx]
        subst this
        rw [h]; rfl
theorem rowsS_names (b e : Nat) (R : Nat → List AV) (n id : Nat) : (rowsS b e R n).any (SV.names id) = false := by
  rw [List.any_eq_false]
  intro s hs
  simp only [rowsS, List.mem_map] at hs
  obtain ⟨j, _, rfl⟩ := hs
  simp [SV.names]
theorem names_of {S : St} {id : Nat} {bx : List (Nat × ABox)} (h1 : (S.fr.any (SV.names id), S.bx) = (false, bx)) (h3 : bx.any (fun p => p.1 == id || p.2.svs.any (SV.names id)) = false) : S.names id = false := by
  simp only [Prod.mk.injEq] at h1
  unfold St.names
  rw [h1.1, h1.2, h3]; rfl
noncomputable def n25A : Array Oper := (regAt 25 (bodyOf Tryz.f27)).getD #[]
noncomputable def n25o (i : Nat) : Oper := n25A.getD i (n25A.getD 0 default)
def n25S (ms : List DMacro) (ks : List ByteArray) (vs : List AV) (ag : List ByteArray) (us : List ByteArray) (v x : Int) (k : Nat) (R : Nat → List AV) : St := sx 106 [(0, jL (ms.map aMacro)), (3, .mp 20), (8, .vs 44 (lenM aMacro ms)), (9, jI v), (11, .mp 61), (16, jI x), (45, jL (ms.map aMacro)), (46, jI ((lenM aMacro ms : Nat) : Int)), (47, jI v), (74, jL (us.map strAV)), (75, jI ((lenM strAV us : Nat) : Int)), (76, jI ((k : Nat) : Int))] ([(44, .cells 70 (rowsS 5000 3 R (lenM aMacro ms)))] ++ [(20, .map ks vs), (61, .map ag (tvs ag))]) (rowsG 5000 3 R (lenM aMacro ms))
set_option maxRecDepth 100000 in
set_option maxHeartbeats 4000000 in
theorem n25w (ms : List DMacro) (ks : List ByteArray) (vs : List AV) (ag : List ByteArray) (us : List ByteArray) (v x : Int) (k : Nat) (R : Nat → List AV) (h0 : 0 ≤ v) (h1 : v < ((lenM aMacro ms : Nat) : Int)) (hR : (R (v).toNat).length ≤ 4398046511104) : W Tryz.prog (.region 25 n25A false) (fun e S1 => e = .normal ∧ Weak S1 (n25S ms ks vs ag us v x k (upR R (v).toNat (vI x)))) (n25S ms ks vs ag us v x k R) := by
  have hlt : (v).toNat < lenM aMacro ms := by omega
  refine W_regionO ?_
  rw [show n25A.toList = [n25o 0, n25o 1, n25o 2, n25o 3, n25o 4, n25o 5, n25o 6, n25o 7, n25o 8, n25o 9, n25o 10] by kernel_rfl]
  refine WO_pure (.vs 44 (lenM aMacro ms)) 93 (by kernel_rfl) (by kernel_rfl) ?_
  refine WO_pure (jI v) 94 (by kernel_rfl) (by kernel_rfl) ?_
  refine WO_pure (.vs 44 (lenM aMacro ms)) 95 (by kernel_rfl) (by kernel_rfl) ?_
  refine WO_pure (jI v) 96 (by kernel_rfl) (by kernel_rfl) ?_
  refine WO_pureP (p := 0 ≤ v ∧ v < ((lenM aMacro ms : Nat) : Int)) (.vp 44 1 v 0) 97 ⟨h0, h1⟩ (by kernel_rfl) (by kernel_rfl) ?_
  refine WO_own (.own (rowK 5000 3 (v).toNat) (R (v).toNat).length 1 (R (v).toNat)) 98 (by kernel_rfl) (sound_load_vpc (t := 70) (ty := 70) (x := .tmp 97) (b := 44) (i := v) (l := rowsS 5000 3 R (lenM aMacro ms)) (by kernel_rfl) (by kernel_rfl) (by kernel_rfl) (by kernel_rfl) (rowsS_get hlt)) ?_
  refine WO_pure (jI x) 99 (by kernel_rfl) (by kernel_rfl) ?_
  refine WO_pureP (p := Uni 1 [vI x]) (.av (.sl [vI x])) 100 (uni_one rfl rfl) (by kernel_rfl) (by kernel_rfl) ?_
  refine WO_app (t := 70) (e := 3) (sz := 1) (bt := 8) (z := .int .i64 0) (x := .tmp 98) (y := .tmp 100) (k := rowK 5000 3 (v).toNat) (g := (R (v).toNat).length) (l := R (v).toNat) (l' := [vI x]) 101 (by kernel_rfl) (by kernel_rfl) (by kernel_rfl) (by kernel_rfl) rfl (by kernel_rfl) (by kernel_rfl) rfl (by decide) (by kernel_rfl) ⟨rows_at 5000 3 R hlt, uni_one rfl rfl, by simp; omega⟩ ?_
  refine WO_pureP (p := 0 ≤ v ∧ v < ((lenM aMacro ms : Nat) : Int)) (.vp 44 1 v 0) 102 ⟨h0, h1⟩ (by kernel_rfl) (by kernel_rfl) ?_
  refine WO_ownN (by kernel_rfl) (sound_store_vpc (t := 70) (ty := 70) (bt := 24) (z := some (.slice none 0 0)) (x := .tmp 102) (y := .tmp 101) (b := 44) (i := v) (l := rowsS 5000 3 R (lenM aMacro ms)) (s := .own (rowK 5000 3 (v).toNat) ((R (v).toNat).length + 1) 1 (R (v).toNat ++ [vI x])) (by kernel_rfl) (by kernel_rfl) (by kernel_rfl) (by kernel_rfl) (by kernel_rfl) rfl (by simpa [rowsS] using hlt)) ?_
  rw [rowsS_set (vI x) hlt]
  exact WO_nil rfl ⟨rfl, WKg (by kernel_rfl) (fun κ => rows_next (S := n25S ms ks vs ag us v x k R) (fun _ => rfl) hlt κ)⟩
end Go.Proofs.YtcdfhagcchmnhaaGreatDoor
namespace Go.Proofs.YtcdfhagcchmnhaaGreatDoor
open Go Go.Eng
noncomputable def n9A : Array Oper := (regAt 9 (bodyOf Tryz.f27)).getD #[]
noncomputable def n9o (i : Nat) : Oper := n9A.getD i (n9A.getD 0 default)
noncomputable def n12A : Array Oper := (regAt 12 (bodyOf Tryz.f27)).getD #[]
noncomputable def n12o (i : Nat) : Oper := n12A.getD i (n12A.getD 0 default)
noncomputable def n14A : Array Oper := (regAt 14 (bodyOf Tryz.f27)).getD #[]
noncomputable def n14o (i : Nat) : Oper := n14A.getD i (n14A.getD 0 default)
def Na (ms : List DMacro) (ks : List ByteArray) (vs : List AV) : St := sx 106 [(0, jL (ms.map aMacro)), (3, .mp 20)] [(20, .map ks vs)] []
def Nb (ms : List DMacro) (ks : List ByteArray) (vs : List AV) (Q : Nat → List Int) : St := sx 106 [(0, jL (ms.map aMacro)), (3, .mp 20), (8, .vs 44 (lenM aMacro ms))] [(44, .cells 70 (rowsS 5000 3 (RQ Q) (lenM aMacro ms))), (20, .map ks vs)] (rowsG 5000 3 (RQ Q) (lenM aMacro ms))
def Nc (ms : List DMacro) (ks : List ByteArray) (vs : List AV) (Q : Nat → List Int) (v : Nat) : St := sx 106 [(0, jL (ms.map aMacro)), (3, .mp 20), (8, .vs 44 (lenM aMacro ms)), (45, jL (ms.map aMacro)), (46, jI ((lenM aMacro ms : Nat) : Int)), (47, jI ((v : Nat) : Int))] [(44, .cells 70 (rowsS 5000 3 (RQ Q) (lenM aMacro ms))), (20, .map ks vs)] (rowsG 5000 3 (RQ Q) (lenM aMacro ms))
def Nd (ms : List DMacro) (ks : List ByteArray) (vs : List AV) (Q : Nat → List Int) (v : Nat) (m : DMacro) : St := sx 106 [(0, jL (ms.map aMacro)), (3, .mp 20), (8, .vs 44 (lenM aMacro ms)), (9, jI ((v : Nat) : Int)), (10, .ptr 10 0), (45, jL (ms.map aMacro)), (46, jI ((lenM aMacro ms : Nat) : Int)), (47, jI ((v : Nat) : Int))] [(10, .cells 38 (sMacro m)), (44, .cells 70 (rowsS 5000 3 (RQ Q) (lenM aMacro ms))), (20, .map ks vs)] (rowsG 5000 3 (RQ Q) (lenM aMacro ms))
def Ne (ms : List DMacro) (ks : List ByteArray) (vs : List AV) (Q : Nat → List Int) (v : Nat) (m : DMacro) : St := sx 106 [(0, jL (ms.map aMacro)), (3, .mp 20), (8, .vs 44 (lenM aMacro ms)), (9, jI ((v : Nat) : Int)), (10, .ptr 10 0), (11, .mp 61), (45, jL (ms.map aMacro)), (46, jI ((lenM aMacro ms : Nat) : Int)), (47, jI ((v : Nat) : Int))] [(61, .map [] []), (10, .cells 38 (sMacro m)), (44, .cells 70 (rowsS 5000 3 (RQ Q) (lenM aMacro ms))), (20, .map ks vs)] (rowsG 5000 3 (RQ Q) (lenM aMacro ms))
set_option maxRecDepth 100000 in
set_option maxHeartbeats 4000000 in
theorem n9w (ms : List DMacro) (ks : List ByteArray) (vs : List AV) (hl : ms.length ≤ 1048576) : W Tryz.prog (.region 9 n9A false) (fun e S1 => e = .normal ∧ Weak S1 (Nb ms ks vs (fun _ => []))) (Na ms ks vs) := by
  have hlm := lenM_eq aMacro ms
  refine W_regionO ?_
  rw [show n9A.toList = [n9o 0, n9o 1, n9o 2, n9o 3] by kernel_rfl]
  refine WO_pure (jL (ms.map aMacro)) 42 (by kernel_rfl) (by kernel_rfl) ?_
  refine WO_pure (jI ((lenM aMacro ms : Nat) : Int)) 43 (by kernel_rfl) (by kernel_rfl) ?_
  refine WO_own (.vs 44 (lenM aMacro ms)) 44 (by kernel_rfl) (sound_makeRows (b := 5000) (id := 44) (n := lenM aMacro ms) (t := 68) (e := 70) (e2 := 3) (bt := 24) (x := .tmp 43) (y := .tmp 43) (k := .i64) (k' := .i64) (by kernel_rfl) (by kernel_rfl) (by kernel_rfl) (by kernel_rfl) (by kernel_rfl) (by omega) (by omega) (by decide) (by kernel_rfl)) ?_
  refine WO_pure (.vs 44 (lenM aMacro ms)) 8 (by kernel_rfl) (by kernel_rfl) ?_
  refine WO_nil rfl ⟨rfl, WKg (by kernel_rfl) (fun κ => ?_)⟩
  rw [rowsG_gen]
  simp [RQ]
  rfl
set_option maxRecDepth 100000 in
set_option maxHeartbeats 4000000 in
theorem n12w (ms : List DMacro) (ks : List ByteArray) (vs : List AV) (Q : Nat → List Int) (v : Nat) (m : DMacro) (hv : v < ms.length) (hm : el ms v = m) : W Tryz.prog (.region 12 n12A false) (fun e S1 => e = .normal ∧ Weak S1 (Nd ms ks vs Q v m)) (Nc ms ks vs Q v) := by
  have hlm := lenM_eq aMacro ms
  have hgd : (ms.map aMacro).getD v (.val undef) = aMacro m := by rw [← hm]; simp [el, hv]
  refine W_regionO ?_
  rw [show n12A.toList = [n12o 0, n12o 1, n12o 2, n12o 3, n12o 4, n12o 5] by kernel_rfl]
  refine WO_pure (jI ((v : Nat) : Int)) 49 (by kernel_rfl) (by kernel_rfl) ?_
  refine WO_pureP (p := 0 ≤ ((v : Nat) : Int) ∧ ((v : Nat) : Int) < (((ms.map aMacro).length : Nat) : Int) ∧ ((ms.map aMacro).getD v (.val undef)).cells.length = 3 ∧ ((ms.map aMacro).getD v (.val undef)).isTup = false) (.av (.ro ((ms.map aMacro).getD v (.val undef)).cells 0)) 50 ⟨by omega, by rw [List.length_map]; omega, by rw [hgd]; rfl, by rw [hgd]; rfl⟩ (by kernel_rfl) (by kernel_rfl) ?_
  rw [hgd]
  refine WO_pure (.av (.agg (aMacro m).cells)) 51 (by kernel_rfl) (by kernel_rfl) ?_
  refine WO_own (.ptr 10 0) 10 (by kernel_rfl) (sound_alloc (id := 10) (t := 38) (sz := 3) (bt := 64) (z := .agg #[.string ⟨#[]⟩, .slice none 0 0, .slice none 0 0]) (by kernel_rfl) (by kernel_rfl) (by kernel_rfl) (by decide) (names_of (bx := [(44, .cells 70 (rowsS 5000 3 (RQ Q) (lenM aMacro ms))), (20, .map ks vs)]) (by kernel_rfl) (by simp [ABox.svs, rowsS_names]))) ?_
  refine WO_pure (jI ((v : Nat) : Int)) 9 (by kernel_rfl) (by kernel_rfl) ?_
  refine WO_ownN (v := undefS) (by kernel_rfl) (sound_store (t := 38) (sz := 3) (bt := 64) (z := some (.agg #[.string ⟨#[]⟩, .slice none 0 0, .slice none 0 0])) (x := .tmp 10) (y := .tmp 51) (b := 10) (k := 0) (ty := 38) (l := zeroCells (.agg #[.string ⟨#[]⟩, .slice none 0 0, .slice none 0 0])) (xs := sMacro m) (by kernel_rfl) (by kernel_rfl) (by kernel_rfl) (by kernel_rfl) (by kernel_rfl) rfl (by decide)) ?_
  refine WO_nil rfl ⟨rfl, WKg (by kernel_rfl) (fun κ => rfl)⟩
set_option maxRecDepth 100000 in
set_option maxHeartbeats 4000000 in
theorem n14w (ms : List DMacro) (ks : List ByteArray) (vs : List AV) (Q : Nat → List Int) (v : Nat) (m : DMacro) : W Tryz.prog (.region 14 n14A false) (fun e S1 => e = .normal ∧ Weak S1 (Ne ms ks vs Q v m)) (Nd ms ks vs Q v m) := by
  refine W_regionO ?_
  rw [show n14A.toList = [n14o 0, n14o 1, n14o 2, n14o 3, n14o 4] by kernel_rfl]
  refine WO_pure (.ptr 10 1) 58 (by kernel_rfl) (by kernel_rfl) ?_
  refine WO_pure (jL (m.fArgs.map strAV)) 59 (by kernel_rfl) (by kernel_rfl) ?_
  refine WO_pure (jI ((lenM strAV m.fArgs : Nat) : Int)) 60 (by kernel_rfl) (by kernel_rfl) ?_
  refine WO_own (.mp 61) 61 (by kernel_rfl) (sound_makeMap (id := 61) (t := 60) (k := 9) (e := 4) (r := some (.tmp 60)) (by kernel_rfl) (by kernel_rfl) (fun x hx => by cases hx; exact ⟨.i64, ((lenM strAV m.fArgs : Nat) : Int), by kernel_rfl⟩) (by decide) (names_of (bx := [(10, .cells 38 (sMacro m)), (44, .cells 70 (rowsS 5000 3 (RQ Q) (lenM aMacro ms))), (20, .map ks vs)]) (by kernel_rfl) (by simp [ABox.svs, rowsS_names, sMacro, SV.names]))) ?_
  refine WO_pure (.mp 61) 11 (by kernel_rfl) (by kernel_rfl) ?_
  refine WO_nil rfl ⟨rfl, WKg (by kernel_rfl) (fun κ => rfl)⟩
end Go.Proofs.YtcdfhagcchmnhaaGreatDoor
namespace Go.Proofs.YtcdfhagcchmnhaaGreatDoor
open Go Go.Eng
/-- What adding a definition leads to. -/
def AddOk (b : DBlock) (ms : List DMacro) (r : List DMacro × Int) : Prop := (r.2 = 0 → r.1 = ms ++ [mkM b] ∧ ms.length < 64) ∧ (r.2 ≠ 0 → r.1 = ms)
theorem AddOk.cond {b : DBlock} {ms : List DMacro} {c : Bool} {x y : List DMacro × Int} (h1 : c = true → AddOk b ms x) (h2 : c = false → AddOk b ms y) : AddOk b ms (cond c x y) := by
  cases c
  · exact h2 rfl
  · exact h1 rfl
end Go.Proofs.YtcdfhagcchmnhaaGreatDoor
namespace Go.Proofs.YtcdfhagcchmnhaaGreatDoor
open Go Go.Eng
end Go.Proofs.YtcdfhagcchmnhaaGreatDoor
namespace Go.Eng
variable {P : Program}
theorem ev_same {a : Act} {d : Nat} {v : Value} (h : d < a.tmps.size) : (a.put (some d) v).eval (.tmp d) = v := by
  simp only [Act.eval, Act.put, Array.getD_eq_getD_getElem?]
  rw [Array.getElem?_setIfInBounds_self_of_lt h]; rfl
theorem ev_other {a : Act} {d t : Nat} {v : Value} (h : t ≠ d) : (a.put (some d) v).eval (.tmp t) = a.eval (.tmp t) := by
  simp only [Act.eval, Act.put, Array.getD_eq_getD_getElem?]
  rw [Array.getElem?_setIfInBounds_ne (Ne.symm h)]
def colZ : Value := .agg #[.slice none 0 0, .map none]
theorem WO_col {ops : Array Oper} {o1 o2 o3 : Oper} {rest : List Oper} {Q : St → Prop} {S : St} {t m d1 d2 b bt : Nat}
    (ho1 : o1.op = .build t #[(1, .tmp m)]) (hd1 : o1.dst = some d1) (hg1 : o1.guard = none) (ho2 : o2.op = .alloc t) (hd2 : o2.dst = some d2) (hg2 : o2.guard = none) (ho3 : o3.op = .store t (.tmp d2) (.tmp d1)) (hd3 : o3.dst = none) (hg3 : o3.guard = none)
    (hi : tInfo P t = some (2, bt, some colZ)) (hpl : tPlaces P t = some [(0, 1), (1, 1)]) (hm : S.fr[m]? = some (.mp b)) (hm1 : m ≠ d1) (hm2 : m ≠ d2) (h12 : d1 ≠ d2) (hl1 : d1 < S.fr.length) (hl2 : d2 < S.fr.length) (hid : d2 < 1000) (hn : (S.put (some d1) .junk).names d2 = false)
    (h : WO P ops rest Q ((((S.put (some d1) .junk).addBox d2 (.cells t (zeroCells colZ))).put (some d2) (.ptr d2 0)).setBox d2 (.cells t [.nil, .mp b]))) : WO P ops (o1 :: o2 :: o3 :: rest) Q S := by
  intro more Q' G w a hr hq
  have hsz : a.tmps.size = S.fr.length := hr.size.symm
  obtain ⟨blk, hb1, hb2⟩ := hr.fr m _ hm
  have em : a.eval (.tmp m) = .map (some blk) := hb2
  have x1 : (execOp a.eval o1).run P w = .ok (.value (.agg #[.slice none 0 0, .map (some blk)])) w := by
    unfold tPlaces at hpl
    split at hpl
    · rename_i fs hu
      have hmm := run_places w fs.toList _ hpl
      have hm2 : (fs.mapM (fun f => do pure (f.offset, ← sizeOf f.type)) : Sem (Array (Nat × Nat))).run P w = .ok #[(0, 1), (1, 1)] w := by
        rw [Array.mapM_eq_mapM_toList]
        simp only [Sem.run_map, hmm, Result.andThen_ok]
      simp only [bind_pure_comp] at hm2
      have hf : Instr.fill (fun i : Nat => (#[(0, 1), (1, 1)] : Array (Nat × Nat))[i]?) #[.slice none 0 0, .map none] [(1, .map (some blk))] = some #[.slice none 0 0, .map (some blk)] := rfl
      simp [execOp, ho1, Instr.build, run_zeroValue' hi, run_underlying' hu, hm2, em, colZ]
      rfl
    · simp at hpl
  simp only [List.cons_append, wpList]
  rw [if_pos (wanted_none hg1 a)]
  refine .inl ?_
  unfold Oper.wp
  rw [x1, Oper.upon_value, hd1]
  have hr1 : Rel G w (S.put (some d1) .junk) (a.put (some d1) (.agg #[.slice none 0 0, .map (some blk)])) := hr.put (some d1) trivial
  have em1 : (a.put (some d1) (.agg #[.slice none 0 0, .map (some blk)])).eval (.tmp m) = .map (some blk) := by rw [ev_other hm1, em]
  have ed1 : (a.put (some d1) (.agg #[.slice none 0 0, .map (some blk)])).eval (.tmp d1) = .agg #[.slice none 0 0, .map (some blk)] := ev_same (by omega)
  have hs1 : (a.put (some d1) (.agg #[.slice none 0 0, .map (some blk)])).tmps.size = S.fr.length := by simp [Act.put, hsz]
  generalize a.put (some d1) (.agg #[.slice none 0 0, .map (some blk)]) = a1 at hr1 em1 ed1 hs1 ⊢
  rw [if_pos (wanted_none hg2 _)]
  refine .inl ?_
  try unfold Oper.wp
  obtain ⟨e1, e2, e3⟩ := hr1.newBox hn t (RepSs_const colZ.cells.toList) (fun s hs => by simp only [List.mem_map] at hs; obtain ⟨v, _, rfl⟩ := hs; exact const_names d2 v) (by intro x hx; simp [colZ, Value.cells] at hx; rcases hx with rfl | rfl <;> rfl)
  have x2 : (execOp a1.eval o2).run P w = .ok (.value (.pointer (some ⟨w.heap.size, 0, none⟩))) (w.alloc (.cells colZ.cells.toList.toArray t)) := by
    simp [execOp, ho2, Instr.alloc, run_zeroValue' hi, newVar, newRow]
  rw [x2, Oper.upon_value, hd2]
  have hr2 := e2.put (some d2) e3
  have em2 : (a1.put (some d2) (.pointer (some ⟨w.heap.size, 0, none⟩))).eval (.tmp m) = .map (some blk) := by rw [ev_other hm2, em1]
  have ed2 : (a1.put (some d2) (.pointer (some ⟨w.heap.size, 0, none⟩))).eval (.tmp d1) = .agg #[.slice none 0 0, .map (some blk)] := by rw [ev_other h12, ed1]
  have ep2 : (a1.put (some d2) (.pointer (some ⟨w.heap.size, 0, none⟩))).eval (.tmp d2) = .pointer (some ⟨w.heap.size, 0, none⟩) := ev_same (by omega)
  generalize a1.put (some d2) (.pointer (some ⟨w.heap.size, 0, none⟩)) = a2 at hr2 em2 ed2 ep2 ⊢
  have hmf : (((S.put (some d1) .junk).addBox d2 (.cells t (zeroCells colZ))).put (some d2) (.ptr d2 0)).fr[m]? = some (.mp b) := by
    simp only [St.put, St.addBox]
    rw [List.getElem?_set_ne (Ne.symm hm2), List.getElem?_set_ne (Ne.symm hm1)]; exact hm
  obtain ⟨blk2, hc1, hc2⟩ := hr2.fr m _ hmf
  have hc3 : blk2 = blk := by
    have : a2.eval (.tmp m) = .map (some blk2) := hc2
    rw [em2] at this
    cases this; rfl
  subst hc3
  have hlk : (((S.put (some d1) .junk).addBox d2 (.cells t (zeroCells colZ))).put (some d2) (.ptr d2 0)).bx.lookup d2 = some (.cells t (zeroCells colZ)) := by
    simp [St.put, St.addBox, List.lookup]
  obtain ⟨w3, q1, q2, q3⟩ := hr2.storeBox hlk (blk := w.heap.size) (by simp [Gh.bind]) 0 (xs := [.nil, .mp b]) (vs := [.slice none 0 0, .map (some blk2)]) ⟨_, _, rfl, rfl, ⟨_, _, rfl, ⟨blk2, hc1, rfl⟩, rfl⟩⟩ (by intro x hx; simp at hx; rcases hx with rfl | rfl <;> rfl) (by simp [zeroCells, colZ, Value.cells])
  rw [if_pos (wanted_none hg3 _)]
  refine .inl ?_
  try unfold Oper.wp
  have x3 : (execOp a2.eval o3).run P (w.alloc (.cells colZ.cells.toList.toArray t)) = .ok .skip w3 := by
    have hW : ∀ W : World, (storeCells ⟨w.heap.size, 0, none⟩ [.slice none 0 0, .map (some blk2)]).run P W = .ok () w3 → (execOp a2.eval o3).run P W = .ok .skip w3 := fun W hW => by
      simp [execOp, ho3, ep2, ed2, Instr.storeAt, Instr.sureAddr, storeVar, run_sizeOf' hi, Value.cells, hW]
    exact hW _ (q1 P)
  rw [x3, Oper.upon_skip, hd3]
  exact h more Q' _ w3 _ q3 (fun S' G2 a2 w4 p1 p2 p3 p4 => hq S' G2 a2 w4 p1 ((e1.trans q2).trans p2) p3 (fun i hi' => (p4 i hi').trans (by simp only [Gh.bind]; rw [if_neg (by intro h; simp only [Prod.mk.injEq] at h; omega)])))
end Go.Eng
namespace Go.Proofs.YtcdfhagcchmnhaaGreatDoor
open Go Go.Eng
noncomputable def R1 : Array Oper := (regAt 1 (bodyOf Tryz.f7)).getD #[]
noncomputable def o1 (i : Nat) : Oper := R1.getD i (R1.getD 0 default)
def Sa (d : DDoc) : St := sx 16 [(1, .ptr 1 0)] [(1, .cells 25 (sDoc d))] []
def Sb (d : DDoc) : St := sx 16 [(1, .ptr 1 0), (4, .ptr 4 0)] [(4, .cells 62 [.nil, .mp 6]), (6, .map [] []), (1, .cells 25 (sDoc d))] []
set_option maxRecDepth 100000 in
set_option maxHeartbeats 4000000 in
theorem r1 (d : DDoc) : W Tryz.prog (.region 1 R1 false) (fun e S1 => e = .normal ∧ Weak S1 (Sb d)) (Sa d) := by
  refine W_regionO ?_
  rw [show R1.toList = [o1 0, o1 1, o1 2, o1 3] by kernel_rfl]
  refine WO_sound (by kernel_rfl) (sound_makeMap (id := 6) (t := 60) (k := 9) (e := 4) (r := none) (by kernel_rfl) (by kernel_rfl) (by simp) (by decide) (by kernel_rfl)) trivial ?_
  refine WO_col (t := 62) (m := 6) (d1 := 7) (d2 := 4) (b := 6) (bt := 32) (by kernel_rfl) (by kernel_rfl) (by kernel_rfl) (by kernel_rfl) (by kernel_rfl) (by kernel_rfl) (by kernel_rfl) (by kernel_rfl) (by kernel_rfl) (by kernel_rfl) (by kernel_rfl) (by kernel_rfl) (by decide) (by decide) (by decide) (of_decide_eq_true (by kernel_rfl)) (of_decide_eq_true (by kernel_rfl)) (by decide) (by kernel_rfl) ?_
  refine WO_nil rfl ⟨rfl, WK (by kernel_rfl)⟩
end Go.Proofs.YtcdfhagcchmnhaaGreatDoor
namespace Go.Proofs.YtcdfhagcchmnhaaGreatDoor
open Go Go.Eng
theorem useR_L0_len (l : List DBlock) : ∀ (n : Nat) (acc : List ByteArray) (i : Nat), (useR_L0 l n acc i).length ≤ acc.length + n
  | 0, acc, i => Nat.zero_le _
  | n + 1, acc, i => by
    rw [useR_L0]
    have h1 := useR_L0_len l n (acc ++ ([(el (ilsB l) i).fText])) (i + 1)
    have h2 := useR_L0_len l n acc (i + 1)
    simp only [List.length_append, List.length_cons, List.length_nil] at h1
    refine condP (fun r : List ByteArray => r.length ≤ acc.length + (n + 1)) (fun _ => condP (fun r : List ByteArray => r.length ≤ acc.length + (n + 1)) (fun _ => by omega) (fun _ => by omega)) (fun _ => by omega)
theorem useR_len (l : List DBlock) : (useR l).length ≤ (ilsB l).length + 1 := by
  have := useR_L0_len l ((List.length (ilsB l) - (0)) + 1) [] 0
  simpa [useR] using this
end Go.Proofs.YtcdfhagcchmnhaaGreatDoor
namespace Go.Proofs.YtcdfhagcchmnhaaGreatDoor
open Go Go.Eng
def rowN (ns : List ByteArray) (ag : List ByteArray) : List ByteArray → List Int
  | [] => []
  | u :: us => cond (cond (ix ns u).isSome (!hasR ag u) false) (ixI ns u :: rowN ns ag us) (rowN ns ag us)
def nrw (ns : List ByteArray) (m : DMacro) : List Int := rowN ns m.fArgs (useR m.fBody)
def nx (ms : List DMacro) (i : Nat) : List Int := if ixI (names ms) (el ms i).fName = (i : Int) then nrw (names ms) (el ms i) else []
def nxt (ms : List DMacro) : List (List Int) := (List.range ms.length).map (nx ms)
def MOk (ms : List DMacro) : Prop := ms.length ≤ 1048576 ∧ ∀ m ∈ ms, m.fArgs.length ≤ 1048576 ∧ wl wBlock m.fBody ≤ 1048575
theorem names_take {ms : List DMacro} {v : Nat} (h : v < ms.length) : names (ms.take (v + 1)) = names (ms.take v) ++ [(el ms v).fName] := by
  rw [take_succ_el h, names, List.map_append]; rfl
theorem names_len (ms : List DMacro) (v : Nat) (h : v ≤ ms.length) : (names (ms.take v)).length = v := by simp [names]; omega
theorem use_len (l : List DBlock) (h : wl wBlock l ≤ 1048575) : (useR l).length ≤ 1048576 := by
  have h1 := useR_len l
  have h2 := ilsB_len l (by omega)
  omega
theorem rowN_len (ns ag : List ByteArray) : ∀ us, (rowN ns ag us).length ≤ us.length
  | [] => Nat.le_refl _
  | u :: us => by
    have := rowN_len ns ag us
    rw [rowN]
    cases (cond (ix ns u).isSome (!hasR ag u) false)
    · simp only [cond_false, List.length_cons]; omega
    · simp only [cond_true, List.length_cons]; omega
theorem ixI_lt {ns : List ByteArray} {s : ByteArray} (h : (ix ns s).isSome = true) : 0 ≤ ixI ns s ∧ ixI ns s < (ns.length : Int) := by
  unfold ixI
  cases hi : ix ns s with
  | none => rw [hi] at h; cases h
  | some i =>
    have : i < ns.length := by
      unfold ix at hi
      have := (List.findIdx?_eq_some_iff_getElem.1 hi).1
      exact this
    simp only []
    omega
theorem rowN_mem (ns ag : List ByteArray) : ∀ us, ∀ x ∈ rowN ns ag us, 0 ≤ x ∧ x < (ns.length : Int)
  | [], x, h => by cases h
  | u :: us, x, h => by
    rw [rowN] at h
    cases hc : (cond (ix ns u).isSome (!hasR ag u) false) with
    | false => rw [hc] at h; exact rowN_mem ns ag us x h
    | true =>
      rw [hc] at h
      rcases List.mem_cons.1 h with h | h
      · subst h
        exact ixI_lt (cond_ff hc).1
      · exact rowN_mem ns ag us x h
theorem nxt_len (ms : List DMacro) : (nxt ms).length = ms.length := by simp [nxt]
theorem nxt_ok {ms : List DMacro} (h : MOk ms) : OkN (nxt ms) := by
  refine ⟨fun r hr => ?_, by rw [nxt_len]; exact h.1⟩
  simp only [nxt, List.mem_map, List.mem_range] at hr
  obtain ⟨i, hi, rfl⟩ := hr
  unfold nx
  split
  · refine ⟨?_, fun x hx => ?_⟩
    · have h1 := rowN_len (names ms) (el ms i).fArgs (useR (el ms i).fBody)
      have h2 := use_len _ (h.2 _ (el_mem hi)).2
      show (rowN _ _ _).length ≤ _
      omega
    · have := rowN_mem _ _ _ x hx
      rw [nxt_len]
      simpa [names] using this
  · exact ⟨Nat.zero_le _, fun x hx => by cases hx⟩
set_option maxRecDepth 100000 in
set_option maxHeartbeats 4000000 in
theorem needs_to (ms : List DMacro) (hok : MOk ms) : CallTo Tryz.prog 27 [jL (ms.map aMacro)] [] [] (.av (.sl ((nxt ms).map aRow))) [] [] := by
  have hlm := lenM_eq aMacro ms
  obtain ⟨hlen, hmac⟩ := hok
  refine BEG (fun r : List (List Int) => .av (.sl (r.map aRow))) (nxt ms) Tryz.func27 (by kernel_rfl) ?_
  refine GO (tn 8 z) (by kernel_rfl) ?_
  refine LP (n := ms.length + 1) (fun N M S => ∃ (v : Nat) (ks : List ByteArray) (vs : List AV), (v ≤ ms.length) ∧ IOk (names (ms.take v)) ks vs ∧ (ms.length - v < N) ∧ M = nxt ms ∧ S = (sx 106 [(0, jL (ms.map aMacro)), (3, .mp 20), (21, jL (ms.map aMacro)), (22, jI ((lenM aMacro ms : Nat) : Int)), (23, jI ((v : Nat) : Int))] [(20, .map ks vs)] [])) (by kernel_rfl)
    ⟨0, [], [], by omega, IOk_nil, by omega, rfl, rfl⟩ (WK (by kernel_rfl)) ?_
  rintro n0 M S ⟨v, ks, vs, hv, hI, hF0, rfl, rfl⟩
  obtain ⟨n0, rfl⟩ : ∃ k, n0 = k + 1 := ⟨n0 - 1, by omega⟩
  refine GO (tn 1 z) (by kernel_rfl) ?_
  by_cases h1 : v < ms.length
  · have hd : decide ((((v : Nat) : Int) : Int) < ((lenM aMacro ms : Nat) : Int)) = true := dT (by omega)
    have hw1 := wrE (((v : Nat) : Int) + 1) (((v + 1 : Nat) : Int)) (by omega)
    have hel := el_aMacro ms v h1
    have hlk := IOk_lookT hI (el ms v).fName
    refine GO (kb hd (tn 1 (ke hel (tn 7 (kl hlk (tn 7 z)))))) (by kernel_rfl) ?_
    rcases Bool.eq_false_or_eq_true ((ix (names (ms.take v)) (el ms v).fName).isSome) with hb | hb
    · skip
      have hnb : (!(ix (names (ms.take v)) (el ms v).fName).isSome) = false := by rw [hb]; rfl
      refine GO (kb hnb (kn hw1 (tn 1 z))) (by kernel_rfl) ?_
      exact AG ⟨v + 1, ks, vs, by omega, by rw [names_take h1]; exact IOk_old hI hb, by omega, rfl, rfl⟩ (WK (by kernel_rfl)) (by kernel_rfl) (Nat.lt_succ_self _)
    · have hnb : (!(ix (names (ms.take v)) (el ms v).fName).isSome) = true := by rw [hb]; rfl
      refine GO (kb hnb (tn 5 (kn hw1 (tn 1 z)))) (by kernel_rfl) ?_
      have hI2 := IOk_new hI hb
      rw [names_len ms v hv] at hI2
      exact AG ⟨v + 1, mputK ks (el ms v).fName, mputV ks vs (el ms v).fName (vI ((v : Nat) : Int)), by omega, by rw [names_take h1]; exact hI2, by omega, rfl, rfl⟩ (WK (by kernel_rfl)) (by kernel_rfl) (Nat.lt_succ_self _)
  · have hd : decide ((((v : Nat) : Int) : Int) < ((lenM aMacro ms : Nat) : Int)) = false := dF (by omega)
    rw [show ms.take v = ms from List.take_of_length_le (by omega)] at hI
    refine GO (kb hd z) (by kernel_rfl) ?_
    refine OUT (kq 9 z) (by kernel_rfl) ?_
    refine NXW (Nb ms ks vs (fun _ => [])) (tn 3 z) (by kernel_rfl) ?_ (by kernel_rfl) ?_
    · refine W_weak (S' := Na ms ks vs) (WK (by kernel_rfl)) ?_
      exact W_code (c' := .region 9 n9A false) (by kernel_rfl) (n9w ms ks vs hlen)
    refine LP (n := ms.length + 1) (fun N M S => ∃ (v : Nat) (Q : Nat → List Int), (v ≤ ms.length) ∧ (∀ i, i < v → Q i = nx ms i) ∧ (∀ i, v ≤ i → Q i = []) ∧ (ms.length - v < N) ∧ M = nxt ms ∧ S = Nc ms ks vs Q v) (by kernel_rfl)
      ⟨0, fun _ => [], by omega, fun i hi => by omega, fun _ _ => rfl, by omega, rfl, rfl⟩ (WK (by kernel_rfl)) ?_
    rintro n1 M S ⟨v, Q, hv, hQ1, hQ2, hF0, rfl, rfl⟩
    obtain ⟨n1, rfl⟩ : ∃ k, n1 = k + 1 := ⟨n1 - 1, by omega⟩
    refine GO (tn 1 z) (by kernel_rfl) ?_
    by_cases h1 : v < ms.length
    · have hd : decide ((((v : Nat) : Int) : Int) < ((lenM aMacro ms : Nat) : Int)) = true := dT (by omega)
      have hw1 := wrE (((v : Nat) : Int) + 1) (((v + 1 : Nat) : Int)) (by omega)
      obtain ⟨m, hm⟩ : ∃ m, el ms v = m := ⟨_, rfl⟩
      obtain ⟨ha1, hb1⟩ := hmac m (by rw [← hm]; exact el_mem h1)
      have hlk := IOk_look hI m.fName
      refine GO (kb hd (kq 12 z)) (by kernel_rfl) ?_
      refine NXW (Nd ms ks vs Q v m) (tn 3 (kl hlk (tn 2 z))) (by kernel_rfl) ?_ (by kernel_rfl) ?_
      · refine W_weak (S' := Nc ms ks vs Q v) (WK (by kernel_rfl)) ?_
        exact W_code (c' := .region 12 n12A false) (by kernel_rfl) (n12w ms ks vs Q v m h1 hm)
      by_cases h2 : ixI (names ms) m.fName = ((v : Nat) : Int)
      · have hne : (ixI (names ms) m.fName != ((v : Nat) : Int)) = false := by rw [h2]; simp
        have hnx : nx ms v = nrw (names ms) m := by rw [nx, hm, if_pos h2]
        refine GO (kb hne (kq 14 z)) (by kernel_rfl) ?_
        refine NXW (Ne ms ks vs Q v m) (tn 4 z) (by kernel_rfl) ?_ (by kernel_rfl) ?_
        · refine W_weak (S' := Nd ms ks vs Q v m) (WK (by kernel_rfl)) ?_
          exact W_code (c' := .region 14 n14A false) (by kernel_rfl) (n14w ms ks vs Q v m)
        have hla := lenM_eq strAV m.fArgs
        refine LP (n := m.fArgs.length + 1) (fun N M S => ∃ (k : Nat) (ag : List ByteArray), (k ≤ m.fArgs.length) ∧ (∀ x, hasR ag x = hasR (m.fArgs.take k) x) ∧ (m.fArgs.length - k < N) ∧ M = nxt ms ∧ S = (sx 106 [(0, jL (ms.map aMacro)), (3, .mp 20), (8, .vs 44 (lenM aMacro ms)), (9, jI ((v : Nat) : Int)), (10, .ptr 10 0), (11, .mp 61), (45, jL (ms.map aMacro)), (46, jI ((lenM aMacro ms : Nat) : Int)), (47, jI ((v : Nat) : Int)), (63, jL (m.fArgs.map strAV)), (64, jI ((lenM strAV m.fArgs : Nat) : Int)), (65, jI ((k : Nat) : Int))] ((61, .map ag (tvs ag)) :: [(10, .cells 38 (sMacro m)), (44, .cells 70 (rowsS 5000 3 (RQ Q) (lenM aMacro ms))), (20, .map ks vs)]) (rowsG 5000 3 (RQ Q) (lenM aMacro ms)))) (by kernel_rfl)
          ⟨0, [], by omega, fun _ => rfl, by omega, rfl, rfl⟩ (WK (by kernel_rfl)) ?_
        rintro n2 M S ⟨k, ag, hk, hag, hF1, rfl, rfl⟩
        obtain ⟨n2, rfl⟩ : ∃ k, n2 = k + 1 := ⟨n2 - 1, by omega⟩
        refine GO (tn 1 z) (by kernel_rfl) ?_
        by_cases h3 : k < m.fArgs.length
        · have hd : decide ((((k : Nat) : Int) : Int) < ((lenM strAV m.fArgs : Nat) : Int)) = true := dT (by omega)
          have hw2 := wrE (((k : Nat) : Int) + 1) (((k + 1 : Nat) : Int)) (by omega)
          obtain ⟨ag', e1, e2, e3⟩ := put_any ag (el m.fArgs k)
          refine GO (kb hd (ke (el_strAV m.fArgs k h3) (tn 5 (kn hw2 (tn 1 z))))) (by kernel_rfl) ?_
          exact AG ⟨k + 1, ag', by omega, fun x => by rw [e3, hag, take_snoc h3, hasR_app], by omega, rfl, rfl⟩ (wtr (WK (bx := (61, .map (mputK ag (el m.fArgs k)) (mputV ag (tvs ag) (el m.fArgs k) tv)) :: [(10, .cells 38 (sMacro m)), (44, .cells 70 (rowsS 5000 3 (RQ Q) (lenM aMacro ms))), (20, .map ks vs)]) (by kernel_rfl)) (weak_map e1 e2)) (by kernel_rfl) (Nat.lt_succ_self _)
        · have hd : decide ((((k : Nat) : Int) : Int) < ((lenM strAV m.fArgs : Nat) : Int)) = false := dF (by omega)
          rw [show m.fArgs.take k = m.fArgs from List.take_of_length_le (by omega)] at hag
          obtain ⟨us, hus⟩ : ∃ us, useR m.fBody = us := ⟨_, rfl⟩
          have hul := use_len m.fBody hb1
          have huc := uses_to m.fBody (by omega)
          rw [hus] at hul huc
          have hlu := lenM_eq strAV us
          refine GO (kb hd z) (by kernel_rfl) ?_
          refine OUT (tn 2 (kc huc (tn 2 z))) (by kernel_rfl) ?_
          refine LP (n := us.length + 1) (fun N M S => ∃ (k : Nat) (Q' : Nat → List Int), (k ≤ us.length) ∧ (∀ i, i ≠ v → Q' i = Q i) ∧ (Q' v ++ rowN (names ms) m.fArgs (us.drop k) = nx ms v) ∧ ((Q' v).length ≤ k) ∧ (us.length - k < N) ∧ M = nxt ms ∧ S = (sx 106 [(0, jL (ms.map aMacro)), (3, .mp 20), (8, .vs 44 (lenM aMacro ms)), (9, jI ((v : Nat) : Int)), (11, .mp 61), (45, jL (ms.map aMacro)), (46, jI ((lenM aMacro ms : Nat) : Int)), (47, jI ((v : Nat) : Int)), (74, jL (us.map strAV)), (75, jI ((lenM strAV us : Nat) : Int)), (76, jI ((k : Nat) : Int))] ([(44, .cells 70 (rowsS 5000 3 (RQ Q') (lenM aMacro ms)))] ++ [(20, .map ks vs), (61, .map ag (tvs ag))]) (rowsG 5000 3 (RQ Q') (lenM aMacro ms)))) (by kernel_rfl)
            ⟨0, Q, by omega, fun _ _ => rfl, by rw [hQ2 v (Nat.le_refl _), hnx, nrw, hus]; rfl, by rw [hQ2 v (Nat.le_refl _)]; exact Nat.zero_le _, by omega, rfl, rfl⟩ (WK (by kernel_rfl)) ?_
          rintro n3 M S ⟨k, Q', hk, hq1, hq2, hq3, hF1, rfl, rfl⟩
          obtain ⟨n3, rfl⟩ : ∃ k, n3 = k + 1 := ⟨n3 - 1, by omega⟩
          refine GO (tn 1 z) (by kernel_rfl) ?_
          by_cases h4 : k < us.length
          · have hd : decide ((((k : Nat) : Int) : Int) < ((lenM strAV us : Nat) : Int)) = true := dT (by omega)
            have hw2 := wrE (((k : Nat) : Int) + 1) (((k + 1 : Nat) : Int)) (by omega)
            have hsu := el_strAV us k h4
            obtain ⟨u, hu⟩ : ∃ u, el us k = u := ⟨_, rfl⟩
            rw [hu] at hsu
            rw [drop_cons h4, hu, rowN] at hq2
            have hlkT := IOk_lookT hI u
            refine GO (kb hd (ke hsu (tn 4 (kl hlkT (tn 7 (kj ((ix (names ms) u).isSome) (tn 2 (hl (fun _ => look_has ag u) (tn 1 z))) z z)))))) (by kernel_rfl) ?_
            rw [← hag u] at hq2
            rcases Bool.eq_false_or_eq_true (cond (ix (names ms) u).isSome (!hasR ag u) false) with hb | hb
            · skip
              rw [hb, cond_true] at hq2
              refine GO (kb hb (kq 25 z)) (by kernel_rfl) ?_
              refine NXW (n25S ms ks vs ag us ((v : Nat) : Int) (ixI (names ms) u) k (upR (RQ Q') v (vI (ixI (names ms) u)))) (kn hw2 (tn 1 z)) (by kernel_rfl) ?_ (by kernel_rfl) ?_
              · refine W_weak (S' := n25S ms ks vs ag us ((v : Nat) : Int) (ixI (names ms) u) k (RQ Q')) (WK (by kernel_rfl)) ?_
                exact W_code (c' := .region 25 n25A false) (by kernel_rfl) (n25w ms ks vs ag us ((v : Nat) : Int) (ixI (names ms) u) k (RQ Q') (by omega) (by omega) (by rw [Int.toNat_natCast]; simp only [RQ, List.length_map]; omega))
              · rw [upR_Q]
                exact AG ⟨k + 1, upQ Q' v (ixI (names ms) u), by omega, fun i hi => by rw [upQ, if_neg hi]; exact hq1 i hi, by rw [upQ, if_pos rfl, List.append_assoc]; exact hq2, by rw [upQ, if_pos rfl]; simp; omega, by omega, rfl, rfl⟩ (WK (by kernel_rfl)) (by kernel_rfl) (Nat.lt_succ_self _)
            · skip
              rw [hb, cond_false] at hq2
              refine GO (kb hb (kn hw2 (tn 1 z))) (by kernel_rfl) ?_
              exact AG ⟨k + 1, Q', by omega, hq1, hq2, by omega, by omega, rfl, rfl⟩ (WK (by kernel_rfl)) (by kernel_rfl) (Nat.lt_succ_self _)
          · have hd : decide ((((k : Nat) : Int) : Int) < ((lenM strAV us : Nat) : Int)) = false := dF (by omega)
            rw [show us.drop k = [] from List.drop_eq_nil_of_le (by omega), rowN, List.append_nil] at hq2
            refine GO (kb hd z) (by kernel_rfl) ?_
            refine OUT (kn hw1 (tn 1 z)) (by kernel_rfl) ?_
            exact AG ⟨v + 1, Q', by omega, fun i hi => by
              by_cases hiv : i = v
              · subst hiv; exact hq2
              · rw [hq1 i hiv]; exact hQ1 i (by omega), fun i hi => by rw [hq1 i (by omega)]; exact hQ2 i (by omega), by omega, rfl, rfl⟩ (WK (by kernel_rfl)) (by kernel_rfl) (Nat.lt_succ_self _)
      · have hne : (ixI (names ms) m.fName != ((v : Nat) : Int)) = true := by rw [bne_iff_ne]; exact h2
        have hnx : nx ms v = [] := by rw [nx, hm, if_neg h2]
        refine GO (kb hne (kn hw1 (tn 1 z))) (by kernel_rfl) ?_
        exact AG ⟨v + 1, Q, by omega, fun i hi => by
          by_cases hiv : i = v
          · subst hiv; rw [hnx]; exact hQ2 i (Nat.le_refl _)
          · exact hQ1 i (by omega), fun i hi => hQ2 i (by omega), by omega, rfl, rfl⟩ (WK (by kernel_rfl)) (by kernel_rfl) (Nat.lt_succ_self _)
    · have hd : decide ((((v : Nat) : Int) : Int) < ((lenM aMacro ms : Nat) : Int)) = false := dF (by omega)
      have hvn : v = ms.length := by omega
      refine GO (kb hd z) (by kernel_rfl) ?_
      refine OUT (kq 28 z) (by kernel_rfl) ?_
      refine FRC (n := lenM aMacro ms) (e := 70) (l := rowsS 5000 3 (RQ Q) (lenM aMacro ms)) (avs := rowsA (RQ Q) (lenM aMacro ms)) 8 44 (by kernel_rfl) (fun G w us h => rowsS_rep h) (by simp [rowsA]) ?_
      refine GO (tn 2 z) (by kernel_rfl) ?_
      refine ENw (r := .av (.sl (rowsA (RQ Q) (lenM aMacro ms)))) ?_ (by kernel_rfl)
      have : (List.range ms.length).map Q = nxt ms := List.map_congr_left (fun i hi => hQ1 i (by rw [hvn]; exact List.mem_range.1 hi))
      rw [rowsA_Q, hlm, this]
end Go.Proofs.YtcdfhagcchmnhaaGreatDoor
namespace Go.Proofs.YtcdfhagcchmnhaaGreatDoor
open Go Go.Eng
def fndI (ms : List DMacro) (s : ByteArray) : Int := match ix (names ms) s with
  | some i => (i : Int)
  | none => -1
theorem ix_more (a b : List ByteArray) (s : ByteArray) {i : Nat} (h : ix a s = some i) : ix (a ++ b) s = some i := by
  unfold ix at h ⊢
  rw [List.findIdx?_append, h]; rfl
theorem names_split (ms : List DMacro) (v : Nat) : names ms = names (ms.take v) ++ names (ms.drop v) := by
  rw [names, names, names, ← List.map_append, List.take_append_drop]
theorem ix_step {ms : List DMacro} {v : Nat} {s : ByteArray} (hv : v < ms.length) (h : ix (names (ms.take v)) s = none) :
    ix (names (ms.take (v + 1))) s = if eqs (el ms v).fName s = true then some v else none := by
  rw [names_take hv, ix_app, h, names_len ms v (by omega)]
theorem fnd_hit {ms : List DMacro} {v : Nat} {s : ByteArray} (hv : v < ms.length) (h : ix (names (ms.take v)) s = none) (he : eqs (el ms v).fName s = true) : fndI ms s = (v : Int) := by
  have h1 := ix_step hv h
  rw [if_pos he] at h1
  have h2 := ix_more _ (names (ms.drop (v + 1))) s h1
  rw [← names_split] at h2
  rw [fndI, h2]
set_option maxRecDepth 100000 in
set_option maxHeartbeats 4000000 in
theorem fnd_to (ms : List DMacro) (s : ByteArray) (hl : ms.length ≤ 1048576) : CallTo Tryz.prog 30 [jL (ms.map aMacro), jS s] [] [] (jI (fndI ms s)) [] [] := by
  have hlm := lenM_eq aMacro ms
  refine BEG (fun r : Int => jI r) (fndI ms s) Tryz.func30 (by kernel_rfl) ?_
  refine GO (tn 4 z) (by kernel_rfl) ?_
  refine LP (n := ms.length + 1) (fun N M S => ∃ (v : Nat), (v ≤ ms.length) ∧ (ix (names (ms.take v)) s = none) ∧ (ms.length - v < N) ∧ M = fndI ms s ∧ S = (sx 20 [(1, jS s), (7, jL (ms.map aMacro)), (8, jI ((lenM aMacro ms : Nat) : Int)), (9, jI ((v : Nat) : Int))] [] [])) (by kernel_rfl)
    ⟨0, by omega, rfl, by omega, rfl, rfl⟩ (WK (by kernel_rfl)) ?_
  rintro n0 M S ⟨v, hv, hI, hF0, rfl, rfl⟩
  obtain ⟨n0, rfl⟩ : ∃ k, n0 = k + 1 := ⟨n0 - 1, by omega⟩
  refine GO (tn 1 z) (by kernel_rfl) ?_
  by_cases h1 : v < ms.length
  · have hd : decide ((((v : Nat) : Int) : Int) < ((lenM aMacro ms : Nat) : Int)) = true := dT (by omega)
    have hw1 := wrE (((v : Nat) : Int) + 1) (((v + 1 : Nat) : Int)) (by omega)
    refine GO (kb hd (tn 1 (ke (el_aMacro ms v h1) (tn 8 z)))) (by kernel_rfl) ?_
    rcases Bool.eq_false_or_eq_true (eqs (el ms v).fName s) with hb | hb
    · refine UF (M' := ((v : Nat) : Int)) (fnd_hit h1 hI hb) ?_
      refine GO (kb hb (tn 2 z)) (by kernel_rfl) ?_
      refine OUT z (by kernel_rfl) ?_
      exact EN (by kernel_rfl)
    · refine GO (kb hb (kn hw1 (tn 1 z))) (by kernel_rfl) ?_
      exact AG ⟨v + 1, by omega, by rw [ix_step h1 hI, hb]; rfl, by omega, rfl, rfl⟩ (WK (by kernel_rfl)) (by kernel_rfl) (Nat.lt_succ_self _)
  · have hd : decide ((((v : Nat) : Int) : Int) < ((lenM aMacro ms : Nat) : Int)) = false := dF (by omega)
    rw [show ms.take v = ms from List.take_of_length_le (by omega)] at hI
    refine UF (M' := -1) (by rw [fndI, hI]) ?_
    refine GO (kb hd z) (by kernel_rfl) ?_
    refine OUT (tn 1 z) (by kernel_rfl) ?_
    exact EN (by kernel_rfl)
theorem fndI_dec (ms : List DMacro) (u : ByteArray) : decide (fndI ms u ≥ 0) = (ix (names ms) u).isSome := by
  unfold fndI
  cases ix (names ms) u with
  | none => rfl
  | some i => exact dT (by simp only []; omega)
theorem fndI_ix {ms : List DMacro} {u : ByteArray} (h : (ix (names ms) u).isSome = true) : fndI ms u = ixI (names ms) u := by
  unfold fndI ixI
  cases hi : ix (names ms) u with
  | none => rw [hi] at h; cases h
  | some i => rfl
set_option maxRecDepth 100000 in
set_option maxHeartbeats 4000000 in
theorem nds_to (ms : List DMacro) (i : Int) (hok : MOk ms) (h0 : 0 ≤ i) (h1 : i < (ms.length : Int)) : CallTo Tryz.prog 32 [jL (ms.map aMacro), jI i] [] [] (jL ((nrw (names ms) (el ms i.toNat)).map vI)) [] [] := by
  have hlm := lenM_eq aMacro ms
  obtain ⟨hlen, hmac⟩ := hok
  obtain ⟨m, hm⟩ : ∃ m, el ms i.toNat = m := ⟨_, rfl⟩
  obtain ⟨ha1, hb1⟩ := hmac m (by rw [← hm]; exact el_mem (by omega))
  have hel := elI_aMacro ms i h0 h1
  obtain ⟨us, hus⟩ : ∃ us, useR m.fBody = us := ⟨_, rfl⟩
  have hul := use_len m.fBody hb1
  have huc := useR_to m.fBody (by omega)
  rw [hus] at hul huc
  have hlu := lenM_eq strAV us
  have hnr : nrw (names ms) (el ms i.toNat) = rowN (names ms) m.fArgs us := by rw [hm, nrw, hus]
  rw [hm] at hel
  rw [hnr]
  refine BEG (fun r : List Int => jL (r.map vI)) (rowN (names ms) m.fArgs us) Tryz.func32 (by kernel_rfl) ?_
  refine GO (tn 4 (ke hel (tn 2 (kc huc (tn 2 z))))) (by kernel_rfl) ?_
  refine LP (n := us.length + 1) (fun N M S => ∃ (g : Nat) (acc : List Int) (k : Nat), (k ≤ us.length) ∧ (acc.length ≤ k) ∧ (us.length - k < N) ∧ M = acc ++ rowN (names ms) m.fArgs (us.drop k) ∧ S = (sx 41 [(0, jL (ms.map aMacro)), (1, jI i), (5, .own (205, 4) g 1 (acc.map vI)), (14, jL (us.map strAV)), (15, jI ((lenM strAV us : Nat) : Int)), (16, jI ((k : Nat) : Int))] [] [((205, 4), g)])) (by kernel_rfl)
    ⟨0, [], 0, by omega, by simp, by omega, rfl, rfl⟩ (WKf [(5, (.own (205, 4) 0 1 (([] : List Int).map vI)))] (ac (show ((([] : List Int).map vI) : List AV) = [] ∧ 0 < 4 ∧ ((0) : Nat) = (0) from ⟨rfl, by decide, rfl⟩) an) (by kernel_rfl)) ?_
  rintro n0 M S ⟨g, acc, k, hk, hacc, hF0, rfl, rfl⟩
  obtain ⟨n0, rfl⟩ : ∃ k, n0 = k + 1 := ⟨n0 - 1, by omega⟩
  refine GO (tn 1 z) (by kernel_rfl) ?_
  by_cases h2 : k < us.length
  · have hd : decide ((((k : Nat) : Int) : Int) < ((lenM strAV us : Nat) : Int)) = true := dT (by omega)
    have hw1 := wrE (((k : Nat) : Int) + 1) (((k + 1 : Nat) : Int)) (by omega)
    have hsu := el_strAV us k h2
    obtain ⟨u, hu⟩ : ∃ u, el us k = u := ⟨_, rfl⟩
    rw [hu] at hsu
    rw [drop_cons h2, hu, rowN]
    have hfc := fnd_to ms u hlen
    have hdc := fndI_dec ms u
    have hhc := hasR_to m.fArgs u (by omega)
    refine GO (kb hd (ke hsu (tn 4 (kc hfc (tn 4 (kj (decide (fndI ms u ≥ 0)) (tn 2 (he (fun _ => hel) (tn 3 (hc (fun _ => hhc) (tn 1 z))))) z z)))))) (by kernel_rfl) ?_
    rw [← hdc]
    rcases Bool.eq_false_or_eq_true (cond (decide (fndI ms u ≥ 0)) (!hasR m.fArgs u) false) with hb | hb
    · have hs : (ix (names ms) u).isSome = true := by rw [← hdc]; exact (cond_ff hb).1
      have hu1 : Uni 1 [vI (fndI ms u)] := uni_one rfl rfl
      rw [hb, cond_true]
      refine GO (kb hb (tn 2 (kp hu1 (kp (show (g : Nat) = g ∧ Uni 1 [vI (fndI ms u)] ∧ (((acc.map vI) : List AV).length + ([vI (fndI ms u)] : List AV).length) * 8 ≤ 140737488355328 from ⟨rfl, hu1, by simp; omega⟩) (kw (ap1 vI acc (fndI ms u)) (tn 1 (kn hw1 (tn 1 z)))))))) (by kernel_rfl) ?_
      exact AG ⟨g + 1, acc ++ [fndI ms u], k + 1, by omega, by simp; omega, by omega, by rw [← fndI_ix hs]; simp, rfl⟩ (WK (by kernel_rfl)) (by kernel_rfl) (Nat.lt_succ_self _)
    · rw [hb, cond_false]
      refine GO (kb hb (kn hw1 (tn 1 z))) (by kernel_rfl) ?_
      exact AG ⟨g, acc, k + 1, by omega, by omega, by omega, rfl, rfl⟩ (WK (by kernel_rfl)) (by kernel_rfl) (Nat.lt_succ_self _)
  · have hd : decide ((((k : Nat) : Int) : Int) < ((lenM strAV us : Nat) : Int)) = false := dF (by omega)
    rw [show us.drop k = [] from List.drop_eq_nil_of_le (by omega), rowN, List.append_nil]
    refine GO (kb hd z) (by kernel_rfl) ?_
    refine OUT (tn 2 z) (by kernel_rfl) ?_
    exact EN (by kernel_rfl)
end Go.Proofs.YtcdfhagcchmnhaaGreatDoor
namespace Go.Proofs.YtcdfhagcchmnhaaGreatDoor
open Go Go.Eng
def sCond (r i : Int) (c : Bool) (k : Int) (s : List Int) : Bool := cond (cond c (decide (s.getD i.toNat 0 < 0)) false) (s.getD k.toNat 0 == r - 1) false
def sInn (r i : Int) (c : Bool) : List Int → List Int → List Int
  | [], s => s
  | k :: ks, s => sInn r i c ks (cond (sCond r i c k s) (s.set i.toNat r) s)
def isF (ms : List DMacro) (i : Nat) : Bool := fndI ms (el ms i).fName == (i : Int)
def sRow (ms : List DMacro) (r : Int) : List Nat → List Int → List Int
  | [], s => s
  | i :: is, s => sRow ms r is (sInn r (i : Int) (isF ms i) (nrw (names ms) (el ms i)) s)
def sRnd (ms : List DMacro) : List Nat → List Int → List Int
  | [], s => s
  | r :: rs, s => sRnd ms rs (sRow ms (r : Int) (List.range ms.length) s)
def stpM (ms : List DMacro) (to : Int) : List Int := sRnd ms (List.range' 1 ms.length) ((List.replicate ms.length (-1)).set to.toNat 0)
theorem range_drop {n v : Nat} (h : v < n) : (List.range n).drop v = v :: (List.range n).drop (v + 1) := by
  rw [List.drop_eq_getElem_cons (by simpa using h)]
  simp
theorem range1_drop {n v : Nat} (h : v < n) : (List.range' 1 n).drop v = (v + 1) :: (List.range' 1 n).drop (v + 1) := by
  rw [List.drop_eq_getElem_cons (by simpa using h)]
  simp; omega
theorem nrw_mem (ms : List DMacro) (m : DMacro) : ∀ x ∈ nrw (names ms) m, 0 ≤ x ∧ x < (ms.length : Int) := fun x hx => by
  have := rowN_mem _ _ _ x hx
  simpa [names] using this
theorem nrw_len {ms : List DMacro} {m : DMacro} (h : MOk ms) (hm : m ∈ ms) : (nrw (names ms) m).length ≤ 1048576 := by
  have h1 := rowN_len (names ms) m.fArgs (useR m.fBody)
  have h2 := use_len _ (h.2 _ hm).2
  show (rowN _ _ _).length ≤ _
  omega
set_option maxRecDepth 100000 in
set_option maxHeartbeats 4000000 in
theorem stp_to (ms : List DMacro) (to : Int) (hok : MOk ms) (h0 : 0 ≤ to) (h1 : to < (ms.length : Int)) : CallTo Tryz.prog 31 [jL (ms.map aMacro), jI to] [] [] (jL ((stpM ms to).map vI)) [] [] := by
  have hlm := lenM_eq aMacro ms
  have hlen := hok.1
  refine BEG (fun r : List Int => jL (r.map vI)) (stpM ms to) Tryz.func31 (by kernel_rfl) ?_
  refine GO (tn 3 z) (by kernel_rfl) ?_
  refine TELL 5 500 3 1 (by kernel_rfl) ?_
  refine LP (n := ms.length + 1) (fun N M S => ∃ (v : Nat), (v ≤ ms.length) ∧ (ms.length - v < N) ∧ M = stpM ms to ∧ S = (sx 74 [(0, jL (ms.map aMacro)), (1, jI to), (5, .vs 500 v), (6, jI ((v : Nat) : Int))] ([] ++ (500, .vec 3 1 ((List.replicate v (-1 : Int)).map vI)) :: []) [])) (by kernel_rfl)
    ⟨0, by omega, by omega, rfl, rfl⟩ (WK (by kernel_rfl)) ?_
  rintro n0 M S ⟨v, hv, hF0, rfl, rfl⟩
  obtain ⟨n0, rfl⟩ : ∃ k, n0 = k + 1 := ⟨n0 - 1, by omega⟩
  refine GO (tn 4 z) (by kernel_rfl) ?_
  by_cases h2 : v < ms.length
  · have hd : decide ((((v : Nat) : Int) : Int) < ((lenM aMacro ms : Nat) : Int)) = true := dT (by omega)
    have hw1 := wrE (((v : Nat) : Int) + 1) (((v + 1 : Nat) : Int)) (by omega)
    have hu1 : Uni 1 [vI (-1)] := uni_one rfl rfl
    have e2 : ((List.replicate v (-1 : Int)).map vI).take v ++ [vI (-1)] = (List.replicate (v + 1) (-1 : Int)).map vI := by
      rw [List.take_of_length_le (by simp), List.replicate_succ', List.map_append]; rfl
    refine GO (kb hd (tn 1 (kp hu1 (kp (show v ≤ ((List.replicate v (-1 : Int)).map vI).length ∧ Uni 1 [vI (-1)] ∧ (v + [vI (-1)].length) * 8 ≤ 140737488355328 from ⟨by simp, hu1, by simp; omega⟩) (tn 2 (kn hw1 (tn 1 z))))))) (by kernel_rfl) ?_
    exact AG ⟨v + 1, by omega, by omega, rfl, rfl⟩ (wtr (WK (bx := [] ++ (500, .vec 3 1 (((List.replicate v (-1 : Int)).map vI).take v ++ [vI (-1)])) :: []) (by kernel_rfl)) (weak_vec1 e2)) (by kernel_rfl) (Nat.lt_succ_self _)
  · have hd : decide ((((v : Nat) : Int) : Int) < ((lenM aMacro ms : Nat) : Int)) = false := dF (by omega)
    obtain rfl : v = ms.length := by omega
    have hb : 0 ≤ to ∧ to < ((ms.length : Nat) : Int) := ⟨h0, h1⟩
    have hst := stc (List.replicate ms.length (-1)) to 0 h0 (by simpa using h1)
    have hse := ste (List.replicate ms.length (-1)) to 0 h0 (by simpa using h1)
    refine GO (kb hd z) (by kernel_rfl) ?_
    refine OUT (tn 2 (kp hb (kp hst (tn 1 z)))) (by kernel_rfl) ?_
    refine LP (n := ms.length + 2) (fun N M S => ∃ (r : Nat) (s : List Int), (r ≤ ms.length) ∧ (s.length = ms.length) ∧ (ms.length - r < N) ∧ M = sRnd ms ((List.range' 1 ms.length).drop r) s ∧ S = (sx 74 [(0, jL (ms.map aMacro)), (5, .vs 500 ms.length), (7, jI ((r + 1 : Nat) : Int))] ([] ++ (500, .vec 3 1 (s.map vI)) :: []) [])) (by kernel_rfl)
      ⟨0, (List.replicate ms.length (-1)).set to.toNat 0, by omega, by simp, by omega, rfl, rfl⟩ (wtr (WK (bx := [] ++ (500, .vec 3 1 (((List.replicate ms.length (-1)).map vI).set to.toNat ((((List.replicate ms.length (-1)).map vI).getD to.toNat (.val undef)).upd 0 (vI 0)))) :: []) (by kernel_rfl)) (weak_vec1 hse)) ?_
    rintro n1 M S ⟨r, s, hr, hs, hF1, rfl, rfl⟩
    obtain ⟨n1, rfl⟩ : ∃ k, n1 = k + 1 := ⟨n1 - 1, by omega⟩
    refine GO (tn 4 z) (by kernel_rfl) ?_
    by_cases h3 : r < ms.length
    · have hd : decide ((((r + 1 : Nat) : Int) : Int) ≤ ((lenM aMacro ms : Nat) : Int)) = true := dT (by omega)
      have hwr := wrE (((r + 1 : Nat) : Int) + 1) (((r + 1 + 1 : Nat) : Int)) (by omega)
      rw [range1_drop h3, sRnd]
      refine GO (kb hd (tn 1 z)) (by kernel_rfl) ?_
      refine LP (n := ms.length + 1) (fun N M S => ∃ (v : Nat) (s : List Int), (v ≤ ms.length) ∧ (s.length = ms.length) ∧ (ms.length - v < N) ∧ M = sRnd ms ((List.range' 1 ms.length).drop (r + 1)) (sRow ms ((r + 1 : Nat) : Int) ((List.range ms.length).drop v) s) ∧ S = (sx 74 [(0, jL (ms.map aMacro)), (5, .vs 500 ms.length), (7, jI ((r + 1 : Nat) : Int)), (8, jI ((v : Nat) : Int))] ([] ++ (500, .vec 3 1 (s.map vI)) :: []) [])) (by kernel_rfl)
        ⟨0, s, by omega, hs, by omega, rfl, rfl⟩ (WK (by kernel_rfl)) ?_
      rintro n2 M S ⟨v, s, hv, hs, hF2, rfl, rfl⟩
      obtain ⟨n2, rfl⟩ : ∃ k, n2 = k + 1 := ⟨n2 - 1, by omega⟩
      refine GO (tn 4 z) (by kernel_rfl) ?_
      by_cases h4 : v < ms.length
      · have hd : decide ((((v : Nat) : Int) : Int) < ((lenM aMacro ms : Nat) : Int)) = true := dT (by omega)
        have hw1 := wrE (((v : Nat) : Int) + 1) (((v + 1 : Nat) : Int)) (by omega)
        have hnc := nds_to ms ((v : Nat) : Int) hok (by omega) (by omega)
        rw [Int.toNat_natCast] at hnc
        obtain ⟨row, hrw⟩ : ∃ row, nrw (names ms) (el ms v) = row := ⟨_, rfl⟩
        have hr1 := nrw_len hok (el_mem h4)
        have hr2 := nrw_mem ms (el ms v)
        rw [range_drop h4, sRow]
        rw [hrw] at hnc hr1 hr2 ⊢
        have hlr := lenM_eq vI row
        refine GO (kb hd (tn 2 (kc hnc (tn 2 z)))) (by kernel_rfl) ?_
        refine LP (n := row.length + 1) (fun N M S => ∃ (k : Nat) (s : List Int), (k ≤ row.length) ∧ (s.length = ms.length) ∧ (row.length - k < N) ∧ M = sRnd ms ((List.range' 1 ms.length).drop (r + 1)) (sRow ms ((r + 1 : Nat) : Int) ((List.range ms.length).drop (v + 1)) (sInn ((r + 1 : Nat) : Int) ((v : Nat) : Int) (isF ms v) (row.drop k) s)) ∧ S = (sx 74 [(0, jL (ms.map aMacro)), (5, .vs 500 ms.length), (7, jI ((r + 1 : Nat) : Int)), (8, jI ((v : Nat) : Int)), (37, jL (row.map vI)), (38, jI ((lenM vI row : Nat) : Int)), (39, jI ((k : Nat) : Int))] ([] ++ (500, .vec 3 1 (s.map vI)) :: []) [])) (by kernel_rfl)
          ⟨0, s, by omega, hs, by omega, rfl, rfl⟩ (WK (by kernel_rfl)) ?_
        rintro n3 M S ⟨k, s, hk, hs, hF3, rfl, rfl⟩
        obtain ⟨n3, rfl⟩ : ∃ k, n3 = k + 1 := ⟨n3 - 1, by omega⟩
        refine GO (tn 1 z) (by kernel_rfl) ?_
        by_cases h5 : k < row.length
        · have hd : decide ((((k : Nat) : Int) : Int) < ((lenM vI row : Nat) : Int)) = true := dT (by omega)
          have hw2 := wrE (((k : Nat) : Int) + 1) (((k + 1 : Nat) : Int)) (by omega)
          obtain ⟨j, hj⟩ : ∃ j, el row k = j := ⟨_, rfl⟩
          obtain ⟨hj0, hj1⟩ := hr2 _ (el_mem h5)
          have hke := el_vI' row ((k : Nat) : Int) k rfl h5
          rw [drop_consI h5, sInn]
          rw [hj] at hke hj0 hj1 ⊢
          have hel := el_aMacro ms v h4
          have hfc := fnd_to ms (el ms v).fName hlen
          have hbv : 0 ≤ ((v : Nat) : Int) ∧ ((v : Nat) : Int) < ((ms.length : Nat) : Int) := ⟨by omega, by omega⟩
          have hbj : 0 ≤ j ∧ j < ((ms.length : Nat) : Int) := ⟨hj0, hj1⟩
          have hkv := el_vIg s ((v : Nat) : Int) (by omega) (by omega)
          have hkj := el_vIg s j hj0 (by omega)
          have hwm := wrE (((r + 1 : Nat) : Int) - 1) (((r + 1 : Nat) : Int) - 1) (by omega)
          refine GO (kb hd (ke hke (tn 5 (ke hel (tn 2 (kc hfc (tn 3 (kj (isF ms v) (tn 2 (hp (fun _ => hbv) (he (fun _ => hkv) (tn 1 z)))) z (tn 1 (kj (cond (isF ms v) (decide (s.getD ((v : Nat) : Int).toNat 0 < 0)) false) (tn 2 (hp (fun _ => hbj) (he (fun _ => hkj) (tn 1 (hn (fun _ => hwm) (tn 1 z)))))) z z)))))))))) (by kernel_rfl) ?_
          rcases Bool.eq_false_or_eq_true (sCond ((r + 1 : Nat) : Int) ((v : Nat) : Int) (isF ms v) j s) with hb | hb
          · have hst := stc s ((v : Nat) : Int) ((r + 1 : Nat) : Int) (by omega) (by omega)
            have hse := ste s ((v : Nat) : Int) ((r + 1 : Nat) : Int) (by omega) (by omega)
            rw [hb, cond_true]
            refine GO (kb hb (tn 3 (kp hbv (kp hst (kn hw2 (tn 1 z)))))) (by kernel_rfl) ?_
            exact AG ⟨k + 1, s.set ((v : Nat) : Int).toNat ((r + 1 : Nat) : Int), by omega, by rw [List.length_set]; exact hs, by omega, rfl, rfl⟩ (wtr (WK (bx := [] ++ (500, .vec 3 1 ((s.map vI).set ((v : Nat) : Int).toNat (((s.map vI).getD ((v : Nat) : Int).toNat (.val undef)).upd 0 (vI ((r + 1 : Nat) : Int))))) :: []) (by kernel_rfl)) (weak_vec1 hse)) (by kernel_rfl) (Nat.lt_succ_self _)
          · rw [hb, cond_false]
            refine GO (kb hb (kn hw2 (tn 1 z))) (by kernel_rfl) ?_
            exact AG ⟨k + 1, s, by omega, hs, by omega, rfl, rfl⟩ (WK (by kernel_rfl)) (by kernel_rfl) (Nat.lt_succ_self _)
        · have hd : decide ((((k : Nat) : Int) : Int) < ((lenM vI row : Nat) : Int)) = false := dF (by omega)
          rw [show row.drop k = [] from List.drop_eq_nil_of_le (by omega), sInn]
          refine GO (kb hd z) (by kernel_rfl) ?_
          refine OUT (tn 1 (kn hw1 (tn 1 z))) (by kernel_rfl) ?_
          exact AG ⟨v + 1, s, by omega, hs, by omega, rfl, rfl⟩ (WK (by kernel_rfl)) (by kernel_rfl) (Nat.lt_succ_self _)
      · have hd : decide ((((v : Nat) : Int) : Int) < ((lenM aMacro ms : Nat) : Int)) = false := dF (by omega)
        rw [show (List.range ms.length).drop v = [] from List.drop_eq_nil_of_le (by simp; omega), sRow]
        refine GO (kb hd z) (by kernel_rfl) ?_
        refine OUT (tn 1 (kn hwr (tn 1 z))) (by kernel_rfl) ?_
        exact AG ⟨r + 1, s, by omega, hs, by omega, rfl, rfl⟩ (WK (by kernel_rfl)) (by kernel_rfl) (Nat.lt_succ_self _)
    · have hd : decide ((((r + 1 : Nat) : Int) : Int) ≤ ((lenM aMacro ms : Nat) : Int)) = false := dF (by omega)
      rw [show (List.range' 1 ms.length).drop r = [] from List.drop_eq_nil_of_le (by simp; omega), sRnd]
      refine GO (kb hd z) (by kernel_rfl) ?_
      refine OUT (kq 19 z) (by kernel_rfl) ?_
      refine FRZ (n := ms.length) (l := s.map vI) (l' := s.map vI) 5 500 (by kernel_rfl) (by rw [List.length_map, hs]; omega) (List.take_of_length_le (by rw [List.length_map, hs]; omega)) ?_
      refine GO (tn 2 z) (by kernel_rfl) ?_
      exact EN (by kernel_rfl)
end Go.Proofs.YtcdfhagcchmnhaaGreatDoor
