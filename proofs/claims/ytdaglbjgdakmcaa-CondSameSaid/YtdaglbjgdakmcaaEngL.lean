/- A function's contract out of its body. -/
import Derived.Test.YtdaglbjgdakmcaaEngK
set_option linter.unusedSimpArgs false
set_option linter.unusedVariables false
namespace Go.Eng

def aRes1 (P : Program) (S : St) : ResultVar → Option SV
  | .tmp t => S.fr[t]?
  | .cell a t => (aLoad P t (S.fr.getD a .junk) S).map (·.v)

def aResL (P : Program) (S : St) : List ResultVar → Option (List AV)
  | [] => some []
  | r :: l => match aRes1 P S r, aResL P S l with
    | some s, some xs => (s.toAV).map (fun x => x :: xs)
    | _, _ => none

def aRes (P : Program) (fn : Func) (S : St) : Option SV :=
  match fn.results.toList with
  | [r] => (aRes1 P S r).map SV.norm
  | rs => (aResL P S rs).map (fun l => .av (.tup l))

section
variable {P : Program}

def resRun (tmps : Array Value) : ResultVar → Sem Value
  | .tmp t => pure (tmps.getD t undef)
  | .cell a t => do loadVar t (← asAddr (tmps.getD a undef))

theorem aRes1_sound {S : St} {r : ResultVar} {s : SV} (h : aRes1 P S r = some s) {G : Gh} {w : World} {a : Act} (hr : Rel G w S a) : ∃ v, (resRun a.tmps r).run P w = .ok v w ∧ RepS G w s v := by
  cases r with
  | tmp t =>
    simp only [aRes1] at h
    exact ⟨_, by simp [resRun], hr.fr t s h⟩
  | cell ad t =>
    simp only [aRes1, Option.map_eq_some_iff] at h
    obtain ⟨r, h1, rfl⟩ := h
    have ho : astep P { dst := none, op := .load t (.tmp ad), type := 0, pos := "", after := #[], guard := none } S = some r := by simpa [astep, St.ev] using h1
    have hok : r.ok ∧ r.st = S := by
      unfold aLoad at h1
      split at h1
      · split at h1
        · split at h1
          · simp only [Option.map_eq_some_iff] at h1; obtain ⟨q, _, rfl⟩ := h1; exact ⟨trivial, rfl⟩
          · simp at h1
        · simp only [Option.map_eq_some_iff] at h1; obtain ⟨q, _, rfl⟩ := h1; exact ⟨trivial, rfl⟩
        · simp at h1
      · split at h1
        · split at h1
          · split at h1
            · split at h1
              · split at h1
                · simp only [Option.some.injEq] at h1; subst h1; exact ⟨trivial, rfl⟩
                · simp at h1
              · simp at h1
            · simp at h1
          · split at h1
            · simp only [Option.some.injEq] at h1; subst h1; exact ⟨trivial, rfl⟩
            · simp at h1
          · simp at h1
        · simp at h1
      · simp at h1
    have hev := hr.ev (.tmp ad)
    have key : ∀ (hp : ∃ b o, a.tmps.getD ad undef = .pointer (some ⟨b, o, none⟩)) , ∃ v, (resRun a.tmps (.cell ad t)).run P w = .ok v w ∧ RepS G w r.v v := by
      rintro ⟨b, o, hp⟩
      obtain ⟨nx, v, w', G', e1, e2, _⟩ := astep_sound ho hok.1 G w a hr
      have hst : ∃ v, (loadVar t ⟨b, o, none⟩).run P w = .ok v w ∧ RepS G w r.v v := by
        have hs := astep_sound ho
        clear e1 e2
        unfold aLoad at h1
        split at h1
        · rename_i ha
          split at h1
          · rename_i b' k' hx
            split at h1
            · rename_i ty l hb
              simp only [Option.map_eq_some_iff] at h1; obtain ⟨q, hq, rfl⟩ := h1
              have := hev; simp only [St.ev, hx, Act.eval] at this
              obtain ⟨blk, h2, h3⟩ := this
              rw [hp] at h3; simp at h3; obtain ⟨rfl, rfl⟩ := h3
              obtain ⟨blk', arr, g1, g2, g3, g4, g5⟩ := hr.bx _ (lookup_mem hb)
              simp only at g1
              rw [h2] at g1; simp at g1; subst g1
              obtain ⟨u, h4, h5⟩ := g4.get o q hq
              have hc : w.cell? ⟨b, o, none⟩ = some u := by simpa [World.cell?, g2] using h4
              exact ⟨u, run_loadVar_one ha hc, h5⟩
            · simp at h1
          · rename_i l k hx
            simp only [Option.map_eq_some_iff] at h1; obtain ⟨q, hq, rfl⟩ := h1
            have := hev; simp only [St.ev, hx, Act.eval, RepS, Rep] at this
            obtain ⟨b', o', us, h3, h4, h5, h6⟩ := this
            rw [hp] at h3; simp at h3; obtain ⟨rfl, rfl⟩ := h3
            obtain ⟨u, h7, h8⟩ := h4.get k q hq
            exact ⟨u, run_loadVar_one ha (h6 k u h7).1, h8⟩
          · simp at h1
        · rename_i ha
          split at h1
          · rename_i sz _ _ hi
            split at h1
            · rename_i b' k' hx
              split at h1
              · rename_i ty l hb
                split at h1
                · rename_i r' hr'
                  split at h1
                  · rename_i hsz
                    simp only [Option.some.injEq] at h1; subst h1
                    have := hev; simp only [St.ev, hx, Act.eval] at this
                    obtain ⟨blk, h2, h3⟩ := this
                    rw [hp] at h3; simp at h3; obtain ⟨rfl, rfl⟩ := h3
                    obtain ⟨blk', arr, g1, g2, g3, g4, g5⟩ := hr.bx _ (lookup_mem hb)
                    simp only at g1
                    rw [h2] at g1; simp at g1; subst g1
                    have h4 := ((g4.drop o).take sz).allAV hr'
                    have hl := h4.length
                    have hc : ∀ j v, ((arr.toList.drop o).take sz)[j]? = some v → w.cell? ⟨b, o + j, none⟩ = some v := by
                      intro j v hj
                      rw [List.getElem?_take] at hj
                      split at hj
                      · simp only [List.getElem?_drop] at hj; simpa [World.cell?, g2] using hj
                      · simp at hj
                    refine ⟨_, run_loadVar_agg ha hi (hl.trans hsz) hc, ?_⟩
                    simp only [RepS, Rep]
                    exact ⟨_, rfl, h4, fun y hy => g5 y (List.mem_of_mem_drop (List.mem_of_mem_take hy))⟩
                  · simp at h1
                · simp at h1
              · simp at h1
            · rename_i l k hx
              split at h1
              · rename_i hsz
                simp only [Option.some.injEq] at h1; subst h1
                have := hev; simp only [St.ev, hx, Act.eval, RepS, Rep] at this
                obtain ⟨b', o', us, h3, h4, h5, h6⟩ := this
                rw [hp] at h3; simp at h3; obtain ⟨rfl, rfl⟩ := h3
                have h7 := (h4.drop k).take sz
                have hl := h4.length
                have hc : ∀ j v, ((us.drop k).take sz)[j]? = some v → w.cell? ⟨b, (o' + k) + j, none⟩ = some v := by
                  intro j v hj
                  rw [List.getElem?_take] at hj
                  split at hj
                  · simp only [List.getElem?_drop] at hj; have := (h6 _ v hj).1; rwa [Nat.add_assoc]
                  · simp at hj
                refine ⟨_, run_loadVar_agg ha hi (vs := (us.drop k).take sz) (by simp; omega) hc, ?_⟩
                simp only [RepS, Rep]
                refine ⟨_, rfl, h7, fun y hy => ?_⟩
                have hy' := List.mem_of_mem_drop (List.mem_of_mem_take hy)
                obtain ⟨j, hj⟩ := List.mem_iff_getElem?.1 hy'
                exact (h6 j y hj).2
              · simp at h1
            · simp at h1
          · simp at h1
        · simp at h1
      obtain ⟨v, q1, q2⟩ := hst
      exact ⟨v, by simp [resRun, hp, asAddr, q1], q2⟩
    have hp : ∃ b o, a.tmps.getD ad undef = .pointer (some ⟨b, o, none⟩) := by
      unfold aLoad at h1
      have hcase : (∃ b k, S.fr.getD ad .junk = .ptr b k) ∨ (∃ l k, S.fr.getD ad .junk = .av (.ro l k)) := by
        split at h1
        · split at h1
          · rename_i b k hx; exact .inl ⟨b, k, hx⟩
          · rename_i l k hx; exact .inr ⟨l, k, hx⟩
          · simp at h1
        · split at h1
          · split at h1
            · rename_i b k hx; exact .inl ⟨b, k, hx⟩
            · rename_i l k hx; exact .inr ⟨l, k, hx⟩
            · simp at h1
          · simp at h1
        · simp at h1
      rcases hcase with ⟨b, k, hx⟩ | ⟨l, k, hx⟩
      · have := hev; simp only [St.ev, hx, Act.eval] at this
        obtain ⟨blk, _, h3⟩ := this
        exact ⟨blk, k, h3⟩
      · have := hev; simp only [St.ev, hx, Act.eval, RepS, Rep] at this
        obtain ⟨b, o, us, h3, _⟩ := this
        exact ⟨b, o + k, h3⟩
    exact key hp

theorem aResL_sound {S : St} {G : Gh} {w : World} {a : Act} (hr : Rel G w S a) : ∀ {rs : List ResultVar} {l : List AV}, aResL P S rs = some l → ∃ vs, (rs.mapM (resRun a.tmps)).run P w = .ok vs w ∧ RepL G.U w l vs
  | [], l, h => by simp [aResL] at h; subst h; exact ⟨[], by simp, by simp [RepL]⟩
  | r :: rs, l, h => by
    simp only [aResL] at h
    split at h
    · rename_i s xs h1 h2
      simp only [Option.map_eq_some_iff] at h
      obtain ⟨x, h3, rfl⟩ := h
      obtain ⟨v, e1, e2⟩ := aRes1_sound h1 hr
      obtain ⟨vs, e3, e4⟩ := aResL_sound hr h2
      refine ⟨v :: vs, by simp [List.mapM_cons, e1, e3], ?_⟩
      simp only [RepL]
      exact ⟨v, vs, rfl, e2.toAV h3, e4⟩
    · simp at h

theorem results_eq (fn : Func) (tmps : Array Value) : results fn tmps = (do let vs ← fn.results.mapM (resRun tmps); pure (if h : vs.size = 1 then vs[0] else .tuple vs)) := by
  unfold results
  congr 1

theorem aRes_sound {fn : Func} {S : St} {s : SV} (h : aRes P fn S = some s) {G : Gh} {w : World} {a : Act} (hr : Rel G w S a) : ∃ v, (results fn a.tmps).run P w = .ok v w ∧ RepS G w s v := by
  unfold aRes at h
  split at h
  · rename_i r hrs
    simp only [Option.map_eq_some_iff] at h
    obtain ⟨s', h1, rfl⟩ := h
    obtain ⟨v, e1, e2⟩ := aRes1_sound h1 hr
    refine ⟨v, ?_, e2.norm⟩
    rw [results_eq, arr1 hrs, Array.mapM_eq_mapM_toList]
    simp [e1]
  · rename_i rs hrs
    simp only [Option.map_eq_some_iff] at h
    obtain ⟨l, h1, rfl⟩ := h
    obtain ⟨vs, e1, e2⟩ := aResL_sound hr h1
    refine ⟨.tuple vs.toArray, ?_, ?_⟩
    · rw [results_eq, Array.mapM_eq_mapM_toList]
      simp only [Sem.run_bind, Sem.run_map, e1, Result.andThen_ok, Sem.run_pure]
      have hne : ¬ vs.toArray.size = 1 := by
        intro h1'
        have hl := e2.length
        have hlen : fn.results.toList.length = l.length := by
          clear e1 e2 hrs hl
          revert h1
          generalize fn.results.toList = rs
          intro h1
          induction rs generalizing l with
          | nil => simp [aResL] at h1; subst h1; rfl
          | cons r rs ih =>
            simp only [aResL] at h1
            split at h1
            · rename_i s xs _ h2
              simp only [Option.map_eq_some_iff] at h1
              obtain ⟨x, _, rfl⟩ := h1
              simp [ih _ h2]
            · simp at h1
        simp at h1'
        have h1l : fn.results.toList.length = 1 := by omega
        obtain ⟨r, hr1⟩ := List.length_eq_one_iff.1 h1l
        exact hrs r hr1
      rw [dif_neg hne]
    · simp only [RepS, Rep]; exact ⟨_, rfl, by simpa using e2⟩

/-- What the state names lies among the boxes ids and the slices gn. -/
def OkSV (ids : List Nat) (gn : List (Key × Nat)) : SV → Prop
  | .own k g _ _ => gn.lookup k = some g
  | s => ∀ κ ∈ s.keys, κ.1 ∈ ids

theorem lookup_mem' {l : List (Key × Nat)} {k : Key} {g : Nat} (h : l.lookup k = some g) : (k, g) ∈ l := by
  induction l with
  | nil => simp at h
  | cons p l ih =>
    obtain ⟨k', y⟩ := p
    simp only [List.lookup_cons] at h
    split at h
    · rename_i hk; simp only [Option.some.injEq] at h; have := eq_of_beq hk; subst this h; simp
    · simp [ih h]

theorem RepS_transfer {G G' : Gh} {w : World} {ids : List Nat} {gn : List (Key × Nat)} {s : SV} {u : Value} (hU : G'.U = G.U) (hk : OkSV ids gn s) (ho : ∀ i : Nat, i ∈ ids → G'.ow (i, 0) = G.ow (i, 0)) (hg : ∀ k g, gn.lookup k = some g → G'.ow k = G.ow k ∧ G.gen k = g ∧ G'.gen k = g) (hr : RepS G w s u) : RepS G' w s u := by
  have key : ∀ (p : PV) (u : Value), (∀ κ ∈ p.keys, κ.1 ∈ ids) → RepP G w p u → RepP G' w p u := by
    intro p u hp h
    cases p with
    | av x => simp only [RepP] at h ⊢; rw [hU]; exact h
    | ptr b o => obtain ⟨blk, h1, h2⟩ := h; exact ⟨blk, by rw [ho b (hp (b, 0) (by simp [PV.keys]))]; exact h1, h2⟩
    | mp b => obtain ⟨blk, h1, h2⟩ := h; exact ⟨blk, by rw [ho b (hp (b, 0) (by simp [PV.keys]))]; exact h1, h2⟩
  have keyL : ∀ (l : List PV) (us : List Value), (∀ κ ∈ l.flatMap PV.keys, κ.1 ∈ ids) → RepPs G w l us → RepPs G' w l us := by
    intro l
    induction l with
    | nil => intro us _ h; exact h
    | cons p l ih =>
      intro us hp h
      obtain ⟨u, us', e1, e2, e3⟩ := h
      exact ⟨u, us', e1, key p u (fun κ hκ => hp κ (by simp [hκ])) e2, ih us' (fun κ hκ => hp κ (by simp only [List.flatMap_cons, List.mem_append]; exact .inr hκ)) e3⟩
  cases s with
  | junk => trivial
  | nil => exact hr
  | av x => simp only [RepS] at hr ⊢; rw [hU]; exact hr
  | ptr b o => obtain ⟨blk, h1, h2⟩ := hr; exact ⟨blk, by rw [ho b (hk (b, 0) (by simp [SV.keys]))]; exact h1, h2⟩
  | mp b => obtain ⟨blk, h1, h2⟩ := hr; exact ⟨blk, by rw [ho b (hk (b, 0) (by simp [SV.keys]))]; exact h1, h2⟩
  | own k g sz l =>
    obtain ⟨q1, q2, q3⟩ := hg k g hk
    obtain ⟨h0, hgg, a, cap, es, h1, h2, h3, h4, hn, hsp, h5, h6⟩ := hr
    refine ⟨h0, by omega, a, cap, es, h1, by rw [hU]; exact h2, h3, h4, hn, hsp, by rw [hU]; exact h5, fun _ => ?_⟩
    rcases h6 q2 with h6 | ⟨b, off, arr, e, h7, h8, h9, h10, h11, h12⟩
    · exact .inl h6
    · exact .inr ⟨b, off, arr, e, h7, by rw [q1]; exact h8, h9, h10, by rw [hU]; exact h11, h12⟩
  | son b =>
    rcases hr with h1 | ⟨blk, h1, h2⟩
    · exact .inl h1
    · exact .inr ⟨blk, by rw [ho b (hk (b, 0) (by simp [SV.keys]))]; exact h1, h2⟩
  | fn f fs cs =>
    obtain ⟨vs, us, h1, h2, h3⟩ := hr
    refine ⟨vs, us, h1, keyL fs _ (fun κ hκ => hk κ ?_) h2, keyL cs _ (fun κ hκ => hk κ ?_) h3⟩
    · simp only [SV.keys, List.mem_append]; exact .inl hκ
    · simp only [SV.keys, List.mem_append]; exact .inr hκ

theorem RepSs_transfer {G G' : Gh} {w : World} {ids : List Nat} {gn : List (Key × Nat)} (hU : G'.U = G.U) (ho : ∀ i : Nat, i ∈ ids → G'.ow (i, 0) = G.ow (i, 0)) (hg : ∀ k g, gn.lookup k = some g → G'.ow k = G.ow k ∧ G.gen k = g ∧ G'.gen k = g) : ∀ {l : List SV} {us : List Value}, (∀ s ∈ l, OkSV ids gn s) → RepSs G w l us → RepSs G' w l us
  | [], _, _, h => h
  | s :: l, us, hk, h => by
    obtain ⟨u, us', e, h2, h3⟩ := h
    exact ⟨u, us', e, RepS_transfer hU (hk s (by simp)) ho hg h2, RepSs_transfer hU ho hg (fun x hx => hk x (by simp [hx])) h3⟩

theorem RepB_transfer {G G' : Gh} {w : World} {ids : List Nat} {gn : List (Key × Nat)} {id : Nat} {x : ABox} (hU : G'.U = G.U) (ho : ∀ i : Nat, i ∈ ids → G'.ow (i, 0) = G.ow (i, 0)) (hg : ∀ k g, gn.lookup k = some g → G'.ow k = G.ow k ∧ G.gen k = g ∧ G'.gen k = g) (hid : id ∈ ids) (hk : ∀ s ∈ x.svs, OkSV ids gn s) (h : RepB G w id x) : RepB G' w id x := by
  cases x with
  | cells e l =>
    obtain ⟨blk, arr, h1, h2, h3, h4, h5⟩ := h
    exact ⟨blk, arr, by rw [ho id hid]; exact h1, h2, by rw [hU]; exact h3, RepSs_transfer hU ho hg hk h4, h5⟩
  | map ks vs =>
    obtain ⟨blk, ents, clock, h1, h2, h3, h4, h5, h6⟩ := h
    exact ⟨blk, ents, clock, by rw [ho id hid]; exact h1, h2, by rw [hU]; exact h3, h4, by rw [hU]; exact h5, h6⟩

/-- Where the body ends: the result and the boxes. -/
def Ends (P : Program) (fn : Func) (res : SV) (bx' : List (Nat × ABox)) (gn' : List (Key × Nat)) : Exit → St → Prop
  | .normal, S | .ret, S => aRes P fn S = some res ∧ (∀ p ∈ bx', S.bx.lookup p.1 = some p.2) ∧ ∀ p ∈ gn', S.gen p.1 = p.2
  | _, _ => False

theorem lookup_of_mem {l : List (Key × Nat)} {k : Key} (h : k ∈ l.map (·.1)) : ∃ g, l.lookup k = some g := by
  cases hl : l.lookup k with
  | some g => exact ⟨g, rfl⟩
  | none =>
    rw [List.lookup_eq_none_iff] at hl
    simp only [List.mem_map] at h
    obtain ⟨p, hp, hpk⟩ := h
    have := hl p hp
    simp at this
    exact (this hpk.symm).elim

theorem CallTo_of_body {f : FuncId} {fn : Func} {c : Code} (hf : P.funcs[f]? = some fn) (hb : fn.body = some c) (hname : (fn.name == "runtime.NumGoroutine") = false) {args : List SV} {bx bx' : List (Nat × ABox)} {gn gn' : List (Key × Nat)} {res : SV} {n : Nat} (hn : fn.ntmps = n)
    (hle : args.length ≤ n) (hids : ∀ p ∈ bx, 1000 ≤ p.1) (hgk : ∀ p ∈ gn, 1000 ≤ p.1.1 ∧ 0 < p.1.2) (hargs : ∀ s ∈ args, OkSV (bx.map (·.1)) gn s) (hbx : ∀ p ∈ bx, ∀ s ∈ p.2.svs, OkSV (bx.map (·.1)) gn s)
    (hres : OkSV (bx.map (·.1)) gn' res) (hbx' : ∀ p ∈ bx', ∀ s ∈ p.2.svs, OkSV (bx.map (·.1)) gn' s) (hsame : bx'.map (·.1) = bx.map (·.1)) (hgn' : gn'.map (·.1) = gn.map (·.1))
    (h : W P c (Ends P fn res bx' gn') ⟨args ++ List.replicate (n - args.length) .junk, bx, gn⟩) : CallTo P f args bx gn res bx' gn' := by
  refine ⟨⟨fn, hf, by rw [hb]; rfl, hname⟩, ?_⟩
  intro G w vs hw hr hbr hgr
  have hlv := hr.length
  let ids := bx.map (·.1)
  let mine : Key → Prop := fun κ => (κ.1 ∈ ids ∧ κ.2 = 0) ∨ κ ∈ gn.map (·.1)
  have hdec : ∀ κ, mine κ ∨ ¬ mine κ := fun κ => Classical.em _
  let G0 : Gh := { U := G.U, ow := fun κ => @ite _ (mine κ) (Classical.propDecidable _) (G.ow κ) none, gen := fun κ => (gn.lookup κ).getD 0 }
  have hG0 : ∀ κ : Key, mine κ → G0.ow κ = G.ow κ := fun κ hκ => by simp only [G0]; rw [if_pos hκ]
  have hG0s : ∀ κ b, G0.ow κ = some b → mine κ ∧ G.ow κ = some b := by
    intro κ b hb
    simp only [G0] at hb
    split at hb
    · rename_i hk; exact ⟨hk, hb⟩
    · simp at hb
  have hgl : ∀ k g, gn.lookup k = some g → G.gen k = g := fun k g hl => hgr (k, g) (lookup_mem' hl)
  have hid0 : ∀ i : Nat, i ∈ ids → G0.ow (i, 0) = G.ow (i, 0) := fun i hi => hG0 (i, 0) (.inl ⟨hi, rfl⟩)
  have hgn0 : ∀ k g, gn.lookup k = some g → G0.ow k = G.ow k ∧ G.gen k = g ∧ G0.gen k = g := fun k g hl =>
    ⟨hG0 k (.inr (by have := lookup_mem' hl; exact List.mem_map_of_mem this)), hgl k g hl, by simp only [G0, hl, Option.getD_some]⟩
  have hw0 : Wf G0 w := ⟨fun κ κ' b h1 h2 => hw.inj κ κ' b (hG0s κ b h1).2 (hG0s κ' b h2).2, fun κ b h1 => hw.lt κ b (hG0s κ b h1).2, hw.zero⟩
  have hrel : Rel G0 w ⟨args ++ List.replicate (n - args.length) .junk, bx, gn⟩ { tmps := vs.toArray ++ Array.replicate (fn.ntmps - vs.toArray.size) undef, defers := [] } := by
    refine ⟨hw0, ?_, fun t s ht => ?_, fun p hp => ?_, fun k => rfl, rfl⟩
    · simp [hlv, hn]
    · simp only at ht
      rcases Nat.lt_or_ge t args.length with hlt | hge
      · rw [List.getElem?_append_left hlt] at ht
        have hr0 := RepSs_transfer (G := G) (G' := G0) rfl hid0 hgn0 hargs hr
        obtain ⟨u, h1, h2⟩ := hr0.get t s ht
        have : (vs.toArray ++ Array.replicate (fn.ntmps - vs.toArray.size) undef).getD t undef = u := by
          have hlt' : t < vs.length := by omega
          simp only [Array.getD_eq_getD_getElem?]
          rw [Array.getElem?_append_left (by simpa using hlt')]
          simp [h1]
        rw [this]; exact h2
      · rw [List.getElem?_append_right hge, List.getElem?_replicate] at ht
        split at ht
        · simp at ht; subst ht; trivial
        · simp at ht
    · exact RepB_transfer (G := G) (G' := G0) rfl hid0 hgn0 (List.mem_map_of_mem hp) (hbx p hp) (hbr p hp)
  refine calls_of_wp hf hb (Code.wp_mono (fun e a w' hl => ?_) (h G0 w _ hrel))
  obtain ⟨S', G1, h1, h2, h3, h4⟩ := hl
  have done : aRes P fn S' = some res ∧ (∀ p ∈ bx', S'.bx.lookup p.1 = some p.2) ∧ (∀ p ∈ gn', S'.gen p.1 = p.2) → a.defers = [] ∧ ∃ v, (results fn a.tmps).run P w' = .ok v w' ∧
      ∃ v_1 G', Ending.returned v = .returned v_1 ∧ Step G w G' w' ∧ Wf G' w' ∧ RepS G' w' res v_1 ∧ (∀ p ∈ bx', RepB G' w' p.1 p.2) ∧ (∀ i : Nat, i ∉ bx'.map (·.1) → Keep G w G' w' (i, 0)) ∧ (∀ i, G'.ow (i, 0) = G.ow (i, 0)) ∧ ∀ κ : Key, G'.gen κ = (gn'.lookup κ).getD (G.gen κ) := by
    rintro ⟨g1, g2, g3⟩
    obtain ⟨v, e1, e2⟩ := aRes_sound g1 h3
    let G' : Gh := { U := G1.U, ow := fun κ => @ite _ (mine κ) (Classical.propDecidable _) (G1.ow κ) (G.ow κ), gen := fun κ => (gn'.lookup κ).getD (G.gen κ) }
    have hG' : ∀ κ : Key, mine κ → G'.ow κ = G1.ow κ := fun κ hκ => by simp only [G']; rw [if_pos hκ]
    have hG'n : ∀ κ : Key, ¬ mine κ → G'.ow κ = G.ow κ := fun κ hκ => by simp only [G']; rw [if_neg hκ]
    have hnot : ∀ κ b, ¬ mine κ → G.ow κ = some b → w'.heap[b]? = w.heap[b]? ∧ G1.U b = G.U b := by
      intro κ b hκ hb
      refine h2.stay b (hw.lt κ b hb) (fun κ2 h' => ?_)
      obtain ⟨q1, q2⟩ := hG0s κ2 b h'
      have := hw.inj κ2 κ b q2 hb
      subst this; exact hκ q1
    have hgn1 : ∀ k g, gn'.lookup k = some g → G1.gen k = g := fun k g hl => by rw [h3.gn k]; exact g3 (k, g) (lookup_mem' hl)
    have hgmem : ∀ k g, gn'.lookup k = some g → k ∈ gn.map (·.1) := fun k g hl => by rw [← hgn']; exact List.mem_map_of_mem (lookup_mem' hl)
    have hgn2 : ∀ k g, gn'.lookup k = some g → G'.ow k = G1.ow k ∧ G1.gen k = g ∧ G'.gen k = g := fun k g hl =>
      ⟨hG' k (.inr (hgmem k g hl)), hgn1 k g hl, by simp only [G', hl, Option.getD_some]⟩
    have hid1 : ∀ i : Nat, i ∈ ids → G'.ow (i, 0) = G1.ow (i, 0) := fun i hi => hG' (i, 0) (.inl ⟨hi, rfl⟩)
    have how : ∀ κ b, G'.ow κ = some b → (mine κ ∧ G1.ow κ = some b) ∨ (¬ mine κ ∧ G.ow κ = some b) := by
      intro κ b hκ
      rcases hdec κ with hm | hm
      · rw [hG' κ hm] at hκ; exact .inl ⟨hm, hκ⟩
      · rw [hG'n κ hm] at hκ; exact .inr ⟨hm, hκ⟩
    have hmono : ∀ κ, G.gen κ ≤ G'.gen κ := by
      intro κ
      simp only [G']
      cases hl : gn'.lookup κ with
      | none => simp
      | some g =>
        obtain ⟨g0, hl0⟩ := lookup_of_mem (hgmem κ g hl)
        have := h2.gen κ
        rw [hgn1 κ g hl] at this
        simp only [G0, hl0, Option.getD_some] at this
        simp only [Option.getD_some]
        rw [hgl κ g0 hl0]; exact this
    have hext : Ext G w G' w' := by
      refine ⟨h2.U, h2.imm, h2.size, h2.os, h2.tape, h2.output, hmono, fun κ h0 hge => ?_⟩
      rcases hdec κ with hm | hm
      · rcases hm with ⟨_, hz⟩ | hm2
        · omega
        · obtain ⟨g0, hl0⟩ := lookup_of_mem hm2
          obtain ⟨g, hl⟩ := lookup_of_mem (l := gn') (k := κ) (by rw [hgn']; exact hm2)
          have hgg : G1.gen κ = G0.gen κ := by
            have e1 : G'.gen κ = g := by simp only [G', hl, Option.getD_some]
            rw [hgn1 κ g hl]
            simp only [G0, hl0, Option.getD_some]
            rw [← hgl κ g0 hl0, ← hge, e1]
          obtain ⟨k1, k2⟩ := h2.tok κ h0 hgg
          refine ⟨by rw [hG' κ (.inr hm2), k1, hG0 κ (.inr hm2)], fun b hb => ?_⟩
          exact k2 b (by rw [hG0 κ (.inr hm2)]; exact hb)
      · exact ⟨hG'n κ hm, fun b hb => hnot κ b hm hb⟩
    refine ⟨h3.defers, v, e1, v, G', rfl, ⟨hext, ?_, ?_⟩, ⟨?_, ?_, h3.wf.zero⟩, ?_, ?_, ?_, ?_, fun _ => rfl⟩
    · intro b hb' hno
      exact h2.stay b hb' (fun κ hκ => hno κ (hG0s κ b hκ).2)
    · intro κ b hκ
      rcases how κ b hκ with ⟨_, q⟩ | ⟨_, q⟩
      · rcases h2.rng κ b q with ⟨κ', h'⟩ | h'
        · exact .inl ⟨κ', (hG0s κ' b h').2⟩
        · exact .inr h'
      · exact .inl ⟨κ, q⟩
    · intro κ κ' b hκ hκ'
      have cross : ∀ κ κ', mine κ → G1.ow κ = some b → ¬ mine κ' → G.ow κ' = some b → κ = κ' := by
        intro κ κ' m1 q1 m2 q2
        rcases h2.rng κ b q1 with ⟨κ2, h'⟩ | h'
        · obtain ⟨r1, r2⟩ := hG0s κ2 b h'
          have := hw.inj κ2 κ' b r2 q2
          subst this; exact (m2 r1).elim
        · have := hw.lt κ' b q2; omega
      rcases how κ b hκ with ⟨m1, q1⟩ | ⟨m1, q1⟩ <;> rcases how κ' b hκ' with ⟨m2, q2⟩ | ⟨m2, q2⟩
      · exact h3.wf.inj κ κ' b q1 q2
      · exact cross κ κ' m1 q1 m2 q2
      · exact (cross κ' κ m2 q2 m1 q1).symm
      · exact hw.inj κ κ' b q1 q2
    · intro κ b hκ
      rcases how κ b hκ with ⟨_, q⟩ | ⟨_, q⟩
      · exact h3.wf.lt κ b q
      · have := hw.lt κ b q; have := h2.size; omega
    · exact RepS_transfer (G := G1) (G' := G') rfl hres hid1 hgn2 e2
    · intro p hp
      have := h3.bx _ (lookup_mem (g2 p hp))
      exact RepB_transfer (G := G1) (G' := G') rfl hid1 hgn2 (by show p.1 ∈ bx.map (·.1); rw [← hsame]; exact List.mem_map_of_mem hp) (hbx' p hp) this
    · intro i hi
      have hm : ¬ mine (i, 0) := by
        rintro (⟨q, _⟩ | q)
        · exact hi (by rw [hsame]; exact q)
        · simp only [List.mem_map] at q
          obtain ⟨p, hp, hpk⟩ := q
          have := (hgk p hp).2; rw [hpk] at this; simp at this
      exact ⟨hG'n _ hm, fun b hb => hnot _ b hm hb⟩
    · intro i
      rcases hdec (i, 0) with hm | hm
      · rw [hG' _ hm]
        have hi : i ∈ ids := by
          rcases hm with ⟨q, _⟩ | q
          · exact q
          · simp only [List.mem_map] at q
            obtain ⟨p, hp, hpk⟩ := q
            have := (hgk p hp).2; rw [hpk] at this; simp at this
        have hi2 := hi
        simp only [ids, List.mem_map] at hi2
        obtain ⟨p, hp, rfl⟩ := hi2
        rw [h4 p.1 (hids p hp), hid0 p.1 hi]
      · exact hG'n _ hm
  cases e with
  | normal => exact done h1
  | ret => exact done h1
  | exit id => exact h1.elim
  | goto l => exact h1.elim
  | panic ch => exact h1.elim
  | outgrown => exact h1.elim

end
end Go.Eng
