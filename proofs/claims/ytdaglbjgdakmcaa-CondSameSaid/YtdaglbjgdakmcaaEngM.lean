/- Small words for the printed proofs. -/
import Derived.Test.YtdaglbjgdakmcaaEngL
set_option linter.unusedSimpArgs false
set_option linter.unusedVariables false
namespace Go.Eng

theorem an : All [] := trivial
theorem ac {p : Prop} {l : List Prop} (h : p) (h' : All l) : All (p :: l) := ⟨h, h'⟩

/-- The second slot says no more than the first. -/
def WkS (S : St) : SV → SV → Prop
  | _, .junk => True
  | .own k g sz l, .own k' g' sz' l' => k = k' ∧ g = g' ∧ sz = sz' ∧ l = l'
  | .own _ _ _ l, .av x => x = .sl l
  | .nil, .av x => x = .sl []
  | .nil, .own k g _ l => l = [] ∧ 0 < k.2 ∧ S.gen k = g
  | .av x, .son _ => x = .val (.pointer none)
  | .ptr b o, .son b' => b = b' ∧ o = 0
  | s, s' => s = s'

def WkL (S : St) : List SV → List SV → Prop
  | [], [] => True
  | s :: l, s' :: l' => WkS S s s' ∧ WkL S l l'
  | _, _ => False

def WkB (S : St) : ABox → ABox → Prop
  | .cells t l, .cells t' l' => t = t' ∧ WkL S l l'
  | x, x' => x = x'

def WkBx (S : St) : List (Nat × ABox) → Prop
  | [] => True
  | (id, x') :: r => (match S.bx.lookup id with | some x => WkB S x x' | none => False) ∧ WkBx S r

def WkG (a b : List (Key × Nat)) : List Key → Prop
  | [] => True
  | k :: r => (a.lookup k).getD 0 = (b.lookup k).getD 0 ∧ WkG a b r

theorem WkS_rep {G : Gh} {w : World} {S : St} (hg : ∀ k : Key, G.gen k = S.gen k) {s s' : SV} {u : Value} (h : WkS S s s') (hr : RepS G w s u) : RepS G w s' u := by
  unfold WkS at h
  split at h
  · trivial
  · obtain ⟨rfl, rfl, rfl, rfl⟩ := h; exact hr
  · subst h; exact hr.own_sl
  · subst h; simp only [RepS] at hr; subst hr; exact Rep_nil _ _
  · obtain ⟨rfl, h0, rfl⟩ := h
    simp only [RepS] at hr; subst hr
    exact ⟨h0, by rw [hg]; exact Nat.le_refl _, none, 0, [], rfl, by simp [RepL], by simp, by simp, by simp, by simp, .inl (by simp [vcells]), fun _ => .inl ⟨rfl, rfl⟩⟩
  · subst h; simp only [RepS, Rep] at hr; exact .inl hr.1
  · obtain ⟨rfl, rfl⟩ := h; exact .inr hr
  · subst h; exact hr

theorem WkL_reps {G : Gh} {w : World} {S : St} (hg : ∀ k : Key, G.gen k = S.gen k) : ∀ {l l' : List SV} {us : List Value}, WkL S l l' → RepSs G w l us → RepSs G w l' us
  | [], [], _, _, h => h
  | s :: l, s' :: l', us, h, hr => by
    obtain ⟨u, us', e, h2, h3⟩ := hr
    exact ⟨u, us', e, WkS_rep hg h.1 h2, WkL_reps hg h.2 h3⟩
  | [], _ :: _, _, h, _ => h.elim
  | _ :: _, [], _, h, _ => h.elim

theorem WkL_get {S : St} : ∀ {l l' : List SV}, WkL S l l' → l.length = l'.length ∧ ∀ (t : Nat) s', l'[t]? = some s' → ∃ s, l[t]? = some s ∧ WkS S s s'
  | [], [], _ => ⟨rfl, fun t s' h => by simp at h⟩
  | s :: l, s' :: l', h => by
    obtain ⟨h1, h2⟩ := WkL_get h.2
    refine ⟨by simp [h1], fun t x hx => ?_⟩
    cases t with
    | zero => simp at hx; subst hx; exact ⟨s, rfl, h.1⟩
    | succ t => simp at hx; obtain ⟨y, hy, hw⟩ := h2 t x hx; exact ⟨y, by simpa using hy, hw⟩
  | [], _ :: _, h => h.elim
  | _ :: _, [], h => h.elim

theorem WkBx_get {S : St} : ∀ {r : List (Nat × ABox)}, WkBx S r → ∀ p ∈ r, ∃ x, S.bx.lookup p.1 = some x ∧ WkB S x p.2
  | [], _, p, hp => by simp at hp
  | (id, x') :: r, h, p, hp => by
    simp only [List.mem_cons] at hp
    rcases hp with rfl | hp
    · have := h.1
      split at this
      · rename_i x hx; exact ⟨x, hx, this⟩
      · exact this.elim
    · exact WkBx_get h.2 p hp

theorem WkG_get {a b : List (Key × Nat)} : ∀ {r : List Key}, WkG a b r → ∀ k ∈ r, (a.lookup k).getD 0 = (b.lookup k).getD 0
  | [], _, k, hk => by simp at hk
  | k' :: r, h, k, hk => by
    simp only [List.mem_cons] at hk
    rcases hk with rfl | hk
    · exact h.1
    · exact WkG_get h.2 k hk

theorem weak_of {S S' : St} (h1 : WkL S S.fr S'.fr) (h2 : WkBx S S'.bx) (h3 : WkG S.gn S'.gn (S.gn.map (·.1) ++ S'.gn.map (·.1))) : Weak S S' := by
  intro G w a hr
  obtain ⟨q1, q2⟩ := WkL_get h1
  refine ⟨hr.wf, by rw [← q1]; exact hr.size, fun t s' ht => ?_, fun p hp => ?_, fun k => ?_, hr.defers⟩
  · obtain ⟨s, hs, hw⟩ := q2 t s' ht
    exact WkS_rep hr.gn hw (hr.fr t s hs)
  · obtain ⟨x, hx, hw⟩ := WkBx_get h2 p hp
    have hb := hr.bx _ (lookup_mem hx)
    simp only at hb
    unfold WkB at hw
    split at hw
    · rename_i t l t' l' e1
      rw [e1]
      obtain ⟨rfl, hw⟩ := hw
      obtain ⟨blk, arr, g1, g2, g3, g4, g5⟩ := hb
      exact ⟨blk, arr, g1, g2, g3, WkL_reps hr.gn hw g4, g5⟩
    · subst hw; exact hb
  · rw [hr.gn k]
    simp only [St.gen]
    by_cases hk : k ∈ S.gn.map (·.1) ++ S'.gn.map (·.1)
    · exact WkG_get h3 k hk
    · have n1 : S.gn.lookup k = none := by
        rw [List.lookup_eq_none_iff]; intro p hp; simp; intro e; exact hk (by rw [e]; exact List.mem_append.2 (.inl (List.mem_map_of_mem hp)))
      have n2 : S'.gn.lookup k = none := by
        rw [List.lookup_eq_none_iff]; intro p hp; simp; intro e; exact hk (by rw [e]; exact List.mem_append.2 (.inr (List.mem_map_of_mem hp)))
      rw [n1, n2]

theorem W_cut {P : Program} {x y : Code} {Q : Exit → St → Prop} {S : St} (J : St → Prop) (h1 : W P x (thenS (fun S' => ∃ S1, Weak S' S1 ∧ J S1) Q) S) (h2 : ∀ S1, J S1 → W P y Q S1) : W P (.seq x y) Q S :=
  W_seq (W_mono h1 (fun e S' h => by
    cases e with
    | normal => obtain ⟨S1, hw, hj⟩ := h; exact W_weak hw (h2 S1 hj)
    | exit _ => exact h
    | goto _ => exact h
    | ret => exact h
    | panic _ => exact h
    | outgrown => exact h))

theorem hit {id : Nat} {Q : Exit → St → Prop} {S : St} (h : Q .normal S) : blockS id Q (.exit id) S := by simp only [blockS, if_true]; exact h
theorem miss {id id' : Nat} {Q : Exit → St → Prop} {S : St} (hne : id' ≠ id) (h : Q (.exit id') S) : blockS id Q (.exit id') S := by simp only [blockS, if_neg hne]; exact h
theorem pass {id : Nat} {Q : Exit → St → Prop} {S : St} {e : Exit} (h : Q e S) (hne : ∀ i, e ≠ .exit i) : blockS id Q e S := by
  cases e <;> first | exact h | exact (hne _ rfl).elim
theorem skipS {K : St → Prop} {Q : Exit → St → Prop} {S : St} {e : Exit} (h : Q e S) (hne : e ≠ .normal) : thenS K Q e S := by
  cases e <;> first | exact h | exact (hne rfl).elim

theorem ends {P : Program} {fn : Func} {res r : SV} {bx' : List (Nat × ABox)} {gn' : List (Key × Nat)} {S : St} {e : Exit} (he : e = .ret ∨ e = .normal) (h1 : aRes P fn S = some r) (h2 : r = res) (h3 : ∀ p ∈ bx', S.bx.lookup p.1 = some p.2) (h4 : ∀ p ∈ gn', S.gen p.1 = p.2) : Ends P fn res bx' gn' e S := by
  subst h2
  rcases he with rfl | rfl <;> exact ⟨h1, h3, h4⟩

theorem wrap_i64 {n : Int} (h1 : -9223372036854775808 ≤ n) (h2 : n ≤ 9223372036854775807) : IntKind.i64.wrap n = n := IntWalk.i64_in n ⟨h1, h2⟩

theorem wrap_eq {n m : Int} (h1 : -9223372036854775808 ≤ n) (h2 : n ≤ 9223372036854775807) (h : n = m) : IntKind.i64.wrap n = m := by rw [wrap_i64 h1 h2]; exact h

/-- The byte at k. -/
def byt (s : ByteArray) (k : Nat) : Nat := (s.data.getD k 0).toNat


theorem bres {a b : Bool} (h : a = b) : (SV.av (.val (.bool a))) = (SV.av (.val (.bool b))) := by rw [h]

theorem eq_of_bne_false {a b : Int} (h : (a != b) = false) : a = b := by simpa using h

def strAV (t : ByteArray) : AV := .val (.string t)

/-- A function without boxes. -/
theorem pure_of {P : Program} {f : FuncId} {fn : Func} {c : Code} (hf : P.funcs[f]? = some fn) (hb : fn.body = some c) (hname : (fn.name == "runtime.NumGoroutine") = false) {xs : List AV} {res : AV} {n : Nat} (hn : fn.ntmps = n) (hle : xs.length ≤ n)
    (h : W P c (Ends P fn (.av res) [] []) ⟨xs.map .av ++ List.replicate (n - xs.length) .junk, [], []⟩) : CallTo P f (xs.map .av) [] [] (.av res) [] [] :=
  CallTo_of_body hf hb hname hn (by simpa using hle) (by simp) (by simp) (fun s hs => by simp only [List.mem_map] at hs; obtain ⟨x, _, rfl⟩ := hs; simp [OkSV, SV.keys]) (by simp) (by simp [OkSV, SV.keys]) (by simp) rfl rfl (by simpa using h)

end Go.Eng
