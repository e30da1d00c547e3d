/- The normal form of a condition has its value and its flags, and is its own normal form. -/
import Derived.Test.YtdaglbjgdakmcaaLaw8
set_option linter.unusedSimpArgs false
set_option linter.unusedVariables false
namespace Go.Proofs.Ytdaglbjgdakmcaa
open Go Go.Eng

theorem scan_all (s : ByteArray) : ∀ (n k : Nat), scanE s n k = k + n → ∀ j, k ≤ j → j < k + n → inB ((byt s j : Nat) : Int) = true
  | 0, k, _, j, h1, h2 => by omega
  | n + 1, k, h, j, h1, h2 => by
    simp only [scanE] at h
    split at h
    · rename_i hb
      by_cases hj : j = k
      · subst hj; exact hb
      · exact scan_all s n (k + 1) (by omega) j (by omega) (by omega)
    · omega
theorem name_bytes {s : ByteArray} (h : nameB s = true) : s.data.toList ≠ [] ∧ ∀ c ∈ s.data.toList, sep c = false := by
  simp only [nameB, Bool.and_eq_true, decide_eq_true_eq, beq_iff_eq] at h
  obtain ⟨⟨⟨h1, h2⟩, h3⟩, h4⟩ := h
  refine ⟨fun h0 => ?_, fun c hc => ?_⟩
  · have h5 := congrArg List.length h0
    rw [show s.data.toList.length = s.size by simp] at h5
    simp only [List.length_nil] at h5; omega
  · obtain ⟨j, hj⟩ := List.mem_iff_getElem?.1 hc
    have hlt : j < s.size := by
      rcases Nat.lt_or_ge j s.data.toList.length with h | h
      · simpa using h
      · simp [List.getElem?_eq_none h] at hj
    obtain ⟨d, hd, hb⟩ := byt_drop hlt
    have hcd : d = c := by
      have h5 : (s.data.toList.drop j)[0]? = some c := by simpa using hj
      rw [hd] at h5; simpa using h5
    subst hcd
    have hin := scan_all s s.size 0 (by omega) j (by omega) (by omega)
    rw [← sep_byt, ← hb]
    cases hs : sepB ((byt s j : Nat) : Int) with
    | false => rfl
    | true =>
      exfalso
      simp only [sepB, Bool.or_eq_true, beq_iff_eq] at hs
      simp only [inB, letB, Bool.or_eq_true, Bool.and_eq_true, decide_eq_true_eq, beq_iff_eq] at hin
      omega
theorem tkl_name {s : ByteArray} (h : nameB s = true) : tkl s.data.toList = [s] := by
  obtain ⟨h1, h2⟩ := name_bytes h
  rw [tkl_one h1 h2]; rfl

/-! ### the tokens of what is printed -/
structure Wd (W word : ByteArray) : Prop where
  head : ∀ r, Brk (W.data.toList ++ r)
  toks : ∀ r, tkl (W.data.toList ++ r) = word :: tkl r
  size : W.size = word.size + 2
theorem wd_or : Wd ⟨#[32, 111, 114, 32]⟩ ⟨#[111, 114]⟩ := by
  refine ⟨fun r => brk_cons rfl, fun r => ?_, rfl⟩
  show tkl (32 :: 111 :: 114 :: 32 :: r) = _
  rw [tkl_sp, tkl_word 111 _ rfl, show List.takeWhile nsep (114 :: 32 :: r) = [114] from rfl, show List.dropWhile nsep (114 :: 32 :: r) = 32 :: r from rfl, tkl_sp]; rfl
theorem wd_and : Wd ⟨#[32, 97, 110, 100, 32]⟩ ⟨#[97, 110, 100]⟩ := by
  refine ⟨fun r => brk_cons rfl, fun r => ?_, rfl⟩
  show tkl (32 :: 97 :: 110 :: 100 :: 32 :: r) = _
  rw [tkl_sp, tkl_word 97 _ rfl, show List.takeWhile nsep (110 :: 100 :: 32 :: r) = [110, 100] from rfl, show List.dropWhile nsep (110 :: 100 :: 32 :: r) = 32 :: r from rfl, tkl_sp]; rfl
theorem jt_brk {W word : ByteArray} (h : Wd W word) (l : List ByteArray) : Brk (jt W l).data.toList := by
  cases l with
  | nil => exact brk_nil
  | cons s l => simp only [jt, dl, List.append_assoc]; exact h.head _
theorem tkl_jt {W word : ByteArray} (h : Wd W word) : ∀ l : List ByteArray, tkl (jt W l).data.toList = tjt word (l.map (fun s => tkl s.data.toList))
  | [] => rfl
  | s :: l => by
    simp only [jt, dl, List.append_assoc, List.map_cons, tjt]
    rw [h.toks, tkl_cat (jt_brk h l), tkl_jt h l]
theorem tkl_jn {W word : ByteArray} (h : Wd W word) (l : List ByteArray) : tkl (jn W l).data.toList = tjn word (l.map (fun s => tkl s.data.toList)) := by
  cases l with
  | nil => rfl
  | cons s l => simp only [jn_cons, dl, List.map_cons, tjn_cons]; rw [tkl_cat (jt_brk h l), tkl_jt h l]
theorem jt_bsum {W word : ByteArray} (h : Wd W word) (T : ByteArray → List ByteArray) : ∀ l : List ByteArray, (∀ s ∈ l, s.size + 1 ≤ bsum (T s)) → (jt W l).size ≤ bsum (tjt word (l.map T))
  | [], _ => by simp only [jt, zNil]; omega
  | s :: l, hs => by
    have ih := jt_bsum h T l (fun x hx => hs x (by simp [hx]))
    have := hs s (by simp)
    have := h.size
    simp only [jt, ByteArray.size_append, List.map_cons, tjt, bsum_cons, bsum_app]; omega
theorem jn_bsum {W word : ByteArray} (h : Wd W word) (T : ByteArray → List ByteArray) {l : List ByteArray} (hl : l ≠ []) (hs : ∀ s ∈ l, s.size + 1 ≤ bsum (T s)) : (jn W l).size + 1 ≤ bsum (tjn word (l.map T)) := by
  match l, hl with
  | s :: l, _ =>
    have ih := jt_bsum h T l (fun x hx => hs x (by simp [hx]))
    have := hs s (by simp)
    simp only [jn_cons, ByteArray.size_append, List.map_cons, tjn_cons, bsum_app]; omega

def tkW (y : Nd) (w : Int) : List ByteArray := if w == 4 || w == 5 then tkA y else tk0 y
def PrOk (y : Nd) : Prop := ∀ w, tkl (prR y w).data.toList = tkW y w ∧ (prR y w).size + 1 ≤ bsum (tkW y w)
theorem tkW_plain {y : Nd} (h : (y.kind == 5 || y.kind == 6) = false) (w : Int) : tkW y w = tk0 y := by
  have e : tkA y = tk0 y := by unfold tkA; rw [if_neg (by rw [h]; simp)]
  unfold tkW; rw [e]; simp
theorem pr_ops {k : Int} (hk : k = 5 ∨ k = 6) {W word : ByteArray} (hw : wordR k = W) (h : Wd W word) {kids : List Nd} (hl : 2 ≤ kids.length) (T : Nd → List ByteArray) (hT : ∀ x ∈ kids, tkl (prR x k).data.toList = T x ∧ (prR x k).size + 1 ≤ bsum (T x))
    (ht : tk0 (.mk k ⟨#[]⟩ kids) = tjn word (kids.map T)) : PrOk (.mk k ⟨#[]⟩ kids) := by
  have e : prG k kids 0 ⟨#[]⟩ = jn W (kids.map (fun x => prR x k)) := by rw [prG0, hw]
  have t1 : tkl (prG k kids 0 ⟨#[]⟩).data.toList = tk0 (.mk k ⟨#[]⟩ kids) := by
    rw [e, tkl_jn h, ht, List.map_map]
    congr 1
    exact List.map_congr_left fun x hx => (hT x hx).1
  have t2 : (prG k kids 0 ⟨#[]⟩).size + 1 ≤ bsum (tk0 (.mk k ⟨#[]⟩ kids)) := by
    have := jn_bsum h (fun s => tkl s.data.toList) (l := kids.map (fun x => prR x k)) (by intro h0; simp at h0; subst h0; simp at hl) (fun s hs => by
      simp only [List.mem_map] at hs
      obtain ⟨x, hx, rfl⟩ := hs
      have := hT x hx
      rw [this.1]; exact this.2)
    rw [← e] at this
    rw [ht]
    have e3 : (kids.map (fun x => prR x k)).map (fun s => tkl s.data.toList) = kids.map T := by
      rw [List.map_map]; exact List.map_congr_left fun x hx => (hT x hx).1
    rw [e3] at this; exact this
  intro w
  have hp : prR (.mk k ⟨#[]⟩ kids) w = if w == 4 || w == 5 then ⟨#[40]⟩ ++ prG k kids 0 ⟨#[]⟩ ++ ⟨#[41]⟩ else prG k kids 0 ⟨#[]⟩ := by
    rcases hk with rfl | rfl <;> simp [prR]
  rw [hp]
  unfold tkW
  split
  · have ha : tkA (.mk k ⟨#[]⟩ kids) = ⟨#[40]⟩ :: (tk0 (.mk k ⟨#[]⟩ kids) ++ [⟨#[41]⟩]) := by unfold tkA; rw [if_pos (by rcases hk with rfl | rfl <;> rfl)]
    rw [ha]
    refine ⟨?_, ?_⟩
    · simp only [dl, List.append_assoc]
      show tkl (40 :: ((prG k kids 0 ⟨#[]⟩).data.toList ++ [41])) = _
      rw [tkl_par 40 _ (.inl rfl), tkl_cat (brk_cons rfl), t1, tkl_par 41 _ (.inr rfl), tkl_nil]; rfl
    · simp only [ByteArray.size_append, zOpen, zClose, bsum_cons, bsum_app, bsum_nil]; omega
  · exact ⟨t1, t2⟩

mutual
theorem pr_ok : ∀ y, gR y → PrOk y
  | .mk k nm kids, h => by
    simp only [gR] at h
    obtain ⟨h, hk⟩ := h
    have ih := prs_ok kids hk
    rcases h with ⟨rfl, rfl, hs, hn⟩ | ⟨rfl | rfl, rfl, rfl⟩ | ⟨rfl, hl, rfl⟩ | ⟨rfl | rfl, rfl, hl, hd⟩
    · intro w
      rw [tkW_plain rfl]
      have e1 : prR (.mk 1 nm []) w = nm := by simp [prR]
      have e2 : tk0 (.mk 1 nm []) = [nm] := by simp [tk0]
      rw [e1, e2]; exact ⟨tkl_name hn, by simp [bsum]⟩
    · intro w
      rw [tkW_plain rfl]
      have e1 : prR (.mk 2 ⟨#[]⟩ []) w = ⟨#[116, 114, 117, 101]⟩ := by simp [prR]
      have e2 : tk0 (.mk 2 ⟨#[]⟩ []) = [⟨#[116, 114, 117, 101]⟩] := by simp [tk0]
      rw [e1, e2]; exact ⟨by kernel_rfl, by simp [bsum]⟩
    · intro w
      rw [tkW_plain rfl]
      have e1 : prR (.mk 3 ⟨#[]⟩ []) w = ⟨#[102, 97, 108, 115, 101]⟩ := by simp [prR]
      have e2 : tk0 (.mk 3 ⟨#[]⟩ []) = [⟨#[102, 97, 108, 115, 101]⟩] := by simp [tk0]
      rw [e1, e2]; exact ⟨by kernel_rfl, by simp [bsum]⟩
    · match kids, hl, ih with
      | [x], _, ih =>
        intro w
        rw [tkW_plain rfl]
        have e1 : prR (.mk 4 ⟨#[]⟩ [x]) w = ⟨#[110, 111, 116, 32]⟩ ++ prR x 4 := by simp [prR, prH]
        have e2 : tk0 (.mk 4 ⟨#[]⟩ [x]) = ⟨#[110, 111, 116]⟩ :: tkA x := by simp [tk0, tkH, tkA]
        obtain ⟨i1, i2⟩ := ih x (by simp) 4
        have e3 : tkW x 4 = tkA x := rfl
        rw [e3] at i1 i2
        rw [e1, e2]
        refine ⟨?_, ?_⟩
        · rw [dl]
          show tkl (110 :: 111 :: 116 :: 32 :: (prR x 4).data.toList) = _
          rw [tkl_word 110 _ rfl, show List.takeWhile nsep (111 :: 116 :: 32 :: (prR x 4).data.toList) = [111, 116] from rfl, show List.dropWhile nsep (111 :: 116 :: 32 :: (prR x 4).data.toList) = 32 :: (prR x 4).data.toList from rfl, tkl_sp, i1]; rfl
        · rw [ByteArray.size_append, zNot, bsum_cons, show ByteArray.size ⟨#[110, 111, 116]⟩ = 3 from rfl]; omega
    · exact pr_ops (.inl rfl) rfl wd_and hl tkA (fun x hx => ih x hx 5) (by simp [tk0, tkAs_eq])
    · exact pr_ops (.inr rfl) rfl wd_or hl tk0 (fun x hx => ih x hx 6) (by simp [tk0, tk0s_eq])
theorem prs_ok : ∀ l, gRs l → ∀ x ∈ l, PrOk x
  | [], _, x, hx => by simp at hx
  | y :: l, h, x, hx => by
    simp only [gRs] at h
    rcases List.mem_cons.1 hx with h1 | h1
    · rw [h1]; exact pr_ok y h.1
    · exact prs_ok l h.2 x h1
end

/-! ### no token of it is wrong -/
theorem mem_tjt {w x : ByteArray} : ∀ {l : List (List ByteArray)}, x ∈ tjt w l → x = w ∨ ∃ a ∈ l, x ∈ a
  | [], h => by simp [tjt] at h
  | a :: l, h => by
    simp only [tjt, List.mem_cons, List.mem_append] at h
    rcases h with h | h | h
    · exact .inl h
    · exact .inr ⟨a, by simp, h⟩
    · rcases mem_tjt h with h | ⟨b, hb, hx⟩
      · exact .inl h
      · exact .inr ⟨b, by simp [hb], hx⟩
theorem mem_tjn {w x : ByteArray} {l : List (List ByteArray)} (h : x ∈ tjn w l) : x = w ∨ ∃ a ∈ l, x ∈ a := by
  cases l with
  | nil => simp [tjn] at h
  | cons a l =>
    simp only [tjn_cons, List.mem_append] at h
    rcases h with h | h
    · exact .inr ⟨a, by simp, h⟩
    · rcases mem_tjt h with h | ⟨b, hb, hx⟩
      · exact .inl h
      · exact .inr ⟨b, by simp [hb], hx⟩
theorem bad_tkA {y : Nd} (h : ∀ x ∈ tk0 y, badF x = false) : ∀ x ∈ tkA y, badF x = false := by
  unfold tkA
  split
  · intro x hx
    simp only [List.mem_cons, List.mem_append, List.not_mem_nil, or_false] at hx
    rcases hx with rfl | hx | rfl
    · decide
    · exact h x hx
    · decide
  · exact h
mutual
theorem tk0_bad : ∀ y, gR y → ∀ x ∈ tk0 y, badF x = false
  | .mk k nm kids, h => by
    simp only [gR] at h
    obtain ⟨h, hk⟩ := h
    have ih := tk0s_bad kids hk
    rcases h with ⟨rfl, rfl, hs, hn⟩ | ⟨rfl | rfl, rfl, rfl⟩ | ⟨rfl, hl, rfl⟩ | ⟨rfl | rfl, rfl, hl, hd⟩
    · intro x hx; simp [tk0] at hx; subst hx; simp [badF, hn]
    · intro x hx; simp [tk0] at hx; subst hx; decide
    · intro x hx; simp [tk0] at hx; subst hx; decide
    · match kids, hl, ih with
      | [z], _, ih =>
        intro x hx
        have e2 : tk0 (.mk 4 ⟨#[]⟩ [z]) = ⟨#[110, 111, 116]⟩ :: tkA z := by simp [tk0, tkH, tkA]
        rw [e2] at hx
        rcases List.mem_cons.1 hx with rfl | hx
        · decide
        · exact bad_tkA (ih z (by simp)) x hx
    · intro x hx
      have e : tk0 (.mk 5 ⟨#[]⟩ kids) = tjn ⟨#[97, 110, 100]⟩ (kids.map tkA) := by simp [tk0, tkAs_eq]
      rw [e] at hx
      rcases mem_tjn hx with rfl | ⟨a, ha, hx⟩
      · decide
      · simp only [List.mem_map] at ha
        obtain ⟨z, hz, rfl⟩ := ha
        exact bad_tkA (ih z hz) x hx
    · intro x hx
      have e : tk0 (.mk 6 ⟨#[]⟩ kids) = tjn ⟨#[111, 114]⟩ (kids.map tk0) := by simp [tk0, tk0s_eq]
      rw [e] at hx
      rcases mem_tjn hx with rfl | ⟨a, ha, hx⟩
      · decide
      · simp only [List.mem_map] at ha
        obtain ⟨z, hz, rfl⟩ := ha
        exact ih z hz x hx
theorem tk0s_bad : ∀ l, gRs l → ∀ y ∈ l, ∀ x ∈ tk0 y, badF x = false
  | [], _, y, hy => by simp at hy
  | z :: l, h, y, hy => by
    simp only [gRs] at h
    rcases List.mem_cons.1 hy with h1 | h1
    · rw [h1]; exact tk0_bad z h.1
    · exact tk0s_bad l h.2 y h1
end

/-! ### the three promises -/
theorem bsum_tkl : ∀ (n : Nat) (l : List UInt8), l.length ≤ n → bsum (tkl l) ≤ 2 * l.length
  | 0, l, h => by
    have : l = [] := List.length_eq_zero_iff.1 (by omega)
    subst this; simp [tkl_nil, bsum_nil]
  | n + 1, [], _ => by simp [tkl_nil, bsum_nil]
  | n + 1, c :: r, h => by
    simp only [List.length_cons] at h ⊢
    cases hs : sep c with
    | true =>
      have ih := bsum_tkl n r (by omega)
      rcases sep_cases hs with rfl | hc
      · rw [tkl_sp]; omega
      · rw [tkl_par c _ hc, bsum_cons, show (mkB [c]).size = 1 from rfl]; omega
    | false =>
      have hd : (r.dropWhile nsep).length ≤ r.length := (List.dropWhile_sublist nsep).length_le
      have ih := bsum_tkl n (r.dropWhile nsep) (by omega)
      have hsum : (r.takeWhile nsep).length + (r.dropWhile nsep).length = r.length := by rw [← List.length_append, List.takeWhile_append_dropWhile]
      rw [tkl_word c _ hs, bsum_cons, show (mkB (c :: r.takeWhile nsep)).size = (r.takeWhile nsep).length + 1 by simp [mkB, ByteArray.size]]; omega
theorem namesL_flt : ∀ (t acc : List ByteArray), namesL t acc = namesL (flt t) acc
  | [], acc => rfl
  | x :: t, acc => by
    cases hs : specB x with
    | true => rw [flt_spec _ hs]; simp only [namesL, hs, Bool.not_true, Bool.false_and, Bool.false_eq_true, if_false]; exact namesL_flt t acc
    | false =>
      have e : flt (x :: t) = x :: flt t := by simp [flt, hs]
      rw [e]
      simp only [namesL]
      split
      · exact namesL_flt t _
      · exact namesL_flt t _
theorem badI_of {t : List ByteArray} (h : ∀ x ∈ t, badF x = false) : badI t 0 = false := by
  simp only [badI, List.drop_zero]
  rw [List.any_eq_false]; intro x hx; rw [h x hx]; simp
theorem of_badI {t : List ByteArray} (h : badI t 0 = false) : ∀ x ∈ t, badF x = false := by
  simp only [badI, List.drop_zero] at h
  rw [List.any_eq_false] at h
  intro x hx; simpa using h x hx

theorem same_read {s : ByteArray} (hs : s.size ≤ 600) (h : (readR s).2 = 0) : readR (prR (readR s).1 0) = ((readR s).1, 0) ∧ namesL (toks (prR (readR s).1 0) 0) [] = namesL (toks s 0) [] ∧ (prR (readR s).1 0).size ≤ 1200 := by
  have he : (evalP s []).2 = 0 := by rw [← evalPR]; unfold evalR; rw [if_pos h]
  obtain ⟨_, hb, y, a, hr, ha, _, hy⟩ := eval_ok he
  rw [hy]
  have R := foor_rd (fone_rd _) _ y a [] (of_badI hb) hr
  obtain ⟨p1, p2⟩ := pr_ok y R.g 0
  have e0 : tkW y 0 = tk0 y := rfl
  rw [e0] at p1 p2
  have hbs : bsum (toks s 0) ≤ 1200 := by rw [toks_eq]; have := bsum_tkl _ s.data.toList (Nat.le_refl _); simp at this; omega
  have Rb := R.b
  rw [bsum_nil] at Rb
  have ht : toks (prR y 0) 0 = tk0 y := by rw [toks_eq]; exact p1
  have hsz : (prR y 0).size ≤ 1200 := by omega
  refine ⟨?_, ?_, hsz⟩
  · unfold readR
    rw [if_neg (by omega), ht, readT_L]
    unfold readL
    have h1 := (rt y R.g).2.2 (tk0 y).length [] (Nat.le_refl _) ⟨nw_nil _, nw_nil _⟩
    rw [List.append_nil] at h1
    rw [if_neg (by rw [badI_of (tk0_bad y R.g)]; simp), h1]
    simp only
    rw [if_neg (by have := R.d; omega)]
  · rw [ht, namesL_flt (tk0 y), namesL_flt (toks s 0)]
    have Rf := R.f
    rw [show flt [] = [] from rfl, List.append_nil] at Rf
    rw [Rf]

/-- The normal form of a short condition. -/
theorem same_all {s : ByteArray} (hs : s.size ≤ 600) (h : (normP s).2 = 0) (fl : List ByteArray) : (normP s).1.size ≤ 1200 ∧ normP (normP s).1 = ((normP s).1, 0) ∧ evalP (normP s).1 fl = ((evalP s fl).1, 0) ∧ namesP (normP s).1 = namesP s := by
  have h0 : (readR s).2 = 0 := by
    rw [← normPR] at h
    unfold normR at h
    split at h
    · assumption
    · exact h
  have hn : (normP s).1 = prR (readR s).1 0 := by rw [← normPR]; unfold normR; rw [if_pos h0]
  obtain ⟨r1, r2, r3⟩ := same_read hs h0
  rw [hn]
  refine ⟨r3, ?_, ?_, ?_⟩
  · rw [← normPR]; unfold normR; rw [r1]; simp
  · rw [← evalPR, ← evalPR]; unfold evalR; rw [r1, if_pos h0]; simp
  · rw [← namesPR, ← namesPR]; unfold namesR; rw [r1, if_pos h0]; simp [r2]
theorem same_bad {s : ByteArray} (h : (normP s).2 ≠ 0) : (normP s).1 = ⟨#[]⟩ := by
  unfold normP at h ⊢
  split
  · rename_i h1; rw [if_pos h1] at h; simp at h
  · rfl

end Go.Proofs.Ytdaglbjgdakmcaa
