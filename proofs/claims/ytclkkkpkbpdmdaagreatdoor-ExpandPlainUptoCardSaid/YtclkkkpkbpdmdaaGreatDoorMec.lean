/- Texts joined by a program (merge.py). -/
import Derived.Test.YtclkkkpkbpdmdaaGreatDoorMeb
import Derived.KernelRfl
import Derived.StillTail
import Derived.OrdersIn
import Derived.AtR
import Derived.RangeFuncSeq
import Derived.RangeFuncKeeps
import Derived.RangeFuncFrom
import Derived.RangeFuncBound
import Derived.RangeFuncLeaves
import Derived.Shelf.Abstract
import Derived.WalkKit
import Derived.OwnWalkIn
import Derived.TacticsInMore
import Derived.LoopNIn
import Derived.LoopIn
import Derived.Laws.EntriesVeiled
import Derived.RangeFuncNested
set_option linter.unusedSimpArgs false
set_option linter.unusedVariables false
namespace Go.Proofs.YtclkkkpkbpdmdaaGreatDoor
open Go Go.Eng
def el {α : Type} [Inhabited α] (l : List α) (i : Nat) : α := (l[i]?).getD default
def lenM {α : Type} (f : α → AV) (l : List α) : Nat := (l.map f).length
theorem lenM_eq {α : Type} (f : α → AV) (l : List α) : lenM f l = l.length := by simp [lenM]
theorem el_some {α : Type} [Inhabited α] {l : List α} {i : Nat} (h : i < l.length) : l[i]? = some (el l i) := by simp [el, h]
theorem el_mem {α : Type} [Inhabited α] {l : List α} {i : Nat} (h : i < l.length) : el l i ∈ l := List.mem_of_getElem? (el_some h)
theorem elx {α : Type} [Inhabited α] {f : α → AV} {l : List AV} {xs : List α} {i : Nat} {y : AV} (e : l = xs.map f) (h : i < xs.length) (hy : f (el xs i) = y) : 0 ≤ ((i : Nat) : Int) ∧ l[i]? = some y := by
  subst e hy; exact ⟨by omega, by simp [el_some h]⟩
def w1 {α : Type} (_ : α) : Nat := 1
def wStr (s : ByteArray) : Nat := s.size + 1
def wl {α : Type} (w : α → Nat) : List α → Nat
  | [] => 0
  | x :: l => w x + wl w l
theorem wl_append {α : Type} (w : α → Nat) : ∀ a b : List α, wl w (a ++ b) = wl w a + wl w b
  | [], b => by simp [wl]
  | x :: a, b => by simp [wl, wl_append w a b]; omega
theorem wl_mem {α : Type} {w : α → Nat} : ∀ {l : List α} {x : α}, x ∈ l → w x ≤ wl w l
  | y :: l, x, h => by
    simp only [List.mem_cons] at h
    rcases h with rfl | h
    · simp [wl]
    · have := wl_mem (w := w) h; simp [wl]; omega
theorem wl_el {α : Type} [Inhabited α] {w : α → Nat} {l : List α} {i : Nat} (h : i < l.length) : w (el l i) ≤ wl w l := wl_mem (el_mem h)
theorem wl_len {α : Type} {w : α → Nat} (hw : ∀ x, 1 ≤ w x) : ∀ l : List α, l.length ≤ wl w l
  | [] => by simp
  | x :: l => by have := wl_len hw l; have := hw x; simp [wl]; omega
def quo (k : IntKind) (a b : Int) : Int := k.wrap (a.tdiv b)
theorem el_strAV (xs : List ByteArray) (i : Nat) (h : i < xs.length) : 0 ≤ ((i : Nat) : Int) ∧ (xs.map strAV)[i]? = some (strAV (el xs i)) := elx rfl h rfl
theorem quo_eq (a b : Int) (hb : 0 < b) (hb2 : b ≤ 1000000) : 0 ≤ a → a ≤ 4611686018427387904 → quo .i64 a b = a / b := by
  intro h1 h2
  have h3 : a / b ≤ a := Int.ediv_le_self _ h1
  have h4 : 0 ≤ a / b := Int.ediv_nonneg h1 (by omega)
  unfold quo; rw [Int.tdiv_eq_ediv_of_nonneg h1, wrap_i64 (by omega) (by omega)]
theorem apL {α : Type} (f : α → AV) (xs ys : List α) : xs.map f ++ ys.map f = (xs ++ ys).map f := by simp
theorem wStr_pos (s : ByteArray) : 1 ≤ wStr s := by simp [wStr]
structure DPair where
  fKey : ByteArray
  fValue : ByteArray
instance : Inhabited DPair := ⟨⟨⟨#[]⟩, ⟨#[]⟩⟩⟩
def aPair (x : DPair) : AV := .agg [(vS (x.fKey)), (vS (x.fValue))]
def wPair (x : DPair) : Nat := 1 + wStr x.fKey + wStr x.fValue
theorem aPair_eq (x : DPair) : aPair x = .agg [(vS (x.fKey)), (vS (x.fValue))] := rfl
theorem wPair_eq (x : DPair) : wPair x = 1 + wStr x.fKey + wStr x.fValue := rfl
theorem el_aPair (xs : List DPair) (i : Nat) (h : i < xs.length) : 0 ≤ ((i : Nat) : Int) ∧ (xs.map aPair)[i]? = some (aPair (el xs i)) := elx rfl h rfl
theorem uni_aPair (l : List DPair) : Uni 2 (l.map aPair) := by intro y hy; simp only [List.mem_map] at hy; obtain ⟨x, _, rfl⟩ := hy; rw [aPair_eq]; exact ⟨rfl, rfl⟩
theorem wPair_pos (x : DPair) : 1 ≤ wPair x := by rw [wPair_eq]; omega
structure DAttr where
  fID : ByteArray
  fClasses : List ByteArray
  fPairs : List DPair
instance : Inhabited DAttr := ⟨⟨⟨#[]⟩, [], []⟩⟩
def wAttr (x : DAttr) : Nat := 1 + wStr x.fID + (wl wStr) x.fClasses + (wl wPair) x.fPairs
theorem wAttr_eq (x : DAttr) : wAttr x = 1 + wStr x.fID + (wl wStr) x.fClasses + (wl wPair) x.fPairs := rfl
def cAttr (x : DAttr) : AV := .agg [(vS (x.fID)), (.sl ((x.fClasses).map strAV)), (.sl ((x.fPairs).map aPair))]
def sAttr (x : DAttr) : List SV := [(jS (x.fID)), (jL ((x.fClasses).map strAV)), (jL ((x.fPairs).map aPair))]
structure DCited where
  fKey : ByteArray
  fPrefix : ByteArray
  fSuffix : ByteArray
  fBare : Bool
instance : Inhabited DCited := ⟨⟨⟨#[]⟩, ⟨#[]⟩, ⟨#[]⟩, false⟩⟩
def aCited (x : DCited) : AV := .agg [(vS (x.fKey)), (vS (x.fPrefix)), (vS (x.fSuffix)), (vB (x.fBare))]
def wCited (x : DCited) : Nat := 1 + wStr x.fKey + wStr x.fPrefix + wStr x.fSuffix + w1 x.fBare
theorem aCited_eq (x : DCited) : aCited x = .agg [(vS (x.fKey)), (vS (x.fPrefix)), (vS (x.fSuffix)), (vB (x.fBare))] := rfl
theorem wCited_eq (x : DCited) : wCited x = 1 + wStr x.fKey + wStr x.fPrefix + wStr x.fSuffix + w1 x.fBare := rfl
theorem el_aCited (xs : List DCited) (i : Nat) (h : i < xs.length) : 0 ≤ ((i : Nat) : Int) ∧ (xs.map aCited)[i]? = some (aCited (el xs i)) := elx rfl h rfl
theorem uni_aCited (l : List DCited) : Uni 4 (l.map aCited) := by intro y hy; simp only [List.mem_map] at hy; obtain ⟨x, _, rfl⟩ := hy; rw [aCited_eq]; exact ⟨rfl, rfl⟩
theorem wCited_pos (x : DCited) : 1 ≤ wCited x := by rw [wCited_eq]; omega
structure DInline where
  fKind : Int
  fText : ByteArray
  fDest : ByteArray
  fTitle : ByteArray
  fAttr : DAttr
  fArgs : List ByteArray
  fCites : List DCited
  fKids : List DInline
instance : Inhabited DInline := ⟨⟨0, ⟨#[]⟩, ⟨#[]⟩, ⟨#[]⟩, ⟨⟨#[]⟩, [], []⟩, [], [], []⟩⟩
mutual
def aInline : DInline → AV
  | ⟨y0, y1, y2, y3, y4, y5, y6, y7⟩ => .agg [(vI (y0)), (vS (y1)), (vS (y2)), (vS (y3)), (vS ((y4).fID)), (.sl (((y4).fClasses).map strAV)), (.sl (((y4).fPairs).map aPair)), (.sl ((y5).map strAV)), (.sl ((y6).map aCited)), (.sl (aInlines y7))]
def aInlines : List DInline → List AV
  | [] => []
  | x :: l => aInline x :: aInlines l
end
mutual
def wInline : DInline → Nat
  | ⟨y0, y1, y2, y3, y4, y5, y6, y7⟩ => 1 + w1 y0 + wStr y1 + wStr y2 + wStr y3 + wAttr y4 + (wl wStr) y5 + (wl wCited) y6 + wInlines y7
def wInlines : List DInline → Nat
  | [] => 0
  | x :: l => wInline x + wInlines l
end
theorem aInlines_map : ∀ l, aInlines l = l.map aInline
  | [] => rfl
  | x :: l => by rw [aInlines, aInlines_map l]; rfl
theorem wInlines_wl : ∀ l, wInlines l = wl wInline l
  | [] => rfl
  | x :: l => by rw [wInlines, wInlines_wl l]; rfl
theorem aInline_eq (x : DInline) : aInline x = .agg [(vI (x.fKind)), (vS (x.fText)), (vS (x.fDest)), (vS (x.fTitle)), (vS ((x.fAttr).fID)), (.sl (((x.fAttr).fClasses).map strAV)), (.sl (((x.fAttr).fPairs).map aPair)), (.sl ((x.fArgs).map strAV)), (.sl ((x.fCites).map aCited)), (.sl ((x.fKids).map aInline))] := by cases x; rw [aInline, aInlines_map]
theorem wInline_eq (x : DInline) : wInline x = 1 + w1 x.fKind + wStr x.fText + wStr x.fDest + wStr x.fTitle + wAttr x.fAttr + (wl wStr) x.fArgs + (wl wCited) x.fCites + (wl wInline) x.fKids := by cases x; rw [wInline, wInlines_wl]
def cInline (x : DInline) : AV := .agg [(vI (x.fKind)), (vS (x.fText)), (vS (x.fDest)), (vS (x.fTitle)), (vS ((x.fAttr).fID)), (.sl (((x.fAttr).fClasses).map strAV)), (.sl (((x.fAttr).fPairs).map aPair)), (.sl ((x.fArgs).map strAV)), (.sl ((x.fCites).map aCited)), (.sl ((x.fKids).map aInline))]
def sInline (x : DInline) : List SV := [(jI (x.fKind)), (jS (x.fText)), (jS (x.fDest)), (jS (x.fTitle)), (jS ((x.fAttr).fID)), (jL (((x.fAttr).fClasses).map strAV)), (jL (((x.fAttr).fPairs).map aPair)), (jL ((x.fArgs).map strAV)), (jL ((x.fCites).map aCited)), (jL ((x.fKids).map aInline))]
theorem el_aInline (xs : List DInline) (i : Nat) (h : i < xs.length) : 0 ≤ ((i : Nat) : Int) ∧ (xs.map aInline)[i]? = some (cInline (el xs i)) := elx rfl h (aInline_eq _)
theorem uni_aInline (l : List DInline) : Uni 10 (l.map aInline) := by intro y hy; simp only [List.mem_map] at hy; obtain ⟨x, _, rfl⟩ := hy; rw [aInline_eq]; exact ⟨rfl, rfl⟩
theorem ap1_aInline (xs : List DInline) (y : DInline) : xs.map aInline ++ [cInline y] = (xs ++ [y]).map aInline := by simp [aInline_eq y, cInline]
theorem wInline_pos (x : DInline) : 1 ≤ wInline x := by rw [wInline_eq]; omega
structure DBlock where
  fKind : Int
  fLevel : Int
  fInfo : ByteArray
  fText : ByteArray
  fDest : ByteArray
  fTitle : ByteArray
  fAttr : DAttr
  fLine : List DInline
  fKids : List DBlock
instance : Inhabited DBlock := ⟨⟨0, 0, ⟨#[]⟩, ⟨#[]⟩, ⟨#[]⟩, ⟨#[]⟩, ⟨⟨#[]⟩, [], []⟩, [], []⟩⟩
mutual
def aBlock : DBlock → AV
  | ⟨y0, y1, y2, y3, y4, y5, y6, y7, y8⟩ => .agg [(vI (y0)), (vI (y1)), (vS (y2)), (vS (y3)), (vS (y4)), (vS (y5)), (vS ((y6).fID)), (.sl (((y6).fClasses).map strAV)), (.sl (((y6).fPairs).map aPair)), (.sl ((y7).map aInline)), (.sl (aBlocks y8))]
def aBlocks : List DBlock → List AV
  | [] => []
  | x :: l => aBlock x :: aBlocks l
end
mutual
def wBlock : DBlock → Nat
  | ⟨y0, y1, y2, y3, y4, y5, y6, y7, y8⟩ => 1 + w1 y0 + w1 y1 + wStr y2 + wStr y3 + wStr y4 + wStr y5 + wAttr y6 + (wl wInline) y7 + wBlocks y8
def wBlocks : List DBlock → Nat
  | [] => 0
  | x :: l => wBlock x + wBlocks l
end
theorem aBlocks_map : ∀ l, aBlocks l = l.map aBlock
  | [] => rfl
  | x :: l => by rw [aBlocks, aBlocks_map l]; rfl
theorem wBlocks_wl : ∀ l, wBlocks l = wl wBlock l
  | [] => rfl
  | x :: l => by rw [wBlocks, wBlocks_wl l]; rfl
theorem aBlock_eq (x : DBlock) : aBlock x = .agg [(vI (x.fKind)), (vI (x.fLevel)), (vS (x.fInfo)), (vS (x.fText)), (vS (x.fDest)), (vS (x.fTitle)), (vS ((x.fAttr).fID)), (.sl (((x.fAttr).fClasses).map strAV)), (.sl (((x.fAttr).fPairs).map aPair)), (.sl ((x.fLine).map aInline)), (.sl ((x.fKids).map aBlock))] := by cases x; rw [aBlock, aBlocks_map]
theorem wBlock_eq (x : DBlock) : wBlock x = 1 + w1 x.fKind + w1 x.fLevel + wStr x.fInfo + wStr x.fText + wStr x.fDest + wStr x.fTitle + wAttr x.fAttr + (wl wInline) x.fLine + (wl wBlock) x.fKids := by cases x; rw [wBlock, wBlocks_wl]
def cBlock (x : DBlock) : AV := .agg [(vI (x.fKind)), (vI (x.fLevel)), (vS (x.fInfo)), (vS (x.fText)), (vS (x.fDest)), (vS (x.fTitle)), (vS ((x.fAttr).fID)), (.sl (((x.fAttr).fClasses).map strAV)), (.sl (((x.fAttr).fPairs).map aPair)), (.sl ((x.fLine).map aInline)), (.sl ((x.fKids).map aBlock))]
theorem el_aBlock (xs : List DBlock) (i : Nat) (h : i < xs.length) : 0 ≤ ((i : Nat) : Int) ∧ (xs.map aBlock)[i]? = some (cBlock (el xs i)) := elx rfl h (aBlock_eq _)
theorem uni_aBlock (l : List DBlock) : Uni 11 (l.map aBlock) := by intro y hy; simp only [List.mem_map] at hy; obtain ⟨x, _, rfl⟩ := hy; rw [aBlock_eq]; exact ⟨rfl, rfl⟩
theorem ap1_aBlock (xs : List DBlock) (y : DBlock) : xs.map aBlock ++ [cBlock y] = (xs ++ [y]).map aBlock := by simp [aBlock_eq y, cBlock]
theorem wBlock_pos (x : DBlock) : 1 ≤ wBlock x := by rw [wBlock_eq]; omega
structure DDoc where
  fMeta : List DPair
  fBlocks : List DBlock
instance : Inhabited DDoc := ⟨⟨[], []⟩⟩
def wDoc (x : DDoc) : Nat := 1 + (wl wPair) x.fMeta + (wl wBlock) x.fBlocks
theorem wDoc_eq (x : DDoc) : wDoc x = 1 + (wl wPair) x.fMeta + (wl wBlock) x.fBlocks := rfl
def cDoc (x : DDoc) : AV := .agg [(.sl ((x.fMeta).map aPair)), (.sl ((x.fBlocks).map aBlock))]
def sDoc (x : DDoc) : List SV := [(jL ((x.fMeta).map aPair)), (jL ((x.fBlocks).map aBlock))]
end Go.Proofs.YtclkkkpkbpdmdaaGreatDoor
namespace Go.Proofs.YtclkkkpkbpdmdaaGreatDoor
open Go Go.Eng
def getR_L0 (a : DAttr) (key : ByteArray) : Nat → Nat → (ByteArray × Bool)
  | 0, _ => default
  | n0 + 1, v6 => cond (decide ((((v6 : Nat) : Int) : Int) < ((lenM aPair a.fPairs : Nat) : Int))) (cond (eqs ((el a.fPairs v6).fKey) (key)) (((el a.fPairs v6).fValue, true)) (getR_L0 a key n0 (v6 + 1))) ((⟨#[]⟩, false))
def getR (a : DAttr) (key : ByteArray) : (ByteArray × Bool) := getR_L0 a key ((List.length a.fPairs - (0)) + 1) 0
set_option maxRecDepth 100000 in
set_option maxHeartbeats 4000000 in
theorem getR_to (a : DAttr) (key : ByteArray) (ha : a.fPairs.length ≤ 1073741824) : CallTo Tryz.prog 15 [(.av (cAttr a)), (jS (key))] [] [] (.av (.tup [(vS ((getR a key).1)), (vB ((getR a key).2))])) [] [] := by
  refine BEG (fun r : (ByteArray × Bool) => (.av (.tup [(vS (r.1)), (vB (r.2))]))) (getR a key) Tryz.func15 (by kernel_rfl) ?_
  refine UF (getR.eq_1 ..) ?_
  refine GO (tn 4 z) (by kernel_rfl) ?_
  refine LP (fun N M S => ∃ v6 : Nat, (List.length a.fPairs - v6 < N) ∧ M = getR_L0 a key N v6 ∧ S = (sx 28 [(1, (jS (key))), (2, (.ptr 2 0)), (6, (jI (((v6 : Nat) : Int))))] [(2, (.cells 40 (sAttr a)))] [])) (by kernel_rfl) ⟨_, by omega, rfl, rfl⟩ (WK (by kernel_rfl)) ?_
  rintro n0 M S ⟨v6, hF0, rfl, rfl⟩
  obtain ⟨n0, rfl⟩ : ∃ k, n0 = k + 1 := ⟨n0 - 1, by omega⟩
  refine UF (getR_L0.eq_2 ..) ?_
  refine GO (tn 5 z) (by kernel_rfl) ?_
  refine CSd (fun h1p h1 => ?_) (fun h1p h1 => ?_)
  · have := lenM_eq aPair a.fPairs
    refine GO (kb h1 (tn 3 (ke (el_aPair a.fPairs v6 (by first | omega | (simp only [lenM_eq, true_and]; omega))) (tn 4 z)))) (by kernel_rfl) ?_
    refine CS (fun h2 => ?_) (fun h2 => ?_)
    · refine GO (kb h2 (tn 3 (ke (el_aPair a.fPairs v6 (by first | omega | (simp only [lenM_eq, true_and]; omega))) (tn 4 z)))) (by kernel_rfl) ?_
      refine OUT z (by kernel_rfl) ?_
      exact EN (by kernel_rfl)
    · refine GO (kb h2 (tn 1 (kn (wrE ((((v6 : Nat) : Int)) + 1) (((v6 + 1 : Nat) : Int)) (by omega)) (tn 1 z)))) (by kernel_rfl) ?_
      exact AG ⟨_, by omega, rfl, rfl⟩ (WK (by kernel_rfl)) (by kernel_rfl) (Nat.lt_succ_self _)
  · have := lenM_eq aPair a.fPairs
    refine GO (kb h1 z) (by kernel_rfl) ?_
    refine OUT (tn 2 z) (by kernel_rfl) ?_
    exact EN (by kernel_rfl)
end Go.Proofs.YtclkkkpkbpdmdaaGreatDoor
namespace Go.Proofs.YtclkkkpkbpdmdaaGreatDoor
open Go Go.Eng
def longB_L1 (a : DAttr) (v3 : Nat) (v4 : Nat) (k0 : Nat → Nat → Bool) : Nat → Nat → Nat → Bool
  | 0, _, _ => default
  | n1 + 1, w3, w5 => cond (decide ((((w5 : Nat) : Int) : Int) < ((lenM aPair a.fPairs : Nat) : Int))) (longB_L1 a v3 v4 k0 n1 (w3 + ByteArray.size ((el a.fPairs w5).fKey) + ByteArray.size ((el a.fPairs w5).fValue)) (w5 + 1)) (decide ((((w3 : Nat) : Int) : Int) > 600))
def longB_L0 (a : DAttr) : Nat → Nat → Nat → Bool
  | 0, _, _ => default
  | n0 + 1, v3, v4 => cond (decide ((((v4 : Nat) : Int) : Int) < ((lenM strAV a.fClasses : Nat) : Int))) (longB_L0 a n0 (v3 + ByteArray.size (el a.fClasses v4)) (v4 + 1)) (longB_L1 a v3 v4 (longB_L0 a n0) ((List.length a.fPairs - (0)) + 1) v3 0)
def longB (a : DAttr) : Bool := cond (cond (decide ((((lenM strAV a.fClasses : Nat) : Int) : Int) > 40)) (true) (decide ((((lenM aPair a.fPairs : Nat) : Int) : Int) > 40))) (true) (longB_L0 a ((List.length a.fClasses - (0)) + 1) (ByteArray.size (a.fID)) 0)
set_option maxRecDepth 100000 in
set_option maxHeartbeats 4000000 in
theorem longB_to (a : DAttr) (ha : wAttr a ≤ 1073741824) : CallTo Tryz.prog 16 [(.av (cAttr a))] [] [] (jB (longB a)) [] [] := by
  have hwa := wAttr_eq a
  simp only [wStr] at hwa
  refine BEG (fun r : Bool => (jB (r))) (longB a) Tryz.func16 (by kernel_rfl) ?_
  refine UF (longB.eq_1 ..) ?_
  refine GO (tn 11 (kj (decide ((((lenM strAV a.fClasses : Nat) : Int) : Int) > 40)) z (tn 4 z) z)) (by kernel_rfl) ?_
  refine CS (fun h1 => ?_) (fun h1 => ?_)
  · have := lenM_eq strAV a.fClasses
    have := lenM_eq aPair a.fPairs
    refine GO (kb h1 (tn 1 z)) (by kernel_rfl) ?_
    exact EN (by kernel_rfl)
  · have := lenM_eq strAV a.fClasses
    have := lenM_eq aPair a.fPairs
    obtain ⟨h1a, h1o⟩ := cond_tt h1
    have := lenM_eq strAV a.fClasses
    have h1ap := of_decide_eq_false h1a
    have := lenM_eq aPair a.fPairs
    have h1op := of_decide_eq_false h1o
    refine GO (kb h1 (tn 1 z)) (by kernel_rfl) ?_
    refine LP (fun N M S => ∃ v3 : Nat, ∃ v4 : Nat, (v3 ≤ 1073741824 + v4 * 1073741824) ∧ (v4 ≤ a.fClasses.length) ∧ (List.length a.fClasses - v4 < N) ∧ M = longB_L0 a N v3 v4 ∧ S = (sx 60 [(1, (.ptr 1 0)), (3, (jI (((v3 : Nat) : Int)))), (4, (jI (((v4 : Nat) : Int))))] [(1, (.cells 40 (sAttr a)))] [])) (by kernel_rfl) ⟨_, _, by first | omega | assumption | (simp only [lenM_eq]; omega) | (simp; done) | (simp; omega), by first | omega | assumption | (simp only [lenM_eq]; omega) | (simp; done) | (simp; omega), by omega, rfl, rfl⟩ (WK (by kernel_rfl)) ?_
    rintro n0 M S ⟨v3, v4, hv, hu, hF0, rfl, rfl⟩
    obtain ⟨n0, rfl⟩ : ∃ k, n0 = k + 1 := ⟨n0 - 1, by omega⟩
    refine UF (longB_L0.eq_2 ..) ?_
    refine GO (tn 5 z) (by kernel_rfl) ?_
    refine CSd (fun h2p h2 => ?_) (fun h2p h2 => ?_)
    · have := lenM_eq strAV a.fClasses
      have hce := wl_el (w := wStr) (l := a.fClasses) (i := v4) (by omega)
      simp only [wStr] at hce
      refine GO (kb h2 (tn 4 (ke (el_strAV a.fClasses v4 (by first | omega | (simp only [lenM_eq, true_and]; omega))) (tn 2 (kn (wrE ((((v3 : Nat) : Int)) + (((ByteArray.size (el a.fClasses v4) : Nat) : Int))) (((v3 + ByteArray.size (el a.fClasses v4) : Nat) : Int)) (by omega)) (tn 2 (kn (wrE ((((v4 : Nat) : Int)) + 1) (((v4 + 1 : Nat) : Int)) (by omega)) (tn 1 z)))))))) (by kernel_rfl) ?_
      exact AG ⟨_, _, by first | omega | assumption | (simp only [lenM_eq]; omega) | (simp; done) | (simp; omega), by first | omega | assumption | (simp only [lenM_eq]; omega) | (simp; done) | (simp; omega), by omega, rfl, rfl⟩ (WK (by kernel_rfl)) (by kernel_rfl) (Nat.lt_succ_self _)
    · have := lenM_eq strAV a.fClasses
      refine GO (kb h2 z) (by kernel_rfl) ?_
      refine OUT (tn 1 z) (by kernel_rfl) ?_
      refine LP (fun N M S => ∃ w3 : Nat, ∃ w5 : Nat, (w3 ≤ 50 * 1073741824 + w5 * 2147483648) ∧ (List.length a.fPairs - w5 < N) ∧ M = longB_L1 a v3 v4 (longB_L0 a n0) N w3 w5 ∧ S = (sx 60 [(1, (.ptr 1 0)), (3, (jI (((w3 : Nat) : Int)))), (5, (jI (((w5 : Nat) : Int))))] [(1, (.cells 40 (sAttr a)))] [])) (by kernel_rfl) ⟨_, _, by first | omega | assumption | (simp only [lenM_eq]; omega) | (simp; done) | (simp; omega), by omega, rfl, rfl⟩ (WK (by kernel_rfl)) ?_
      rintro n1 M S ⟨w3, w5, hw, hF1, rfl, rfl⟩
      obtain ⟨n1, rfl⟩ : ∃ k, n1 = k + 1 := ⟨n1 - 1, by omega⟩
      refine UF (longB_L1.eq_2 ..) ?_
      refine GO (tn 5 z) (by kernel_rfl) ?_
      refine CSd (fun h3p h3 => ?_) (fun h3p h3 => ?_)
      · have := lenM_eq aPair a.fPairs
        have hce := wl_el (w := wPair) (l := a.fPairs) (i := w5) (by omega)
        simp only [wPair, wStr] at hce
        refine GO (kb h3 z) (by kernel_rfl) ?_
        have d4 := (el_aPair a.fPairs w5 (by first | omega | (simp only [lenM_eq, true_and]; omega)))
        have d5 := (el_aPair a.fPairs w5 (by first | omega | (simp only [lenM_eq, true_and]; omega)))
        have d6 := wrE ((((ByteArray.size ((el a.fPairs w5).fKey) : Nat) : Int)) + (((ByteArray.size ((el a.fPairs w5).fValue) : Nat) : Int))) (((ByteArray.size ((el a.fPairs w5).fKey) + ByteArray.size ((el a.fPairs w5).fValue) : Nat) : Int)) (by omega)
        have d7 := wrE ((((w3 : Nat) : Int)) + (((ByteArray.size ((el a.fPairs w5).fKey) + ByteArray.size ((el a.fPairs w5).fValue) : Nat) : Int))) (((w3 + ByteArray.size ((el a.fPairs w5).fKey) + ByteArray.size ((el a.fPairs w5).fValue) : Nat) : Int)) (by omega)
        refine DR3 (tn 4 (ko (eO d4) (kp d4 (tn 6 (ko (eO d5) (kp d5 (tn 3 (ko (nO d6) (kp d6 (ko (nO d7) (kp d7 (tn 2 (kn (wrE ((((w5 : Nat) : Int)) + 1) (((w5 + 1 : Nat) : Int)) (by omega)) (tn 1 z)))))))))))))) (by kernel_rfl) (by kernel_rfl) (by kernel_rfl) ?_
        exact AG ⟨_, _, by first | omega | assumption | (simp only [lenM_eq]; omega) | (simp; done) | (simp; omega), by omega, rfl, rfl⟩ (WK (by kernel_rfl)) (by kernel_rfl) (Nat.lt_succ_self _)
      · have := lenM_eq aPair a.fPairs
        refine GO (kb h3 z) (by kernel_rfl) ?_
        refine OUT (tn 3 z) (by kernel_rfl) ?_
        exact EN (by kernel_rfl)
def weiIS_L2 (rec : (List DInline) → Int → Int) (l : List DInline) (depth : Int) (v5 : Int) (v6 : Nat) (w5 : Int) (w8 : Nat) (k0 : Int → Nat → Int) (k1 : Int → Nat → Int) : Nat → Int → Nat → Int
  | 0, _, _ => default
  | n2 + 1, x5, x9 => cond (decide ((((x9 : Nat) : Int) : Int) < ((lenM aCited ((el l v6).fCites) : Nat) : Int))) (weiIS_L2 rec l depth v5 v6 w5 w8 k0 k1 n2 (x5 + (quo .i64 (((ByteArray.size ((el ((el l v6).fCites) x9).fKey) + ByteArray.size ((el ((el l v6).fCites) x9).fPrefix) + ByteArray.size ((el ((el l v6).fCites) x9).fSuffix) : Nat) : Int)) (40))) (x9 + 1)) (k0 (x5 + (rec ((el l v6).fKids) (depth + 1))) (v6 + 1))
def weiIS_L1 (rec : (List DInline) → Int → Int) (l : List DInline) (depth : Int) (v5 : Int) (v6 : Nat) (k0 : Int → Nat → Int) : Nat → Int → Nat → Int
  | 0, _, _ => default
  | n1 + 1, w5, w8 => cond (decide ((((w8 : Nat) : Int) : Int) < ((lenM strAV ((el l v6).fArgs) : Nat) : Int))) (weiIS_L1 rec l depth v5 v6 k0 n1 (w5 + (quo .i64 (((ByteArray.size (el ((el l v6).fArgs) w8) : Nat) : Int)) (40))) (w8 + 1)) (weiIS_L2 rec l depth v5 v6 w5 w8 k0 (weiIS_L1 rec l depth v5 v6 k0 n1) ((List.length ((el l v6).fCites) - (0)) + 1) w5 0)
def weiIS_L0 (rec : (List DInline) → Int → Int) (l : List DInline) (depth : Int) : Nat → Int → Nat → Int
  | 0, _, _ => default
  | n0 + 1, v5, v6 => cond (cond (decide ((((v6 : Nat) : Int) : Int) < ((lenM aInline l : Nat) : Int))) (decide ((v5 : Int) < 1000)) (false)) (cond (cond (cond (cond (decide ((((ByteArray.size ((el l v6).fText) + ByteArray.size ((el l v6).fDest) + ByteArray.size ((el l v6).fTitle) : Nat) : Int) : Int) > 300)) (true) (longB ((el l v6).fAttr))) (true) (decide ((((lenM strAV ((el l v6).fArgs) : Nat) : Int) : Int) > 9))) (true) (decide ((((lenM aCited ((el l v6).fCites) : Nat) : Int) : Int) > 9))) (1000) (weiIS_L1 rec l depth v5 v6 (weiIS_L0 rec l depth n0) ((List.length ((el l v6).fArgs) - (0)) + 1) v5 0)) (v5)
def weiIS (rec : (List DInline) → Int → Int) (l : List DInline) (depth : Int) : Int := cond (cond (decide ((depth : Int) > 20)) (true) (decide ((((lenM aInline l : Nat) : Int) : Int) > 200))) (1000) (weiIS_L0 rec l depth ((List.length l - (0)) + 1) (((lenM aInline l : Nat) : Int)) 0)
set_option maxRecDepth 100000 in
set_option maxHeartbeats 4000000 in
theorem weiI_st (rec : (List DInline) → Int → Int) (l : List DInline) (depth : Int) (hl : wl wInline l ≤ 1073741824) (hd : 0 ≤ depth) (hd2 : depth ≤ 21) (hrec : ∀ (l' : List DInline) (depth' : Int), wl wInline l' < wl wInline l → wl wInline l' ≤ 1073741824 → 0 ≤ depth' → depth' ≤ 21 → CallTo Tryz.prog 17 [(jL ((l').map aInline)), (jI (depth'))] [] [] (jI (rec l' depth')) [] []) (hrb : ∀ (l' : List DInline) (depth' : Int), wl wInline l' < wl wInline l → wl wInline l' ≤ 1073741824 → 0 ≤ depth' → depth' ≤ 21 → 0 ≤ (rec l' depth') ∧ (rec l' depth') ≤ (22 - depth') * 21474836480) : CallTo Tryz.prog 17 [(jL (l.map aInline)), (jI (depth))] [] [] (jI (weiIS rec l depth)) [] [] := by
  have hw_0 := wl_len (w := wInline) wInline_pos l
  refine BEG (fun r : Int => (jI (r))) (weiIS rec l depth) Tryz.func17 (by kernel_rfl) ?_
  refine UF (weiIS.eq_1 ..) ?_
  refine GO (tn 7 (kj (decide ((depth : Int) > 20)) z (tn 2 z) z)) (by kernel_rfl) ?_
  refine CS (fun h1 => ?_) (fun h1 => ?_)
  · have := lenM_eq aInline l
    refine GO (kb h1 (tn 1 z)) (by kernel_rfl) ?_
    exact EN (by kernel_rfl)
  · have := lenM_eq aInline l
    obtain ⟨h1a, h1o⟩ := cond_tt h1
    have h1ap := of_decide_eq_false h1a
    have := lenM_eq aInline l
    have h1op := of_decide_eq_false h1o
    refine GO (kb h1 (tn 1 z)) (by kernel_rfl) ?_
    refine LP (fun N M S => ∃ v5 : Int, ∃ v6 : Nat, (0 ≤ v5) ∧ (v5 ≤ (22 - depth) * 21474836480) ∧ (List.length l - v6 < N) ∧ M = weiIS_L0 rec l depth N v5 v6 ∧ S = (sx 112 [(0, (jL (l.map aInline))), (1, (jI (depth))), (5, (jI (v5))), (6, (jI (((v6 : Nat) : Int))))] [] [])) (by kernel_rfl) ⟨_, _, by first | omega | assumption | (simp only [lenM_eq]; omega) | (simp; done) | (simp; omega), by first | omega | assumption | (simp only [lenM_eq]; omega) | (simp; done) | (simp; omega), by omega, rfl, rfl⟩ (WK (by kernel_rfl)) ?_
    rintro n0 M S ⟨v5, v6, hv, hv2, hF0, rfl, rfl⟩
    obtain ⟨n0, rfl⟩ : ∃ k, n0 = k + 1 := ⟨n0 - 1, by omega⟩
    refine UF (weiIS_L0.eq_2 ..) ?_
    refine GO (tn 5 (kj (decide ((((v6 : Nat) : Int) : Int) < ((lenM aInline l : Nat) : Int))) (tn 2 z) z z)) (by kernel_rfl) ?_
    refine CS (fun h2 => ?_) (fun h2 => ?_)
    · have := lenM_eq aInline l
      obtain ⟨h2a, h2o⟩ := cond_ff h2
      have := lenM_eq aInline l
      have h2ap := of_decide_eq_true h2a
      have hce := wl_el (w := wInline) (l := l) (i := v6) (by omega)
      have hcw := wInline_eq (el l v6)
      simp only [wStr, w1] at hcw
      have h2op := of_decide_eq_true h2o
      refine GO (kb h2 (tn 2 (ke (el_aInline l v6 (by first | omega | (simp only [lenM_eq, true_and]; omega))) (tn 9 (kn (wrE ((((ByteArray.size ((el l v6).fText) : Nat) : Int)) + (((ByteArray.size ((el l v6).fDest) : Nat) : Int))) (((ByteArray.size ((el l v6).fText) + ByteArray.size ((el l v6).fDest) : Nat) : Int)) (by omega)) (tn 3 (kn (wrE ((((ByteArray.size ((el l v6).fText) + ByteArray.size ((el l v6).fDest) : Nat) : Int)) + (((ByteArray.size ((el l v6).fTitle) : Nat) : Int))) (((ByteArray.size ((el l v6).fText) + ByteArray.size ((el l v6).fDest) + ByteArray.size ((el l v6).fTitle) : Nat) : Int)) (by omega)) (tn 2 (kj (decide ((((ByteArray.size ((el l v6).fText) + ByteArray.size ((el l v6).fDest) + ByteArray.size ((el l v6).fTitle) : Nat) : Int) : Int) > 300)) z (tn 2 (hc (fun h => by have j0 := h.2; have j0p := of_decide_eq_false j0; exact (longB_to ((el l v6).fAttr) (by first | assumption | omega | decide | (simp; done) | (simp; omega)))) z)) (tn 1 (kj (cond (decide ((((ByteArray.size ((el l v6).fText) + ByteArray.size ((el l v6).fDest) + ByteArray.size ((el l v6).fTitle) : Nat) : Int) : Int) > 300)) (true) (longB ((el l v6).fAttr))) z (tn 4 z) (tn 1 (kj (cond (cond (decide ((((ByteArray.size ((el l v6).fText) + ByteArray.size ((el l v6).fDest) + ByteArray.size ((el l v6).fTitle) : Nat) : Int) : Int) > 300)) (true) (longB ((el l v6).fAttr))) (true) (decide ((((lenM strAV ((el l v6).fArgs) : Nat) : Int) : Int) > 9))) z (tn 4 z) z))))))))))))) (by kernel_rfl) ?_
      refine CS (fun h3 => ?_) (fun h3 => ?_)
      · have := lenM_eq strAV ((el l v6).fArgs)
        have := lenM_eq aCited ((el l v6).fCites)
        refine GO (kb h3 (tn 1 z)) (by kernel_rfl) ?_
        refine OUT z (by kernel_rfl) ?_
        exact EN (by kernel_rfl)
      · have := lenM_eq strAV ((el l v6).fArgs)
        have := lenM_eq aCited ((el l v6).fCites)
        obtain ⟨h3a, h3o⟩ := cond_tt h3
        have := lenM_eq strAV ((el l v6).fArgs)
        obtain ⟨h3aa, h3ao⟩ := cond_tt h3a
        obtain ⟨h3aaa, h3aao⟩ := cond_tt h3aa
        have h3aaap := of_decide_eq_false h3aaa
        have := lenM_eq strAV ((el l v6).fArgs)
        have h3aop := of_decide_eq_false h3ao
        have := lenM_eq aCited ((el l v6).fCites)
        have h3op := of_decide_eq_false h3o
        refine GO (kb h3 (tn 1 z)) (by kernel_rfl) ?_
        refine LP (fun N M S => ∃ w5 : Int, ∃ w8 : Nat, (0 ≤ w5) ∧ (w5 ≤ 1000 + w8 * 1073741824) ∧ (w8 ≤ (el l v6).fArgs.length) ∧ (List.length ((el l v6).fArgs) - w8 < N) ∧ M = weiIS_L1 rec l depth v5 v6 (weiIS_L0 rec l depth n0) N w5 w8 ∧ S = (sx 112 [(0, (jL (l.map aInline))), (1, (jI (depth))), (5, (jI (w5))), (6, (jI (((v6 : Nat) : Int)))), (7, (.ptr 7 0)), (8, (jI (((w8 : Nat) : Int))))] [(7, (.cells 50 (sInline (el l v6))))] [])) (by kernel_rfl) ⟨_, _, by first | omega | assumption | (simp only [lenM_eq]; omega) | (simp; done) | (simp; omega), by first | omega | assumption | (simp only [lenM_eq]; omega) | (simp; done) | (simp; omega), by first | omega | assumption | (simp only [lenM_eq]; omega) | (simp; done) | (simp; omega), by omega, rfl, rfl⟩ (WK (by kernel_rfl)) ?_
        rintro n1 M S ⟨w5, w8, hw, hw2, hw3, hF1, rfl, rfl⟩
        obtain ⟨n1, rfl⟩ : ∃ k, n1 = k + 1 := ⟨n1 - 1, by omega⟩
        refine UF (weiIS_L1.eq_2 ..) ?_
        refine GO (tn 5 z) (by kernel_rfl) ?_
        refine CSd (fun h4p h4 => ?_) (fun h4p h4 => ?_)
        · have := lenM_eq strAV ((el l v6).fArgs)
          have hca := wl_el (w := wStr) (l := (el l v6).fArgs) (i := w8) (by omega)
          simp only [wStr] at hca
          have := quo_eq (((ByteArray.size (el ((el l v6).fArgs) w8) : Nat) : Int)) 40 (by decide) (by decide)
          refine GO (kb h4 (tn 4 (ke (el_strAV ((el l v6).fArgs) w8 (by first | omega | (simp only [lenM_eq, true_and]; omega))) (tn 2 (kp (show (40 : Int) ≠ 0 from (by decide)) (kn (wrE ((w5) + (quo .i64 (((ByteArray.size (el ((el l v6).fArgs) w8) : Nat) : Int)) (40))) (w5 + (quo .i64 (((ByteArray.size (el ((el l v6).fArgs) w8) : Nat) : Int)) (40))) (by omega)) (tn 2 (kn (wrE ((((w8 : Nat) : Int)) + 1) (((w8 + 1 : Nat) : Int)) (by omega)) (tn 1 z))))))))) (by kernel_rfl) ?_
          exact AG ⟨_, _, by first | omega | assumption | (simp only [lenM_eq]; omega) | (simp; done) | (simp; omega), by first | omega | assumption | (simp only [lenM_eq]; omega) | (simp; done) | (simp; omega), by first | omega | assumption | (simp only [lenM_eq]; omega) | (simp; done) | (simp; omega), by omega, rfl, rfl⟩ (WK (by kernel_rfl)) (by kernel_rfl) (Nat.lt_succ_self _)
        · have := lenM_eq strAV ((el l v6).fArgs)
          refine GO (kb h4 z) (by kernel_rfl) ?_
          refine OUT (tn 1 z) (by kernel_rfl) ?_
          refine LP (fun N M S => ∃ x5 : Int, ∃ x9 : Nat, (0 ≤ x5) ∧ (x5 ≤ 1000 + 9 * 1073741824 + x9 * 1073741824) ∧ (x9 ≤ (el l v6).fCites.length) ∧ (List.length ((el l v6).fCites) - x9 < N) ∧ M = weiIS_L2 rec l depth v5 v6 w5 w8 (weiIS_L0 rec l depth n0) (weiIS_L1 rec l depth v5 v6 (weiIS_L0 rec l depth n0) n1) N x5 x9 ∧ S = (sx 112 [(0, (jL (l.map aInline))), (1, (jI (depth))), (5, (jI (x5))), (6, (jI (((v6 : Nat) : Int)))), (7, (.ptr 7 0)), (9, (jI (((x9 : Nat) : Int))))] [(7, (.cells 50 (sInline (el l v6))))] [])) (by kernel_rfl) ⟨_, _, by first | omega | assumption | (simp only [lenM_eq]; omega) | (simp; done) | (simp; omega), by first | omega | assumption | (simp only [lenM_eq]; omega) | (simp; done) | (simp; omega), by first | omega | assumption | (simp only [lenM_eq]; omega) | (simp; done) | (simp; omega), by omega, rfl, rfl⟩ (WK (by kernel_rfl)) ?_
          rintro n2 M S ⟨x5, x9, hx, hx2, hx3, hF2, rfl, rfl⟩
          obtain ⟨n2, rfl⟩ : ∃ k, n2 = k + 1 := ⟨n2 - 1, by omega⟩
          refine UF (weiIS_L2.eq_2 ..) ?_
          refine GO (tn 5 z) (by kernel_rfl) ?_
          refine CSd (fun h5p h5 => ?_) (fun h5p h5 => ?_)
          · have := lenM_eq aCited ((el l v6).fCites)
            have hcc := wl_el (w := wCited) (l := (el l v6).fCites) (i := x9) (by omega)
            simp only [wCited, wStr] at hcc
            have := quo_eq (((ByteArray.size ((el ((el l v6).fCites) x9).fKey) + ByteArray.size ((el ((el l v6).fCites) x9).fPrefix) + ByteArray.size ((el ((el l v6).fCites) x9).fSuffix) : Nat) : Int)) 40 (by decide) (by decide)
            refine GO (kb h5 (tn 3 (ke (el_aCited ((el l v6).fCites) x9 (by first | omega | (simp only [lenM_eq, true_and]; omega))) (tn 10 (kn (wrE ((((ByteArray.size ((el ((el l v6).fCites) x9).fKey) : Nat) : Int)) + (((ByteArray.size ((el ((el l v6).fCites) x9).fPrefix) : Nat) : Int))) (((ByteArray.size ((el ((el l v6).fCites) x9).fKey) + ByteArray.size ((el ((el l v6).fCites) x9).fPrefix) : Nat) : Int)) (by omega)) (tn 3 (kn (wrE ((((ByteArray.size ((el ((el l v6).fCites) x9).fKey) + ByteArray.size ((el ((el l v6).fCites) x9).fPrefix) : Nat) : Int)) + (((ByteArray.size ((el ((el l v6).fCites) x9).fSuffix) : Nat) : Int))) (((ByteArray.size ((el ((el l v6).fCites) x9).fKey) + ByteArray.size ((el ((el l v6).fCites) x9).fPrefix) + ByteArray.size ((el ((el l v6).fCites) x9).fSuffix) : Nat) : Int)) (by omega)) (kp (show (40 : Int) ≠ 0 from (by decide)) (kn (wrE ((x5) + (quo .i64 (((ByteArray.size ((el ((el l v6).fCites) x9).fKey) + ByteArray.size ((el ((el l v6).fCites) x9).fPrefix) + ByteArray.size ((el ((el l v6).fCites) x9).fSuffix) : Nat) : Int)) (40))) (x5 + (quo .i64 (((ByteArray.size ((el ((el l v6).fCites) x9).fKey) + ByteArray.size ((el ((el l v6).fCites) x9).fPrefix) + ByteArray.size ((el ((el l v6).fCites) x9).fSuffix) : Nat) : Int)) (40))) (by omega)) (tn 2 (kn (wrE ((((x9 : Nat) : Int)) + 1) (((x9 + 1 : Nat) : Int)) (by omega)) (tn 1 z)))))))))))) (by kernel_rfl) ?_
            exact AG ⟨_, _, by first | omega | assumption | (simp only [lenM_eq]; omega) | (simp; done) | (simp; omega), by first | omega | assumption | (simp only [lenM_eq]; omega) | (simp; done) | (simp; omega), by first | omega | assumption | (simp only [lenM_eq]; omega) | (simp; done) | (simp; omega), by omega, rfl, rfl⟩ (WK (by kernel_rfl)) (by kernel_rfl) (Nat.lt_succ_self _)
          · have := lenM_eq aCited ((el l v6).fCites)
            refine GO (kb h5 z) (by kernel_rfl) ?_
            have := hrb ((el l v6).fKids) (depth + 1) (by first | assumption | omega | decide | (simp; done) | (simp; omega)) (by first | assumption | omega | decide | (simp; done) | (simp; omega)) (by first | assumption | omega | decide | (simp; done) | (simp; omega)) (by first | assumption | omega | decide | (simp; done) | (simp; omega))
            refine OUT (tn 4 (kn (wrE ((depth) + 1) (depth + 1) (by omega)) (kc (hrec ((el l v6).fKids) (depth + 1) (by first | assumption | omega | decide | (simp; done) | (simp; omega)) (by first | assumption | omega | decide | (simp; done) | (simp; omega)) (by first | assumption | omega | decide | (simp; done) | (simp; omega)) (by first | assumption | omega | decide | (simp; done) | (simp; omega))) (kn (wrE ((x5) + (rec ((el l v6).fKids) (depth + 1))) (x5 + (rec ((el l v6).fKids) (depth + 1))) (by omega)) (tn 2 (kn (wrE ((((v6 : Nat) : Int)) + 1) (((v6 + 1 : Nat) : Int)) (by omega)) (tn 1 z))))))) (by kernel_rfl) ?_
            exact AG ⟨_, _, by first | omega | assumption | (simp only [lenM_eq]; omega) | (simp; done) | (simp; omega), by first | omega | assumption | (simp only [lenM_eq]; omega) | (simp; done) | (simp; omega), by omega, rfl, rfl⟩ (WK (by kernel_rfl)) (by kernel_rfl) (Nat.lt_succ_self _)
    · have := lenM_eq aInline l
      refine GO (kb h2 z) (by kernel_rfl) ?_
      refine OUT (tn 2 z) (by kernel_rfl) ?_
      exact EN (by kernel_rfl)
def weiIN : Nat → (List DInline) → Int → Int
  | 0, _, _ => default
  | n + 1, l, depth => weiIS (weiIN n) l depth
theorem quo40 (n : Nat) (h : n ≤ 1073741824) : 0 ≤ quo .i64 (n : Int) 40 ∧ quo .i64 (n : Int) 40 ≤ 1073741824 := by
  have := quo_eq (n : Int) 40 (by decide) (by decide) (by omega) (by omega)
  omega
theorem weiIS_L2_bd (M : Int) (rec : (List DInline) → Int → Int) (l : List DInline) (depth : Int) (v5 : Int) (v6 : Nat) (w5 : Int) (w8 : Nat) (k0 k1 : Int → Nat → Int) (hM : 0 ≤ M) (hw : wInline (el l v6) ≤ 1073741824) (hc : (el l v6).fCites.length ≤ 9)
    (hk : ∀ x : Int, 0 ≤ x → x ≤ 1000 + 18 * 1073741824 → 0 ≤ k0 (x + rec (el l v6).fKids (depth + 1)) (v6 + 1) ∧ k0 (x + rec (el l v6).fKids (depth + 1)) (v6 + 1) ≤ M) :
    ∀ (n : Nat) (x5 : Int) (x9 : Nat), 0 ≤ x5 → x5 ≤ 1000 + 9 * 1073741824 + x9 * 1073741824 → x9 ≤ (el l v6).fCites.length → 0 ≤ weiIS_L2 rec l depth v5 v6 w5 w8 k0 k1 n x5 x9 ∧ weiIS_L2 rec l depth v5 v6 w5 w8 k0 k1 n x5 x9 ≤ M := by
  intro n
  induction n with
  | zero => intro x5 x9 h1 h2 h3; rw [weiIS_L2]; exact ⟨Int.le_refl 0, hM⟩
  | succ n ih =>
    intro x5 x9 h1 h2 h3
    rw [weiIS_L2]
    have hlm := lenM_eq aCited (el l v6).fCites
    refine condP (fun r : Int => 0 ≤ r ∧ r ≤ M) (fun q => ?_) (fun q => hk _ h1 (by omega))
    have q1 := of_decide_eq_true q
    have hcw := wInline_eq (el l v6)
    have hcc := wl_el (w := wCited) (l := (el l v6).fCites) (i := x9) (by omega)
    simp only [wCited, wStr] at hcc
    have hq := quo40 (ByteArray.size ((el ((el l v6).fCites) x9).fKey) + ByteArray.size ((el ((el l v6).fCites) x9).fPrefix) + ByteArray.size ((el ((el l v6).fCites) x9).fSuffix)) (by omega)
    exact ih _ _ (by omega) (by omega) (by omega)
theorem weiIS_L1_bd (M : Int) (rec : (List DInline) → Int → Int) (l : List DInline) (depth : Int) (v5 : Int) (v6 : Nat) (k0 : Int → Nat → Int) (hM : 0 ≤ M) (hw : wInline (el l v6) ≤ 1073741824) (ha : (el l v6).fArgs.length ≤ 9) (hc : (el l v6).fCites.length ≤ 9)
    (hk : ∀ x : Int, 0 ≤ x → x ≤ 1000 + 18 * 1073741824 → 0 ≤ k0 (x + rec (el l v6).fKids (depth + 1)) (v6 + 1) ∧ k0 (x + rec (el l v6).fKids (depth + 1)) (v6 + 1) ≤ M) :
    ∀ (n : Nat) (w5 : Int) (w8 : Nat), 0 ≤ w5 → w5 ≤ 1000 + w8 * 1073741824 → w8 ≤ (el l v6).fArgs.length → 0 ≤ weiIS_L1 rec l depth v5 v6 k0 n w5 w8 ∧ weiIS_L1 rec l depth v5 v6 k0 n w5 w8 ≤ M := by
  intro n
  induction n with
  | zero => intro w5 w8 h1 h2 h3; rw [weiIS_L1]; exact ⟨Int.le_refl 0, hM⟩
  | succ n ih =>
    intro w5 w8 h1 h2 h3
    rw [weiIS_L1]
    have hlm := lenM_eq strAV (el l v6).fArgs
    refine condP (fun r : Int => 0 ≤ r ∧ r ≤ M) (fun q => ?_) (fun q => weiIS_L2_bd M rec l depth v5 v6 w5 w8 k0 _ hM hw hc hk _ _ _ h1 (by omega) (by omega))
    have q1 := of_decide_eq_true q
    have hcw := wInline_eq (el l v6)
    have hcc := wl_el (w := wStr) (l := (el l v6).fArgs) (i := w8) (by omega)
    simp only [wStr] at hcc
    have hq := quo40 (ByteArray.size (el ((el l v6).fArgs) w8)) (by omega)
    exact ih _ _ (by omega) (by omega) (by omega)
theorem weiIS_L0_bd (rec : (List DInline) → Int → Int) (l : List DInline) (depth : Int) (hl : wl wInline l ≤ 1073741824) (hd : 0 ≤ depth) (hd2 : depth ≤ 20) (hr : ∀ l' : List DInline, wl wInline l' < wl wInline l → 0 ≤ rec l' (depth + 1) ∧ rec l' (depth + 1) ≤ (22 - (depth + 1)) * 21474836480) :
    ∀ (n : Nat) (v5 : Int) (v6 : Nat), 0 ≤ v5 → v5 ≤ (22 - depth) * 21474836480 → 0 ≤ weiIS_L0 rec l depth n v5 v6 ∧ weiIS_L0 rec l depth n v5 v6 ≤ (22 - depth) * 21474836480
  | 0, v5, v6, h1, h2 => by show (0 : Int) ≤ 0 ∧ (0 : Int) ≤ _; omega
  | n + 1, v5, v6, h1, h2 => by
    rw [weiIS_L0]
    have hlm := lenM_eq aInline l
    refine condP (fun r : Int => 0 ≤ r ∧ r ≤ (22 - depth) * 21474836480) (fun q => condP (fun r : Int => 0 ≤ r ∧ r ≤ (22 - depth) * 21474836480) (fun _ => by show (0 : Int) ≤ 1000 ∧ (1000 : Int) ≤ _; omega) (fun q2 => ?_)) (fun q => ⟨h1, h2⟩)
    have q1 := of_decide_eq_true (cond_ff q).1
    have q3 := of_decide_eq_true (cond_ff q).2
    have q4 := of_decide_eq_false (cond_tt q2).2
    have q5 := of_decide_eq_false (cond_tt (cond_tt q2).1).2
    have hl2 := lenM_eq aCited (el l v6).fCites
    have hl3 := lenM_eq strAV (el l v6).fArgs
    have hce := wl_el (w := wInline) (l := l) (i := v6) (by omega)
    have hcw := wInline_eq (el l v6)
    have hq := hr (el l v6).fKids (by omega)
    refine weiIS_L1_bd _ rec l depth v5 v6 _ (by omega) (by omega) (by omega) (by omega) (fun x hx1 hx2 => weiIS_L0_bd rec l depth hl hd hd2 hr n _ _ (by omega) (by omega)) _ _ _ h1 (by omega) (by omega)
theorem weiIN_bd : ∀ (n : Nat) (l : List DInline) (depth : Int), wl wInline l < n → wl wInline l ≤ 1073741824 → 0 ≤ depth → depth ≤ 21 → 0 ≤ weiIN n l depth ∧ weiIN n l depth ≤ (22 - depth) * 21474836480
  | 0, l, depth, h, _, _, _ => by omega
  | n + 1, l, depth, h, hl, hd, hd2 => by
    have hw_0 := wl_len (w := wInline) wInline_pos l
    rw [weiIN, weiIS]
    refine condP (fun r : Int => 0 ≤ r ∧ r ≤ (22 - depth) * 21474836480) (fun _ => by show (0 : Int) ≤ 1000 ∧ (1000 : Int) ≤ _; omega) (fun q => ?_)
    have q1 := of_decide_eq_false (cond_tt q).1
    exact weiIS_L0_bd _ l depth hl hd (by omega) (fun l' q => weiIN_bd n l' (depth + 1) (by omega) (by omega) (by omega) (by omega)) _ _ _ (by omega) (by simp only [lenM_eq]; omega)
theorem weiIN_to : ∀ (n : Nat) (l : List DInline) (depth : Int), wl wInline l < n → wl wInline l ≤ 1073741824 → 0 ≤ depth → depth ≤ 21 → CallTo Tryz.prog 17 [(jL (l.map aInline)), (jI (depth))] [] [] (jI (weiIN n l depth)) [] []
  | 0, l, depth, h0, _, _, _ => absurd h0 (Nat.not_lt_zero _)
  | n + 1, l, depth, h0, hl, hd, hd2 => by
    exact weiI_st (weiIN n) l depth hl hd hd2 (fun l' depth' q1 hl' hd' hd2' => weiIN_to n l' depth' (by omega) hl' hd' hd2') (fun l' depth' q1 hl' hd' hd2' => weiIN_bd n l' depth' (by omega) hl' hd' hd2')
def weiI (l : List DInline) (depth : Int) : Int := weiIN (wl wInline l + 1) l depth
theorem weiI_to (l : List DInline) (depth : Int) (hl : wl wInline l ≤ 1073741824) (hd : 0 ≤ depth) (hd2 : depth ≤ 21) : CallTo Tryz.prog 17 [(jL (l.map aInline)), (jI (depth))] [] [] (jI (weiI l depth)) [] [] := weiIN_to _ l depth (Nat.lt_succ_self _) hl hd hd2
theorem weiI_bd (l : List DInline) (depth : Int) (hl : wl wInline l ≤ 1073741824) (hd : 0 ≤ depth) (hd2 : depth ≤ 21) : 0 ≤ (weiI l depth) ∧ (weiI l depth) ≤ (22 - depth) * 21474836480 := weiIN_bd _ l depth (Nat.lt_succ_self _) hl hd hd2
end Go.Proofs.YtclkkkpkbpdmdaaGreatDoor
namespace Go.Proofs.YtclkkkpkbpdmdaaGreatDoor
open Go Go.Eng
def hvyIS_L0 (rec : (List DBlock) → Int → Int) (l : List DBlock) (depth : Int) : Nat → Int → Nat → Int
  | 0, _, _ => default
  | n0 + 1, v5, v6 => cond (cond (decide ((((v6 : Nat) : Int) : Int) < ((lenM aBlock l : Nat) : Int))) (decide ((v5 : Int) < 1000)) (false)) (cond (cond (decide ((((ByteArray.size ((el l v6).fText) + ByteArray.size ((el l v6).fInfo) + ByteArray.size ((el l v6).fDest) + ByteArray.size ((el l v6).fTitle) : Nat) : Int) : Int) > 300)) (true) (longB ((el l v6).fAttr))) (1000) (hvyIS_L0 rec l depth n0 (v5 + ((weiI ((el l v6).fLine) 0) + (rec ((el l v6).fKids) (depth + 1)))) (v6 + 1))) (v5)
def hvyIS (rec : (List DBlock) → Int → Int) (l : List DBlock) (depth : Int) : Int := cond (cond (decide ((depth : Int) > 20)) (true) (decide ((((lenM aBlock l : Nat) : Int) : Int) > 200))) (1000) (hvyIS_L0 rec l depth ((List.length l - (0)) + 1) (((lenM aBlock l : Nat) : Int)) 0)
set_option maxRecDepth 100000 in
set_option maxHeartbeats 4000000 in
theorem hvyI_st (rec : (List DBlock) → Int → Int) (l : List DBlock) (depth : Int) (hl : wl wBlock l ≤ 1073741824) (hd : 0 ≤ depth) (hd2 : depth ≤ 21) (hrec : ∀ (l' : List DBlock) (depth' : Int), wl wBlock l' < wl wBlock l → wl wBlock l' ≤ 1073741824 → 0 ≤ depth' → depth' ≤ 21 → CallTo Tryz.prog 8 [(jL ((l').map aBlock)), (jI (depth'))] [] [] (jI (rec l' depth')) [] []) (hrb : ∀ (l' : List DBlock) (depth' : Int), wl wBlock l' < wl wBlock l → wl wBlock l' ≤ 1073741824 → 0 ≤ depth' → depth' ≤ 21 → 0 ≤ (rec l' depth') ∧ (rec l' depth') ≤ (22 - depth') * 1000000000000) : CallTo Tryz.prog 8 [(jL (l.map aBlock)), (jI (depth))] [] [] (jI (hvyIS rec l depth)) [] [] := by
  have hw_0 := wl_len (w := wBlock) wBlock_pos l
  refine BEG (fun r : Int => (jI (r))) (hvyIS rec l depth) Tryz.func8 (by kernel_rfl) ?_
  refine UF (hvyIS.eq_1 ..) ?_
  refine GO (tn 7 (kj (decide ((depth : Int) > 20)) z (tn 2 z) z)) (by kernel_rfl) ?_
  refine CS (fun h1 => ?_) (fun h1 => ?_)
  · have := lenM_eq aBlock l
    refine GO (kb h1 (tn 1 z)) (by kernel_rfl) ?_
    exact EN (by kernel_rfl)
  · have := lenM_eq aBlock l
    obtain ⟨h1a, h1o⟩ := cond_tt h1
    have h1ap := of_decide_eq_false h1a
    have := lenM_eq aBlock l
    have h1op := of_decide_eq_false h1o
    refine GO (kb h1 (tn 1 z)) (by kernel_rfl) ?_
    refine LP (fun N M S => ∃ v5 : Int, ∃ v6 : Nat, (0 ≤ v5) ∧ (v5 ≤ (22 - depth) * 1000000000000) ∧ (List.length l - v6 < N) ∧ M = hvyIS_L0 rec l depth N v5 v6 ∧ S = (sx 63 [(0, (jL (l.map aBlock))), (1, (jI (depth))), (5, (jI (v5))), (6, (jI (((v6 : Nat) : Int))))] [] [])) (by kernel_rfl) ⟨_, _, by first | omega | assumption | (simp only [lenM_eq]; omega) | (simp; done) | (simp; omega), by first | omega | assumption | (simp only [lenM_eq]; omega) | (simp; done) | (simp; omega), by omega, rfl, rfl⟩ (WK (by kernel_rfl)) ?_
    rintro n0 M S ⟨v5, v6, hv, hv2, hF0, rfl, rfl⟩
    obtain ⟨n0, rfl⟩ : ∃ k, n0 = k + 1 := ⟨n0 - 1, by omega⟩
    refine UF (hvyIS_L0.eq_2 ..) ?_
    refine GO (tn 5 (kj (decide ((((v6 : Nat) : Int) : Int) < ((lenM aBlock l : Nat) : Int))) (tn 2 z) z z)) (by kernel_rfl) ?_
    refine CS (fun h2 => ?_) (fun h2 => ?_)
    · have := lenM_eq aBlock l
      obtain ⟨h2a, h2o⟩ := cond_ff h2
      have := lenM_eq aBlock l
      have h2ap := of_decide_eq_true h2a
      have hce := wl_el (w := wBlock) (l := l) (i := v6) (by omega)
      have hcw := wBlock_eq (el l v6)
      simp only [wStr, w1] at hcw
      have h2op := of_decide_eq_true h2o
      refine GO (kb h2 (tn 2 (ke (el_aBlock l v6 (by first | omega | (simp only [lenM_eq, true_and]; omega))) (tn 9 (kn (wrE ((((ByteArray.size ((el l v6).fText) : Nat) : Int)) + (((ByteArray.size ((el l v6).fInfo) : Nat) : Int))) (((ByteArray.size ((el l v6).fText) + ByteArray.size ((el l v6).fInfo) : Nat) : Int)) (by omega)) (tn 3 (kn (wrE ((((ByteArray.size ((el l v6).fText) + ByteArray.size ((el l v6).fInfo) : Nat) : Int)) + (((ByteArray.size ((el l v6).fDest) : Nat) : Int))) (((ByteArray.size ((el l v6).fText) + ByteArray.size ((el l v6).fInfo) + ByteArray.size ((el l v6).fDest) : Nat) : Int)) (by omega)) (tn 3 (kn (wrE ((((ByteArray.size ((el l v6).fText) + ByteArray.size ((el l v6).fInfo) + ByteArray.size ((el l v6).fDest) : Nat) : Int)) + (((ByteArray.size ((el l v6).fTitle) : Nat) : Int))) (((ByteArray.size ((el l v6).fText) + ByteArray.size ((el l v6).fInfo) + ByteArray.size ((el l v6).fDest) + ByteArray.size ((el l v6).fTitle) : Nat) : Int)) (by omega)) (tn 2 (kj (decide ((((ByteArray.size ((el l v6).fText) + ByteArray.size ((el l v6).fInfo) + ByteArray.size ((el l v6).fDest) + ByteArray.size ((el l v6).fTitle) : Nat) : Int) : Int) > 300)) z (tn 2 (hc (fun h => by have j0 := h.2; have j0p := of_decide_eq_false j0; exact (longB_to ((el l v6).fAttr) (by first | assumption | omega | decide | (simp; done) | (simp; omega)))) z)) z))))))))))) (by kernel_rfl) ?_
      refine CS (fun h3 => ?_) (fun h3 => ?_)
      · refine GO (kb h3 (tn 1 z)) (by kernel_rfl) ?_
        refine OUT z (by kernel_rfl) ?_
        exact EN (by kernel_rfl)
      · obtain ⟨h3a, h3o⟩ := cond_tt h3
        have h3ap := of_decide_eq_false h3a
        refine GO (kb h3 z) (by kernel_rfl) ?_
        have := weiI_bd ((el l v6).fLine) 0 (by first | assumption | omega | decide | (simp; done) | (simp; omega)) (by first | assumption | omega | decide | (simp; done) | (simp; omega)) (by first | assumption | omega | decide | (simp; done) | (simp; omega))
        have := hrb ((el l v6).fKids) (depth + 1) (by first | assumption | omega | decide | (simp; done) | (simp; omega)) (by first | assumption | omega | decide | (simp; done) | (simp; omega)) (by first | assumption | omega | decide | (simp; done) | (simp; omega)) (by first | assumption | omega | decide | (simp; done) | (simp; omega))
        have d4 := (weiI_to ((el l v6).fLine) 0 (by first | assumption | omega | decide | (simp; done) | (simp; omega)) (by first | assumption | omega | decide | (simp; done) | (simp; omega)) (by first | assumption | omega | decide | (simp; done) | (simp; omega)))
        have d5 := wrE ((depth) + 1) (depth + 1) (by omega)
        have d6 := (hrec ((el l v6).fKids) (depth + 1) (by first | assumption | omega | decide | (simp; done) | (simp; omega)) (by first | assumption | omega | decide | (simp; done) | (simp; omega)) (by first | assumption | omega | decide | (simp; done) | (simp; omega)) (by first | assumption | omega | decide | (simp; done) | (simp; omega)))
        have d7 := wrE ((weiI ((el l v6).fLine) 0) + (rec ((el l v6).fKids) (depth + 1))) ((weiI ((el l v6).fLine) 0) + (rec ((el l v6).fKids) (depth + 1))) (by omega)
        have d8 := wrE ((v5) + ((weiI ((el l v6).fLine) 0) + (rec ((el l v6).fKids) (depth + 1)))) (v5 + ((weiI ((el l v6).fLine) 0) + (rec ((el l v6).fKids) (depth + 1)))) (by omega)
        refine DR3 (tn 3 (ko (cO d4) (kp d4 (tn 4 (ko (nO d5) (kp d5 (ko (cO d6) (kp d6 (tn 1 (ko (nO d7) (kp d7 (ko (nO d8) (kp d8 (tn 2 (kn (wrE ((((v6 : Nat) : Int)) + 1) (((v6 + 1 : Nat) : Int)) (by omega)) (tn 1 z)))))))))))))))) (by kernel_rfl) (by kernel_rfl) (by kernel_rfl) ?_
        exact AG ⟨_, _, by first | omega | assumption | (simp only [lenM_eq]; omega) | (simp; done) | (simp; omega), by first | omega | assumption | (simp only [lenM_eq]; omega) | (simp; done) | (simp; omega), by omega, rfl, rfl⟩ (WK (by kernel_rfl)) (by kernel_rfl) (Nat.lt_succ_self _)
    · have := lenM_eq aBlock l
      refine GO (kb h2 z) (by kernel_rfl) ?_
      refine OUT (tn 2 z) (by kernel_rfl) ?_
      exact EN (by kernel_rfl)
def hvyIN : Nat → (List DBlock) → Int → Int
  | 0, _, _ => default
  | n + 1, l, depth => hvyIS (hvyIN n) l depth
theorem hvyIS_L0_bd (rec : (List DBlock) → Int → Int) (l : List DBlock) (depth : Int) (hl : wl wBlock l ≤ 1073741824) (hd : 0 ≤ depth) (hd2 : depth ≤ 20) (hr : ∀ l' : List DBlock, wl wBlock l' < wl wBlock l → 0 ≤ rec l' (depth + 1) ∧ rec l' (depth + 1) ≤ (22 - (depth + 1)) * 1000000000000) :
    ∀ (n : Nat) (v5 : Int) (v6 : Nat), 0 ≤ v5 → v5 ≤ (22 - depth) * 1000000000000 → 0 ≤ hvyIS_L0 rec l depth n v5 v6 ∧ hvyIS_L0 rec l depth n v5 v6 ≤ (22 - depth) * 1000000000000 := by
  intro n
  induction n with
  | zero => intro v5 v6 h1 h2; rw [hvyIS_L0]; exact ⟨Int.le_refl 0, show (0 : Int) ≤ (22 - depth) * 1000000000000 by omega⟩
  | succ n ih =>
    intro v5 v6 h1 h2
    rw [hvyIS_L0]
    have hlm := lenM_eq aBlock l
    refine condP (fun r : Int => 0 ≤ r ∧ r ≤ (22 - depth) * 1000000000000) (fun q => condP (fun r : Int => 0 ≤ r ∧ r ≤ (22 - depth) * 1000000000000) (fun _ => by show (0 : Int) ≤ 1000 ∧ (1000 : Int) ≤ _; omega) (fun q2 => ?_)) (fun q => ⟨h1, h2⟩)
    have q1 := of_decide_eq_true (cond_ff q).1
    have q3 := of_decide_eq_true (cond_ff q).2
    have hce := wl_el (w := wBlock) (l := l) (i := v6) (by omega)
    have hcw := wBlock_eq (el l v6)
    have hq := hr (el l v6).fKids (by omega)
    have hq2 := weiI_bd (el l v6).fLine 0 (by omega) (by omega) (by omega)
    exact ih _ _ (by omega) (by omega)
theorem hvyIN_bd : ∀ (n : Nat) (l : List DBlock) (depth : Int), wl wBlock l < n → wl wBlock l ≤ 1073741824 → 0 ≤ depth → depth ≤ 21 → 0 ≤ hvyIN n l depth ∧ hvyIN n l depth ≤ (22 - depth) * 1000000000000
  | 0, l, depth, h, _, _, _ => by omega
  | n + 1, l, depth, h, hl, hd, hd2 => by
    have hw_0 := wl_len (w := wBlock) wBlock_pos l
    rw [hvyIN, hvyIS]
    refine condP (fun r : Int => 0 ≤ r ∧ r ≤ (22 - depth) * 1000000000000) (fun _ => by show (0 : Int) ≤ 1000 ∧ (1000 : Int) ≤ _; omega) (fun q => ?_)
    have q1 := of_decide_eq_false (cond_tt q).1
    exact hvyIS_L0_bd _ l depth hl hd (by omega) (fun l' q => hvyIN_bd n l' (depth + 1) (by omega) (by omega) (by omega) (by omega)) _ _ _ (by omega) (by simp only [lenM_eq]; omega)
theorem hvyIN_to : ∀ (n : Nat) (l : List DBlock) (depth : Int), wl wBlock l < n → wl wBlock l ≤ 1073741824 → 0 ≤ depth → depth ≤ 21 → CallTo Tryz.prog 8 [(jL (l.map aBlock)), (jI (depth))] [] [] (jI (hvyIN n l depth)) [] []
  | 0, l, depth, h0, _, _, _ => absurd h0 (Nat.not_lt_zero _)
  | n + 1, l, depth, h0, hl, hd, hd2 => by
    exact hvyI_st (hvyIN n) l depth hl hd hd2 (fun l' depth' q1 hl' hd' hd2' => hvyIN_to n l' depth' (by omega) hl' hd' hd2') (fun l' depth' q1 hl' hd' hd2' => hvyIN_bd n l' depth' (by omega) hl' hd' hd2')
def hvyI (l : List DBlock) (depth : Int) : Int := hvyIN (wl wBlock l + 1) l depth
theorem hvyI_to (l : List DBlock) (depth : Int) (hl : wl wBlock l ≤ 1073741824) (hd : 0 ≤ depth) (hd2 : depth ≤ 21) : CallTo Tryz.prog 8 [(jL (l.map aBlock)), (jI (depth))] [] [] (jI (hvyI l depth)) [] [] := hvyIN_to _ l depth (Nat.lt_succ_self _) hl hd hd2
theorem hvyI_bd (l : List DBlock) (depth : Int) (hl : wl wBlock l ≤ 1073741824) (hd : 0 ≤ depth) (hd2 : depth ≤ 21) : 0 ≤ (hvyI l depth) ∧ (hvyI l depth) ≤ (22 - depth) * 1000000000000 := hvyIN_bd _ l depth (Nat.lt_succ_self _) hl hd hd2
def smlD_L0 (d : DDoc) : Nat → Nat → Bool
  | 0, _ => default
  | n0 + 1, v3 => cond (decide ((((v3 : Nat) : Int) : Int) < ((lenM aPair d.fMeta : Nat) : Int))) (cond (decide ((((ByteArray.size ((el d.fMeta v3).fKey) + ByteArray.size ((el d.fMeta v3).fValue) : Nat) : Int) : Int) > 300)) (false) (smlD_L0 d n0 (v3 + 1))) (decide ((hvyI d.fBlocks 0 : Int) ≤ 120))
def smlD (d : DDoc) : Bool := cond (decide ((((lenM aPair d.fMeta : Nat) : Int) : Int) > 70)) (false) (smlD_L0 d ((List.length d.fMeta - (0)) + 1) 0)
set_option maxRecDepth 100000 in
set_option maxHeartbeats 4000000 in
theorem smlD_to (d : DDoc) (hd : wDoc d ≤ 1073741824) : CallTo Tryz.prog 4 [(.av (cDoc d))] [] [] (jB (smlD d)) [] [] := by
  have hwd := wDoc_eq d
  have hw_0 := wl_len (w := wPair) wPair_pos d.fMeta
  refine BEG (fun r : Bool => (jB (r))) (smlD d) Tryz.func4 (by kernel_rfl) ?_
  refine UF (smlD.eq_1 ..) ?_
  refine GO (tn 6 z) (by kernel_rfl) ?_
  refine CSd (fun h1p h1 => ?_) (fun h1p h1 => ?_)
  · have := lenM_eq aPair d.fMeta
    refine GO (kb h1 (tn 1 z)) (by kernel_rfl) ?_
    exact EN (by kernel_rfl)
  · have := lenM_eq aPair d.fMeta
    refine GO (kb h1 (tn 1 z)) (by kernel_rfl) ?_
    refine LP (fun N M S => ∃ v3 : Nat, (List.length d.fMeta - v3 < N) ∧ M = smlD_L0 d N v3 ∧ S = (sx 35 [(1, (.ptr 1 0)), (3, (jI (((v3 : Nat) : Int))))] [(1, (.cells 25 (sDoc d)))] [])) (by kernel_rfl) ⟨_, by omega, rfl, rfl⟩ (WK (by kernel_rfl)) ?_
    rintro n0 M S ⟨v3, hF0, rfl, rfl⟩
    obtain ⟨n0, rfl⟩ : ∃ k, n0 = k + 1 := ⟨n0 - 1, by omega⟩
    refine UF (smlD_L0.eq_2 ..) ?_
    refine GO (tn 5 z) (by kernel_rfl) ?_
    refine CSd (fun h2p h2 => ?_) (fun h2p h2 => ?_)
    · have := lenM_eq aPair d.fMeta
      have hce := wl_el (w := wPair) (l := d.fMeta) (i := v3) (by omega)
      simp only [wPair, wStr] at hce
      refine GO (kb h2 z) (by kernel_rfl) ?_
      have d3 := (el_aPair d.fMeta v3 (by first | omega | (simp only [lenM_eq, true_and]; omega)))
      have d4 := (el_aPair d.fMeta v3 (by first | omega | (simp only [lenM_eq, true_and]; omega)))
      have d5 := wrE ((((ByteArray.size ((el d.fMeta v3).fKey) : Nat) : Int)) + (((ByteArray.size ((el d.fMeta v3).fValue) : Nat) : Int))) (((ByteArray.size ((el d.fMeta v3).fKey) + ByteArray.size ((el d.fMeta v3).fValue) : Nat) : Int)) (by omega)
      refine DR3 (tn 3 (ko (eO d3) (kp d3 (tn 6 (ko (eO d4) (kp d4 (tn 3 (ko (nO d5) (kp d5 (tn 1 z)))))))))) (by kernel_rfl) (by kernel_rfl) (by kernel_rfl) ?_
      refine CSd (fun h6p h6 => ?_) (fun h6p h6 => ?_)
      · refine GO (kb h6 (tn 1 z)) (by kernel_rfl) ?_
        refine OUT z (by kernel_rfl) ?_
        exact EN (by kernel_rfl)
      · refine GO (kb h6 (tn 1 (kn (wrE ((((v3 : Nat) : Int)) + 1) (((v3 + 1 : Nat) : Int)) (by omega)) (tn 1 z)))) (by kernel_rfl) ?_
        exact AG ⟨_, by omega, rfl, rfl⟩ (WK (by kernel_rfl)) (by kernel_rfl) (Nat.lt_succ_self _)
    · have := lenM_eq aPair d.fMeta
      refine GO (kb h2 z) (by kernel_rfl) ?_
      have := hvyI_bd d.fBlocks 0 (by first | assumption | omega | decide | (simp; done) | (simp; omega)) (by first | assumption | omega | decide | (simp; done) | (simp; omega)) (by first | assumption | omega | decide | (simp; done) | (simp; omega))
      refine OUT (tn 2 (kc (hvyI_to d.fBlocks 0 (by first | assumption | omega | decide | (simp; done) | (simp; omega)) (by first | assumption | omega | decide | (simp; done) | (simp; omega)) (by first | assumption | omega | decide | (simp; done) | (simp; omega))) (tn 2 z))) (by kernel_rfl) ?_
      exact EN (by kernel_rfl)
end Go.Proofs.YtclkkkpkbpdmdaaGreatDoor
namespace Go.Proofs.YtclkkkpkbpdmdaaGreatDoor
open Go Go.Eng
theorem wl_take {α : Type} [Inhabited α] {w : α → Nat} : ∀ {l : List α} {i : Nat}, i < l.length → wl w (l.take (i + 1)) = wl w (l.take i) + w (el l i) ∧ wl w (l.take (i + 1)) ≤ wl w l
  | x :: l, 0, _ => by simp [wl, el]
  | x :: l, i + 1, h => by
    have := wl_take (w := w) (l := l) (i := i) (by simpa using h)
    have e : el (x :: l) (i + 1) = el l i := by simp [el]
    simp only [List.take_succ_cons, wl, e]; omega
theorem wl_take_le {α : Type} {w : α → Nat} : ∀ (l : List α) (i : Nat), wl w (l.take i) ≤ wl w l
  | [], i => by simp [wl]
  | x :: l, 0 => by simp [wl]
  | x :: l, i + 1 => by have := wl_take_le (w := w) l i; simp only [List.take_succ_cons, wl]; omega
theorem drop_el {α : Type} [Inhabited α] {l : List α} {i : Nat} (h : i < l.length) : l.drop i = el l i :: l.drop (i + 1) := by
  rw [List.drop_eq_getElem_cons h]; simp [el, h]
theorem loop_flat {α β : Type} [Inhabited α] (f : α → AV) (l : List α) (g : α → List β) (F : Nat → List β → Nat → List β) (hF : ∀ n acc i, F (n + 1) acc i = cond (decide ((((i : Nat) : Int) : Int) < ((lenM f l : Nat) : Int))) (F n (acc ++ g (el l i)) (i + 1)) acc) : ∀ (n : Nat) (acc : List β) (i : Nat), l.length - i < n → F n acc i = acc ++ (l.drop i).flatMap g
  | 0, acc, i, h => by omega
  | n + 1, acc, i, h => by
    have hl := lenM_eq f l
    rw [hF]
    by_cases hi : i < l.length
    · rw [show decide ((((i : Nat) : Int) : Int) < ((lenM f l : Nat) : Int)) = true from decide_eq_true (by omega), cond_true, loop_flat f l g F hF n _ _ (by omega), drop_el hi]
      simp
    · rw [show decide ((((i : Nat) : Int) : Int) < ((lenM f l : Nat) : Int)) = false from decide_eq_false (by omega), cond_false, List.drop_eq_nil_of_le (by omega)]
      simp
theorem flat_wl {α β : Type} {w : α → Nat} {w' : β → Nat} {g : α → List β} : ∀ {l : List α}, (∀ x ∈ l, wl w' (g x) ≤ w x) → wl w' (l.flatMap g) ≤ wl w l
  | [], _ => by simp [wl]
  | x :: l, h => by
    have h1 := h x (by simp)
    have h2 := flat_wl (l := l) (fun y hy => h y (by simp [hy]))
    simp only [List.flatMap_cons, wl_append, wl]; omega
theorem flat_eq {α β : Type} {g g' : α → List β} : ∀ {l : List α}, (∀ x ∈ l, g x = g' x) → l.flatMap g = l.flatMap g'
  | [], _ => rfl
  | x :: l, h => by rw [List.flatMap_cons, List.flatMap_cons, h x (by simp), flat_eq (fun y hy => h y (by simp [hy]))]
theorem flat_len {α β : Type} {w : α → Nat} {g : α → List β} : ∀ {l : List α}, (∀ x ∈ l, (g x).length ≤ w x) → (l.flatMap g).length ≤ wl w l
  | [], _ => by simp [wl]
  | x :: l, h => by
    have h1 := h x (by simp)
    have h2 := flat_len (l := l) (fun y hy => h y (by simp [hy]))
    simp only [List.flatMap_cons, List.length_append, wl]; omega
def dpIS_L0 (rec : (List DInline) → List DInline) (l : List DInline) : Nat → (List DInline) → Nat → List DInline
  | 0, _, _ => default
  | n0 + 1, v3, v4 => cond (decide ((((v4 : Nat) : Int) : Int) < ((lenM aInline l : Nat) : Int))) (dpIS_L0 rec l n0 ((v3 ++ ([el l v4])) ++ (rec ((el l v4).fKids))) (v4 + 1)) (v3)
def dpIS (rec : (List DInline) → List DInline) (l : List DInline) : List DInline := dpIS_L0 rec l ((List.length l - (0)) + 1) ([]) 0
set_option maxRecDepth 100000 in
set_option maxHeartbeats 4000000 in
theorem dpI_st (rec : (List DInline) → List DInline) (l : List DInline) (hl : wl wInline l ≤ 1073741824) (hrec : ∀ (l' : List DInline), wl wInline l' < wl wInline l → wl wInline l' ≤ 1073741824 → CallTo Tryz.prog 29 [(jL ((l').map aInline))] [] [] (jL ((rec l').map aInline)) [] []) (hrb : ∀ (l' : List DInline), wl wInline l' < wl wInline l → wl wInline l' ≤ 1073741824 → (rec l').length ≤ wl wInline l') : CallTo Tryz.prog 29 [(jL (l.map aInline))] [] [] (jL ((dpIS rec l).map aInline)) [] [] := by
  have hw_0 := wl_len (w := wInline) wInline_pos l
  refine BEG (fun r : List DInline => (jL (r.map aInline))) (dpIS rec l) Tryz.func29 (by kernel_rfl) ?_
  refine UF (dpIS.eq_1 ..) ?_
  refine GO (tn 3 z) (by kernel_rfl) ?_
  refine LP (fun N M S => ∃ gv3 : Nat, ∃ v3 : List DInline, ∃ v4 : Nat, (v3.length ≤ wl wInline (l.take v4)) ∧ (List.length l - v4 < N) ∧ M = dpIS_L0 rec l N v3 v4 ∧ S = (sx 27 [(0, (jL (l.map aInline))), (3, (.own (203, 51) (gv3) 10 (v3.map aInline))), (4, (jI (((v4 : Nat) : Int))))] [] [((203, 51), gv3)])) (by kernel_rfl) ⟨0, _, _, by first | omega | assumption | (simp only [lenM_eq]; omega) | (simp; done) | (simp; omega), by omega, rfl, rfl⟩ (WKf [(3, (.own (203, 51) ((0)) 10 (([]).map aInline)))] (ac (show ((([]).map aInline) : List AV) = [] ∧ 0 < 51 ∧ ((0) : Nat) = (0) from ⟨rfl, by decide, rfl⟩) an) (by kernel_rfl)) ?_
  rintro n0 M S ⟨gv3, v3, v4, hv, hF0, rfl, rfl⟩
  obtain ⟨n0, rfl⟩ : ∃ k, n0 = k + 1 := ⟨n0 - 1, by omega⟩
  refine UF (dpIS_L0.eq_2 ..) ?_
  refine GO (tn 4 z) (by kernel_rfl) ?_
  refine CSd (fun h1p h1 => ?_) (fun h1p h1 => ?_)
  · have := lenM_eq aInline l
    have hce := wl_el (w := wInline) (l := l) (i := v4) (by omega)
    have hcw := wInline_eq (el l v4)
    simp only [wStr, w1] at hcw
    have htk := wl_take (w := wInline) (l := l) (i := v4) (by omega)
    have := hrb ((el l v4).fKids) (by first | assumption | omega | decide | (simp; done) | (simp; omega)) (by first | assumption | omega | decide | (simp; done) | (simp; omega))
    refine GO (kb h1 (tn 3 (ke (el_aInline l v4 (by first | omega | (simp only [lenM_eq, true_and]; omega))) (tn 1 (kp (show Uni 10 [(cInline (el l v4))] from (uni_one rfl rfl)) (kp (show (gv3 : Nat) = gv3 ∧ Uni 10 [(cInline (el l v4))] ∧ (((v3.map aInline) : List AV).length + ([(cInline (el l v4))] : List AV).length) * 192 ≤ 140737488355328 from ⟨rfl, uni_one rfl rfl, by first | omega | (simp; done) | (simp; omega)⟩) (kw (ap1_aInline v3 (el l v4)) (tn 4 (ke (el_aInline l v4 (by first | omega | (simp only [lenM_eq, true_and]; omega))) (tn 2 (kc (hrec ((el l v4).fKids) (by first | assumption | omega | decide | (simp; done) | (simp; omega)) (by first | assumption | omega | decide | (simp; done) | (simp; omega))) (kp (show (gv3 + 1 : Nat) = gv3 + 1 ∧ Uni 10 ((rec ((el l v4).fKids)).map aInline) ∧ ((((v3 ++ ([el l v4])).map aInline) : List AV).length + (((rec ((el l v4).fKids)).map aInline) : List AV).length) * 192 ≤ 140737488355328 from ⟨rfl, uni_aInline _, by first | omega | (simp; done) | (simp; omega)⟩) (kw (apL aInline (v3 ++ ([el l v4])) (rec ((el l v4).fKids))) (tn 2 (kn (wrE ((((v4 : Nat) : Int)) + 1) (((v4 + 1 : Nat) : Int)) (by omega)) (tn 1 z)))))))))))))))) (by kernel_rfl) ?_
    exact AG ⟨gv3 + 1 + 1, _, _, by first | omega | assumption | (simp only [lenM_eq]; omega) | (simp; done) | (simp; omega), by omega, rfl, rfl⟩ (WK (by kernel_rfl)) (by kernel_rfl) (Nat.lt_succ_self _)
  · have := lenM_eq aInline l
    refine GO (kb h1 z) (by kernel_rfl) ?_
    refine OUT (tn 2 z) (by kernel_rfl) ?_
    exact EN (by kernel_rfl)
def dpIN : Nat → (List DInline) → List DInline
  | 0, _ => default
  | n + 1, l => dpIS (dpIN n) l
theorem dpIS_eq (rec : (List DInline) → List DInline) (l : List DInline) : dpIS rec l = l.flatMap (fun x => x :: rec x.fKids) := by
  have := loop_flat aInline l (fun x => x :: rec x.fKids) (dpIS_L0 rec l) (fun n acc i => by rw [dpIS_L0]; simp) ((List.length l - (0)) + 1) [] 0 (by omega)
  rw [dpIS, this]; simp
theorem dpIN_bd : ∀ (n : Nat) (l : List DInline), wl wInline l < n → wl wInline l ≤ 1073741824 → (dpIN n l).length ≤ wl wInline l
  | 0, l, h, _ => by omega
  | n + 1, l, h, hl => by
    rw [dpIN, dpIS_eq]
    refine flat_len (fun x hx => ?_)
    have h1 := wl_mem (w := wInline) hx
    have h2 := wInline_eq x
    have h3 := dpIN_bd n x.fKids (by omega) (by omega)
    simp only [List.length_cons]; omega
theorem dpIN_to : ∀ (n : Nat) (l : List DInline), wl wInline l < n → wl wInline l ≤ 1073741824 → CallTo Tryz.prog 29 [(jL (l.map aInline))] [] [] (jL ((dpIN n l).map aInline)) [] []
  | 0, l, h0, _ => absurd h0 (Nat.not_lt_zero _)
  | n + 1, l, h0, hl => by
    exact dpI_st (dpIN n) l hl (fun l' q1 hl' => dpIN_to n l' (by omega) hl') (fun l' q1 hl' => dpIN_bd n l' (by omega) hl')
def dpI (l : List DInline) : List DInline := dpIN (wl wInline l + 1) l
theorem dpI_to (l : List DInline) (hl : wl wInline l ≤ 1073741824) : CallTo Tryz.prog 29 [(jL (l.map aInline))] [] [] (jL ((dpI l).map aInline)) [] [] := dpIN_to _ l (Nat.lt_succ_self _) hl
theorem dpI_bd (l : List DInline) (hl : wl wInline l ≤ 1073741824) : (dpI l).length ≤ wl wInline l := dpIN_bd _ l (Nat.lt_succ_self _) hl
def lsBS_L0 (rec : (List DBlock) → List DBlock) (l : List DBlock) : Nat → (List DBlock) → Nat → List DBlock
  | 0, _, _ => default
  | n0 + 1, v3, v4 => cond (decide ((((v4 : Nat) : Int) : Int) < ((lenM aBlock l : Nat) : Int))) (lsBS_L0 rec l n0 ((v3 ++ ([el l v4])) ++ (rec ((el l v4).fKids))) (v4 + 1)) (v3)
def lsBS (rec : (List DBlock) → List DBlock) (l : List DBlock) : List DBlock := lsBS_L0 rec l ((List.length l - (0)) + 1) ([]) 0
set_option maxRecDepth 100000 in
set_option maxHeartbeats 4000000 in
theorem lsB_st (rec : (List DBlock) → List DBlock) (l : List DBlock) (hl : wl wBlock l ≤ 1073741824) (hrec : ∀ (l' : List DBlock), wl wBlock l' < wl wBlock l → wl wBlock l' ≤ 1073741824 → CallTo Tryz.prog 13 [(jL ((l').map aBlock))] [] [] (jL ((rec l').map aBlock)) [] []) (hrb : ∀ (l' : List DBlock), wl wBlock l' < wl wBlock l → wl wBlock l' ≤ 1073741824 → (rec l').length ≤ wl wBlock l') : CallTo Tryz.prog 13 [(jL (l.map aBlock))] [] [] (jL ((lsBS rec l).map aBlock)) [] [] := by
  have hw_0 := wl_len (w := wBlock) wBlock_pos l
  refine BEG (fun r : List DBlock => (jL (r.map aBlock))) (lsBS rec l) Tryz.func13 (by kernel_rfl) ?_
  refine UF (lsBS.eq_1 ..) ?_
  refine GO (tn 3 z) (by kernel_rfl) ?_
  refine LP (fun N M S => ∃ gv3 : Nat, ∃ v3 : List DBlock, ∃ v4 : Nat, (v3.length ≤ wl wBlock (l.take v4)) ∧ (List.length l - v4 < N) ∧ M = lsBS_L0 rec l N v3 v4 ∧ S = (sx 27 [(0, (jL (l.map aBlock))), (3, (.own (203, 44) (gv3) 11 (v3.map aBlock))), (4, (jI (((v4 : Nat) : Int))))] [] [((203, 44), gv3)])) (by kernel_rfl) ⟨0, _, _, by first | omega | assumption | (simp only [lenM_eq]; omega) | (simp; done) | (simp; omega), by omega, rfl, rfl⟩ (WKf [(3, (.own (203, 44) ((0)) 11 (([]).map aBlock)))] (ac (show ((([]).map aBlock) : List AV) = [] ∧ 0 < 44 ∧ ((0) : Nat) = (0) from ⟨rfl, by decide, rfl⟩) an) (by kernel_rfl)) ?_
  rintro n0 M S ⟨gv3, v3, v4, hv, hF0, rfl, rfl⟩
  obtain ⟨n0, rfl⟩ : ∃ k, n0 = k + 1 := ⟨n0 - 1, by omega⟩
  refine UF (lsBS_L0.eq_2 ..) ?_
  refine GO (tn 4 z) (by kernel_rfl) ?_
  refine CSd (fun h1p h1 => ?_) (fun h1p h1 => ?_)
  · have := lenM_eq aBlock l
    have hce := wl_el (w := wBlock) (l := l) (i := v4) (by omega)
    have hcw := wBlock_eq (el l v4)
    simp only [wStr, w1] at hcw
    have htk := wl_take (w := wBlock) (l := l) (i := v4) (by omega)
    have := hrb ((el l v4).fKids) (by first | assumption | omega | decide | (simp; done) | (simp; omega)) (by first | assumption | omega | decide | (simp; done) | (simp; omega))
    refine GO (kb h1 (tn 3 (ke (el_aBlock l v4 (by first | omega | (simp only [lenM_eq, true_and]; omega))) (tn 1 (kp (show Uni 11 [(cBlock (el l v4))] from (uni_one rfl rfl)) (kp (show (gv3 : Nat) = gv3 ∧ Uni 11 [(cBlock (el l v4))] ∧ (((v3.map aBlock) : List AV).length + ([(cBlock (el l v4))] : List AV).length) * 192 ≤ 140737488355328 from ⟨rfl, uni_one rfl rfl, by first | omega | (simp; done) | (simp; omega)⟩) (kw (ap1_aBlock v3 (el l v4)) (tn 4 (ke (el_aBlock l v4 (by first | omega | (simp only [lenM_eq, true_and]; omega))) (tn 2 (kc (hrec ((el l v4).fKids) (by first | assumption | omega | decide | (simp; done) | (simp; omega)) (by first | assumption | omega | decide | (simp; done) | (simp; omega))) (kp (show (gv3 + 1 : Nat) = gv3 + 1 ∧ Uni 11 ((rec ((el l v4).fKids)).map aBlock) ∧ ((((v3 ++ ([el l v4])).map aBlock) : List AV).length + (((rec ((el l v4).fKids)).map aBlock) : List AV).length) * 192 ≤ 140737488355328 from ⟨rfl, uni_aBlock _, by first | omega | (simp; done) | (simp; omega)⟩) (kw (apL aBlock (v3 ++ ([el l v4])) (rec ((el l v4).fKids))) (tn 2 (kn (wrE ((((v4 : Nat) : Int)) + 1) (((v4 + 1 : Nat) : Int)) (by omega)) (tn 1 z)))))))))))))))) (by kernel_rfl) ?_
    exact AG ⟨gv3 + 1 + 1, _, _, by first | omega | assumption | (simp only [lenM_eq]; omega) | (simp; done) | (simp; omega), by omega, rfl, rfl⟩ (WK (by kernel_rfl)) (by kernel_rfl) (Nat.lt_succ_self _)
  · have := lenM_eq aBlock l
    refine GO (kb h1 z) (by kernel_rfl) ?_
    refine OUT (tn 2 z) (by kernel_rfl) ?_
    exact EN (by kernel_rfl)
def lsBN : Nat → (List DBlock) → List DBlock
  | 0, _ => default
  | n + 1, l => lsBS (lsBN n) l
theorem lsBS_eq (rec : (List DBlock) → List DBlock) (l : List DBlock) : lsBS rec l = l.flatMap (fun x => x :: rec x.fKids) := by
  have := loop_flat aBlock l (fun x => x :: rec x.fKids) (lsBS_L0 rec l) (fun n acc i => by rw [lsBS_L0]; simp) ((List.length l - (0)) + 1) [] 0 (by omega)
  rw [lsBS, this]; simp
theorem lsBN_bd : ∀ (n : Nat) (l : List DBlock), wl wBlock l < n → wl wBlock l ≤ 1073741824 → (lsBN n l).length ≤ wl wBlock l
  | 0, l, h, _ => by omega
  | n + 1, l, h, hl => by
    rw [lsBN, lsBS_eq]
    refine flat_len (fun x hx => ?_)
    have h1 := wl_mem (w := wBlock) hx
    have h2 := wBlock_eq x
    have h3 := lsBN_bd n x.fKids (by omega) (by omega)
    simp only [List.length_cons]; omega
theorem lsBN_to : ∀ (n : Nat) (l : List DBlock), wl wBlock l < n → wl wBlock l ≤ 1073741824 → CallTo Tryz.prog 13 [(jL (l.map aBlock))] [] [] (jL ((lsBN n l).map aBlock)) [] []
  | 0, l, h0, _ => absurd h0 (Nat.not_lt_zero _)
  | n + 1, l, h0, hl => by
    exact lsB_st (lsBN n) l hl (fun l' q1 hl' => lsBN_to n l' (by omega) hl') (fun l' q1 hl' => lsBN_bd n l' (by omega) hl')
def lsB (l : List DBlock) : List DBlock := lsBN (wl wBlock l + 1) l
theorem lsB_to (l : List DBlock) (hl : wl wBlock l ≤ 1073741824) : CallTo Tryz.prog 13 [(jL (l.map aBlock))] [] [] (jL ((lsB l).map aBlock)) [] [] := lsBN_to _ l (Nat.lt_succ_self _) hl
theorem lsB_bd (l : List DBlock) (hl : wl wBlock l ≤ 1073741824) : (lsB l).length ≤ wl wBlock l := lsBN_bd _ l (Nat.lt_succ_self _) hl
end Go.Proofs.YtclkkkpkbpdmdaaGreatDoor
namespace Go.Proofs.YtclkkkpkbpdmdaaGreatDoor
open Go Go.Eng
theorem lsBN_mem : ∀ (n : Nat) (l : List DBlock), wl wBlock l < n → ∀ y ∈ lsBN n l, wBlock y ≤ wl wBlock l
  | 0, l, h, y, hy => by omega
  | n + 1, l, h, y, hy => by
    rw [lsBN, lsBS_eq, List.mem_flatMap] at hy
    obtain ⟨x, hx, hy⟩ := hy
    have h1 := wl_mem (w := wBlock) hx
    have h2 := wBlock_eq x
    simp only [List.mem_cons] at hy
    rcases hy with rfl | hy
    · exact h1
    · have := lsBN_mem n x.fKids (by omega) y hy; omega
theorem lsB_mem (l : List DBlock) : ∀ y ∈ lsB l, wBlock y ≤ wl wBlock l := lsBN_mem _ l (Nat.lt_succ_self _)
def wLn (b : DBlock) : Nat := wl wInline b.fLine
theorem lsBN_ln : ∀ (n : Nat) (l : List DBlock), wl wBlock l < n → wl wLn (lsBN n l) ≤ wl wBlock l
  | 0, l, h => by omega
  | n + 1, l, h => by
    rw [lsBN, lsBS_eq]
    refine flat_wl (fun x hx => ?_)
    have h1 := wl_mem (w := wBlock) hx
    have h2 := wBlock_eq x
    have h3 := lsBN_ln n x.fKids (by omega)
    simp only [wl, wLn]; omega
theorem lsB_ln (l : List DBlock) : wl wLn (lsB l) ≤ wl wBlock l := lsBN_ln _ l (Nat.lt_succ_self _)
theorem dpIN_mem : ∀ (n : Nat) (l : List DInline), wl wInline l < n → ∀ y ∈ dpIN n l, wInline y ≤ wl wInline l
  | 0, l, h, y, hy => by omega
  | n + 1, l, h, y, hy => by
    rw [dpIN, dpIS_eq, List.mem_flatMap] at hy
    obtain ⟨x, hx, hy⟩ := hy
    have h1 := wl_mem (w := wInline) hx
    have h2 := wInline_eq x
    simp only [List.mem_cons] at hy
    rcases hy with rfl | hy
    · exact h1
    · have := dpIN_mem n x.fKids (by omega) y hy; omega
theorem dpI_mem (l : List DInline) : ∀ y ∈ dpI l, wInline y ≤ wl wInline l := dpIN_mem _ l (Nat.lt_succ_self _)
def ilsB_L0 (l : List DBlock) : Nat → (List DInline) → Nat → List DInline
  | 0, _, _ => default
  | n0 + 1, v3, v5 => cond (decide ((((v5 : Nat) : Int) : Int) < ((lenM aBlock (lsB l) : Nat) : Int))) (ilsB_L0 l n0 (v3 ++ (dpI ((el (lsB l) v5).fLine))) (v5 + 1)) (v3)
def ilsB (l : List DBlock) : List DInline := ilsB_L0 l ((List.length (lsB l) - (0)) + 1) ([]) 0
set_option maxRecDepth 100000 in
set_option maxHeartbeats 4000000 in
theorem ilsB_to (l : List DBlock) (hl : wl wBlock l ≤ 1073741824) : CallTo Tryz.prog 14 [(jL (l.map aBlock))] [] [] (jL ((ilsB l).map aInline)) [] [] := by
  refine BEG (fun r : List DInline => (jL (r.map aInline))) (ilsB l) Tryz.func14 (by kernel_rfl) ?_
  refine UF (ilsB.eq_1 ..) ?_
  have := lsB_bd l (by first | assumption | omega | decide | (simp; done) | (simp; omega))
  refine GO (tn 3 (kc (lsB_to l (by first | assumption | omega | decide | (simp; done) | (simp; omega))) (tn 2 z))) (by kernel_rfl) ?_
  refine LP (fun N M S => ∃ gv3 : Nat, ∃ v3 : List DInline, ∃ v5 : Nat, (v3.length ≤ wl wLn ((lsB l).take v5)) ∧ (List.length (lsB l) - v5 < N) ∧ M = ilsB_L0 l N v3 v5 ∧ S = (sx 23 [(3, (.own (203, 51) (gv3) 10 (v3.map aInline))), (4, (jL ((lsB l).map aBlock))), (5, (jI (((v5 : Nat) : Int))))] [] [((203, 51), gv3)])) (by kernel_rfl) ⟨0, _, _, by simp [wl], by omega, rfl, rfl⟩ (WKf [(3, (.own (203, 51) ((0)) 10 (([]).map aInline)))] (ac (show ((([]).map aInline) : List AV) = [] ∧ 0 < 51 ∧ ((0) : Nat) = (0) from ⟨rfl, by decide, rfl⟩) an) (by kernel_rfl)) ?_
  rintro n0 M S ⟨gv3, v3, v5, hv, hF0, rfl, rfl⟩
  obtain ⟨n0, rfl⟩ : ∃ k, n0 = k + 1 := ⟨n0 - 1, by omega⟩
  refine UF (ilsB_L0.eq_2 ..) ?_
  refine GO (tn 4 z) (by kernel_rfl) ?_
  refine CSd (fun h1p h1 => ?_) (fun h1p h1 => ?_)
  · have := lenM_eq aBlock (lsB l)
    have hm := lsB_mem l _ (el_mem (l := lsB l) (i := v5) (by omega))
    have hmw := wBlock_eq (el (lsB l) v5)
    have htk := wl_take (w := wLn) (l := lsB l) (i := v5) (by omega)
    have hln := lsB_ln l
    rw [show wLn (el (lsB l) v5) = wl wInline (el (lsB l) v5).fLine from rfl] at htk
    have := dpI_bd ((el (lsB l) v5).fLine) (by first | assumption | omega | decide | (simp; done) | (simp; omega))
    refine GO (kb h1 (tn 3 (ke (el_aBlock (lsB l) v5 (by first | omega | (simp only [lenM_eq, true_and]; omega))) (tn 2 (kc (dpI_to ((el (lsB l) v5).fLine) (by first | assumption | omega | decide | (simp; done) | (simp; omega))) (kp (show (gv3 : Nat) = gv3 ∧ Uni 10 ((dpI ((el (lsB l) v5).fLine)).map aInline) ∧ (((v3.map aInline) : List AV).length + (((dpI ((el (lsB l) v5).fLine)).map aInline) : List AV).length) * 192 ≤ 140737488355328 from ⟨rfl, uni_aInline _, by first | omega | (simp; done) | (simp; omega)⟩) (kw (apL aInline v3 (dpI ((el (lsB l) v5).fLine))) (tn 2 (kn (wrE ((((v5 : Nat) : Int)) + 1) (((v5 + 1 : Nat) : Int)) (by omega)) (tn 1 z)))))))))) (by kernel_rfl) ?_
    exact AG ⟨gv3 + 1, _, _, by first | omega | assumption | (simp only [lenM_eq]; omega) | (simp; done) | (simp; omega), by omega, rfl, rfl⟩ (WK (by kernel_rfl)) (by kernel_rfl) (Nat.lt_succ_self _)
  · have := lenM_eq aBlock (lsB l)
    refine GO (kb h1 z) (by kernel_rfl) ?_
    refine OUT (tn 2 z) (by kernel_rfl) ?_
    exact EN (by kernel_rfl)
theorem ilsB_eq (l : List DBlock) : ilsB l = (lsB l).flatMap (fun b => dpI b.fLine) := by
  have := loop_flat aBlock (lsB l) (fun b => dpI b.fLine) (ilsB_L0 l) (fun n acc i => by rw [ilsB_L0]) ((List.length (lsB l) - (0)) + 1) [] 0 (by omega)
  rw [ilsB, this]; simp
theorem ilsB_mem (l : List DBlock) : ∀ y ∈ ilsB l, wInline y ≤ wl wBlock l := by
  intro y hy
  rw [ilsB_eq, List.mem_flatMap] at hy
  obtain ⟨b, hb, hy⟩ := hy
  have h1 := lsB_mem l b hb
  have h2 := wBlock_eq b
  have h3 := dpI_mem _ y hy
  omega
theorem ilsB_len (l : List DBlock) (hl : wl wBlock l ≤ 1073741824) : (ilsB l).length ≤ wl wBlock l := by
  rw [ilsB_eq]
  refine Nat.le_trans (flat_len (w := wLn) (fun b hb => ?_)) (lsB_ln l)
  have h1 := lsB_mem l b hb
  have h2 := wBlock_eq b
  exact dpI_bd b.fLine (by omega)
end Go.Proofs.YtclkkkpkbpdmdaaGreatDoor
namespace Go.Proofs.YtclkkkpkbpdmdaaGreatDoor
open Go Go.Eng
def plnR_L1 (d : DDoc) (v4 : Nat) (k0 : Nat → Bool) : Nat → Nat → Bool
  | 0, _ => default
  | n1 + 1, w6 => cond (decide ((((w6 : Nat) : Int) : Int) < ((lenM aInline (ilsB d.fBlocks) : Nat) : Int))) (cond (cond ((((el (ilsB d.fBlocks) w6).fKind : Int) == 15)) (true) (cond ((((el (ilsB d.fBlocks) w6).fKind : Int) == 11)) ((getR ((el (ilsB d.fBlocks) w6).fAttr) (⟨#[119, 104, 101, 110]⟩)).2) (false))) (false) (plnR_L1 d v4 k0 n1 (w6 + 1))) (true)
def plnR_L0 (d : DDoc) : Nat → Nat → Bool
  | 0, _ => default
  | n0 + 1, v4 => cond (decide ((((v4 : Nat) : Int) : Int) < ((lenM aBlock (lsB d.fBlocks) : Nat) : Int))) (cond (cond ((((el (lsB d.fBlocks) v4).fKind : Int) == 13)) (cond (cond (eqs ((el (lsB d.fBlocks) v4).fInfo) (⟨#[105, 102]⟩)) (true) (eqs ((el (lsB d.fBlocks) v4).fInfo) (⟨#[109, 97, 99, 114, 111]⟩))) (true) (eqs ((el (lsB d.fBlocks) v4).fInfo) (⟨#[105, 110, 99, 108, 117, 100, 101]⟩))) (false)) (false) (plnR_L0 d n0 (v4 + 1))) (plnR_L1 d v4 (plnR_L0 d n0) ((List.length (ilsB d.fBlocks) - (0)) + 1) 0)
def plnR (d : DDoc) : Bool := plnR_L0 d ((List.length (lsB d.fBlocks) - (0)) + 1) 0
set_option maxRecDepth 100000 in
set_option maxHeartbeats 4000000 in
theorem plnR_to (d : DDoc) (hd : wDoc d ≤ 1073741824) : CallTo Tryz.prog 7 [(.av (cDoc d))] [] [] (jB (plnR d)) [] [] := by
  have hwd := wDoc_eq d
  have hbl := lsB_bd d.fBlocks (by omega)
  have hil := ilsB_len d.fBlocks (by omega)
  refine BEG (fun r : Bool => (jB (r))) (plnR d) Tryz.func7 (by kernel_rfl) ?_
  refine UF (plnR.eq_1 ..) ?_
  have := lsB_bd d.fBlocks (by first | assumption | omega | decide | (simp; done) | (simp; omega))
  refine GO (tn 4 (kc (lsB_to d.fBlocks (by first | assumption | omega | decide | (simp; done) | (simp; omega))) (tn 2 z))) (by kernel_rfl) ?_
  refine LP (fun N M S => ∃ v4 : Nat, (List.length (lsB d.fBlocks) - v4 < N) ∧ M = plnR_L0 d N v4 ∧ S = (sx 83 [(1, (.ptr 1 0)), (3, (jL ((lsB d.fBlocks).map aBlock))), (4, (jI (((v4 : Nat) : Int))))] [(1, (.cells 25 (sDoc d)))] [])) (by kernel_rfl) ⟨_, by omega, rfl, rfl⟩ (WK (by kernel_rfl)) ?_
  rintro n0 M S ⟨v4, hF0, rfl, rfl⟩
  obtain ⟨n0, rfl⟩ : ∃ k, n0 = k + 1 := ⟨n0 - 1, by omega⟩
  refine UF (plnR_L0.eq_2 ..) ?_
  refine GO (tn 4 z) (by kernel_rfl) ?_
  refine CSd (fun h1p h1 => ?_) (fun h1p h1 => ?_)
  · have := lenM_eq aBlock (lsB d.fBlocks)
    refine GO (kb h1 (tn 2 (ke (el_aBlock (lsB d.fBlocks) v4 (by first | omega | (simp only [lenM_eq, true_and]; omega))) (tn 4 (kj ((((el (lsB d.fBlocks) v4).fKind : Int) == 13)) (tn 2 (he (fun h => by have j0 := h.2; have j0p := eq_of_beq j0; exact (el_aBlock (lsB d.fBlocks) v4 (by first | omega | (simp only [lenM_eq, true_and]; omega)))) (tn 4 (kj (eqs ((el (lsB d.fBlocks) v4).fInfo) (⟨#[105, 102]⟩)) z (tn 2 (he (fun h => by have j0 := h.1.2; have j0p := eq_of_beq j0; have j1 := h.2; exact (el_aBlock (lsB d.fBlocks) v4 (by first | omega | (simp only [lenM_eq, true_and]; omega)))) (tn 3 z))) (tn 1 (kj (cond (eqs ((el (lsB d.fBlocks) v4).fInfo) (⟨#[105, 102]⟩)) (true) (eqs ((el (lsB d.fBlocks) v4).fInfo) (⟨#[109, 97, 99, 114, 111]⟩))) z (tn 2 (he (fun h => by have j0 := h.1.2; have j0p := eq_of_beq j0; have j1 := h.2; obtain ⟨j1a, j1o⟩ := cond_tt j1; exact (el_aBlock (lsB d.fBlocks) v4 (by first | omega | (simp only [lenM_eq, true_and]; omega)))) (tn 3 z))) z)))))) z z))))) (by kernel_rfl) ?_
    refine CS (fun h2 => ?_) (fun h2 => ?_)
    · obtain ⟨h2a, h2o⟩ := cond_ff h2
      have h2ap := eq_of_beq h2a
      refine GO (kb h2 (tn 1 z)) (by kernel_rfl) ?_
      refine OUT z (by kernel_rfl) ?_
      exact EN (by kernel_rfl)
    · refine GO (kb h2 (tn 1 (kn (wrE ((((v4 : Nat) : Int)) + 1) (((v4 + 1 : Nat) : Int)) (by omega)) (tn 1 z)))) (by kernel_rfl) ?_
      exact AG ⟨_, by omega, rfl, rfl⟩ (WK (by kernel_rfl)) (by kernel_rfl) (Nat.lt_succ_self _)
  · have := lenM_eq aBlock (lsB d.fBlocks)
    refine GO (kb h1 z) (by kernel_rfl) ?_
    refine OUT (tn 2 (kc (ilsB_to d.fBlocks (by first | assumption | omega | decide | (simp; done) | (simp; omega))) (tn 2 z))) (by kernel_rfl) ?_
    refine LP (fun N M S => ∃ w6 : Nat, (List.length (ilsB d.fBlocks) - w6 < N) ∧ M = plnR_L1 d v4 (plnR_L0 d n0) N w6 ∧ S = (sx 83 [(5, (jL ((ilsB d.fBlocks).map aInline))), (6, (jI (((w6 : Nat) : Int))))] [] [])) (by kernel_rfl) ⟨_, by omega, rfl, rfl⟩ (WK (by kernel_rfl)) ?_
    rintro n1 M S ⟨w6, hF1, rfl, rfl⟩
    obtain ⟨n1, rfl⟩ : ∃ k, n1 = k + 1 := ⟨n1 - 1, by omega⟩
    refine UF (plnR_L1.eq_2 ..) ?_
    refine GO (tn 4 z) (by kernel_rfl) ?_
    refine CSd (fun h3p h3 => ?_) (fun h3p h3 => ?_)
    · have := lenM_eq aInline (ilsB d.fBlocks)
      have hm := ilsB_mem d.fBlocks _ (el_mem (l := ilsB d.fBlocks) (i := w6) (by omega))
      have hmw := wInline_eq (el (ilsB d.fBlocks) w6)
      have hmA := wAttr_eq (el (ilsB d.fBlocks) w6).fAttr
      have hmp := wl_len (w := wPair) wPair_pos (el (ilsB d.fBlocks) w6).fAttr.fPairs
      refine GO (kb h3 (tn 2 (ke (el_aInline (ilsB d.fBlocks) w6 (by first | omega | (simp only [lenM_eq, true_and]; omega))) (tn 2 (kc (getR_to ((el (ilsB d.fBlocks) w6).fAttr) (⟨#[119, 104, 101, 110]⟩) (by first | assumption | omega | decide | (simp; done) | (simp; omega))) (tn 7 (ke (el_aInline (ilsB d.fBlocks) w6 (by first | omega | (simp only [lenM_eq, true_and]; omega))) (tn 4 (kj ((((el (ilsB d.fBlocks) w6).fKind : Int) == 15)) z (tn 2 (he (fun h => by have j0 := h.2; have j0p := ne_of_beq_false j0; exact (el_aInline (ilsB d.fBlocks) w6 (by first | omega | (simp only [lenM_eq, true_and]; omega)))) (tn 4 (kj ((((el (ilsB d.fBlocks) w6).fKind : Int) == 11)) (tn 1 z) z z)))) z))))))))) (by kernel_rfl) ?_
      refine CS (fun h4 => ?_) (fun h4 => ?_)
      · refine GO (kb h4 (tn 1 z)) (by kernel_rfl) ?_
        refine OUT z (by kernel_rfl) ?_
        exact EN (by kernel_rfl)
      · obtain ⟨h4a, h4o⟩ := cond_tt h4
        have h4ap := ne_of_beq_false h4a
        refine GO (kb h4 (tn 1 (kn (wrE ((((w6 : Nat) : Int)) + 1) (((w6 + 1 : Nat) : Int)) (by omega)) (tn 1 z)))) (by kernel_rfl) ?_
        exact AG ⟨_, by omega, rfl, rfl⟩ (WK (by kernel_rfl)) (by kernel_rfl) (Nat.lt_succ_self _)
    · have := lenM_eq aInline (ilsB d.fBlocks)
      refine GO (kb h3 z) (by kernel_rfl) ?_
      refine OUT (tn 1 z) (by kernel_rfl) ?_
      exact EN (by kernel_rfl)
end Go.Proofs.YtclkkkpkbpdmdaaGreatDoor
namespace Go.Eng
variable {P : Program}
theorem WO_sound {ops : Array Oper} {o : Oper} {rest : List Oper} {Q : St → Prop} {S : St} {r : Res} (hg : o.guard = none) (hs : Sound P o S r) (hok : r.ok) (h : WO P ops rest Q (r.st.put o.dst r.v)) : WO P ops (o :: rest) Q S := by
  refine WO_op (fun G w a hr => wanted_none hg a) (fun G w a hr Q' next hn => ?_) h
  obtain ⟨nx, v, w', G', h1, h2, h3, h4, h5, h6⟩ := hs hok G w a hr
  unfold Oper.wp
  rw [h1]
  rcases h2 with rfl | ⟨rfl, rfl⟩
  · rw [Oper.upon_value]; exact hn G' _ w' h3 (h4.put o.dst h5) h6
  · rw [Oper.upon_skip]; exact hn G' _ w' h3 (h4.put o.dst h5) h6
theorem run_eq_nil {t e : TypeId} (ht : P.underlying t = some (.slice e)) (w : World) (a : Option Addr) (n c n' c' : Nat) : (binOp .eql t (.slice a n c) (.slice none n' c')).run P w = .ok (.bool a.isNone) w := by
  have h : (Op.equal t (.slice a n c) (.slice none n' c')).run P w = .ok a.isNone w := by
    rw [show Op.equal t (.slice a n c) (.slice none n' c') = Op.equalIn (9999 + 1) t (.slice a n c) (.slice none n' c') from rfl]
    unfold Op.equalIn
    cases a <;> simp [run_underlying' ht]
  simp [binOp, h]
/-- A slice is held against nil: if it is nil, then it is empty. -/
theorem WO_isnil {ops : Array Oper} {o : Oper} {rest : List Oper} {Q : St → Prop} {S : St} {t t' e : TypeId} {x : Operand} {l : List AV} (ho : o.op = .binOp .eql t x (.const (.slice none 0 0)) t') (hg : o.guard = none) (ht : P.underlying t = some (.slice e)) (hx : S.ev x = .av (.sl l))
    (h : ∀ b : Bool, (b = true → l = []) → WO P ops rest Q (S.put o.dst (.av (.val (.bool b))))) : WO P ops (o :: rest) Q S := by
  intro more Q' G w a hr hq
  have hxr := hr.ev x
  rw [hx] at hxr
  simp only [RepS, Rep] at hxr
  obtain ⟨ad, cap, es, sz, hu, h1, h2, h3, h4⟩ := hxr
  have hbl : ad.isNone = true → l = [] := by
    intro hn
    have : es = [] := h3 (by simpa using hn)
    subst this
    exact List.length_eq_zero_iff.1 (by have := h1.length; simpa using this.symm)
  have he : (execOp a.eval o).run P w = .ok (.value (.bool ad.isNone)) w := by
    have e1 := run_eq_nil ht w ad l.length cap 0 0
    have e2 : (eqGuard .eql t x (.const (.slice none 0 0)) (.slice ad l.length cap) (.slice none 0 0)).run P w = .ok () w := by
      unfold eqGuard
      simp
    have e3 : a.eval (.const (.slice none 0 0)) = .slice none 0 0 := rfl
    simp only [execOp, ho, hu, e3, Sem.run_bind, e2, e1, Result.andThen_ok]
    rfl
  simp only [List.cons_append, wpList]
  rw [if_pos (wanted_none hg a)]
  refine .inl ?_
  unfold Oper.wp
  rw [he, Oper.upon_value]
  exact h ad.isNone hbl more Q' G w _ (hr.put o.dst ⟨rfl, rfl⟩) hq
theorem step_tok0 {G : Gh} {w : World} (hw : Wf G w) (o : Obj) {k : Key} (hk0 : 0 < k.2) (n : Nat) :
    Step G w ((G.setU w.heap.size n).next k w.heap.size) (w.alloc o) ∧ Wf ((G.setU w.heap.size n).next k w.heap.size) (w.alloc o) ∧
      ∀ κ, κ ≠ k → Keep G w ((G.setU w.heap.size n).next k w.heap.size) (w.alloc o) κ := by
  obtain ⟨s1, s2, s3⟩ := step_alloc hw o n
  have how : ∀ κ b, (if κ = k then some w.heap.size else G.ow κ) = some b → (κ = k ∧ b = w.heap.size) ∨ (κ ≠ k ∧ G.ow κ = some b) := by
    intro κ b h
    split at h
    · rename_i hk; simp at h; exact .inl ⟨hk, h.symm⟩
    · rename_i hk; exact .inr ⟨hk, h⟩
  have hkp : ∀ κ, κ ≠ k → Keep G w ((G.setU w.heap.size n).next k w.heap.size) (w.alloc o) κ := fun κ hκ => ⟨by simp only [Gh.next]; rw [if_neg hκ]; rfl, fun b hb => (s3 κ).2 b hb⟩
  refine ⟨⟨⟨s1.U, ⟨s1.imm.cell, s1.imm.map⟩, s1.size, s1.os, s1.tape, s1.output, s1.cp, fun κ => ?_, fun κ _ hg => ?_⟩, s1.stay, fun κ b h => ?_⟩, ⟨fun κ κ' b h h' => ?_, fun κ b h => ?_, s2.zero⟩, hkp⟩
  · simp only [Gh.next, Gh.setU]; split <;> omega
  · refine hkp κ (fun e => ?_)
    simp only [Gh.next, Gh.setU, if_pos e] at hg; omega
  · rcases how κ b h with ⟨_, rfl⟩ | ⟨_, h1⟩
    · exact .inr (Nat.le_refl _)
    · exact .inl ⟨κ, h1⟩
  · rcases how κ b h with ⟨h1, h2⟩ | ⟨h1, h2⟩ <;> rcases how κ' b h' with ⟨h3, h4⟩ | ⟨h3, h4⟩
    · rw [h1, h3]
    · have := hw.lt κ' b h4; omega
    · have := hw.lt κ b h2; omega
    · exact hw.inj κ κ' b h2 h4
  · rcases how κ b h with ⟨_, rfl⟩ | ⟨_, h1⟩
    · simp
    · have := hw.lt κ b h1; simp; omega
/-- An empty slice that is made: it may be appended to. -/
theorem sound_build0 {o : Oper} {S : St} {t e : TypeId} {sz bt : Nat} {z : Value} (d : Nat) (ho : o.op = .buildSlice t 0 #[]) (ht : tElem P t = some e) (hi : tInfo P e = some (sz, bt, some z)) : Sound P o S ⟨True, .own (d, e + 1) (S.gen (d, e + 1) + 1) sz [], S.next (d, e + 1)⟩ := by
  intro _ G w a hr
  have ht' : P.underlying t = some (.slice e) := by
    unfold tElem at ht; split at ht
    · rename_i hh; simp at ht; subst ht; exact hh
    · simp at ht
  have hk0 : 0 < ((d, e + 1) : Key).2 := Nat.succ_pos e
  have hk2 : ∀ κ : Key, κ.2 = 0 → κ ≠ (d, e + 1) := by intro κ h0 he; rw [he] at h0; simp at h0
  obtain ⟨s1, s2, s3⟩ := step_tok0 hr.wf (.cells #[] e) hk0 0
  refine ⟨_, .slice (some ⟨w.heap.size, 0, none⟩) 0 0, w.alloc (.cells #[] e), _, ?_, .inl rfl, s1, hr.nextTok s1.toExt s2 (fun κ h0 => s3 κ (hk2 κ h0)) (next_gen (G := G.setU _ _) hr.gn _ _), ?_, fun i _ => by simp only [Gh.next, Gh.setU]; rw [if_neg (hk2 (i, 0) rfl)]⟩
  · simp only [execOp, ho, Instr.buildSlice, Sem.run_bind, run_underlying' ht', Result.andThen_ok, run_sizeOf' hi]
    simp [newRow, Instr.fill]
    congr 2
    apply Array.ext'
    simp
  · have hg : G.gen (d, e + 1) = S.gen (d, e + 1) := hr.gn _
    refine ⟨hk0, by simp only [Gh.next, Gh.setU, if_true]; omega, some ⟨w.heap.size, 0, none⟩, 0, [], rfl, by simp [RepL], by simp, by simp, by simp, by simp, .inl (by simp [vcells]), fun _ => .inr ⟨w.heap.size, 0, #[], e, rfl, by simp [Gh.next], heap_alloc_new w _, by simp, by simp [Gh.next, Gh.setU], rfl, rfl⟩⟩
theorem append_own_step {o : Oper} {S : St} {t e d : TypeId} {sz bt : Nat} {z : Value} {x y : Operand} {k : Key} {g : Nat} {l l' : List AV} (ho : o.op = .call { callee := .builtin .append, args := #[x, y], argTypes := #[t, t] }) (hd : o.dst = some d) (hx : S.ev x = .own k g sz l) (hy : (S.ev y).toAV = some (.sl l')) (hk : e + 1 = k.2)
    (ht : tElem P t = some e) (hi : tInfo P e = some (sz, bt, some z)) (hz : z.cells.size = sz) (hbt : 0 < bt) (h2 : notInt P t = true) :
    astep P o S = some ⟨S.gen k = g ∧ Uni sz l' ∧ (l.length + l'.length) * bt ≤ 140737488355328, .own k (g + 1) sz (l ++ l'), S.next k⟩ := by
  unfold astep
  rw [ho]
  simp only [aBuiltin]
  unfold aAppend
  rw [ht, hd]
  simp only [hi]
  rw [if_pos ⟨hz, hbt, h2⟩]
  simp only [aSrc, hy, hx]
  rw [if_pos ⟨trivial, hk⟩]
/-- slices.Clone: the elements of the slice. -/
theorem clone_to {f : FuncId} {fn : Func} {t e : TypeId} {sz bt : Nat} {z : Value} {i0 i1 i2 i3 : Nat} {a0 b0 b1 c0 d0 d1 d2 d3 : Oper} {t' : TypeId} (hf : P.funcs[f]? = some fn)
    (hb : fn.body = some (.seq (.region i0 #[a0] false) (.seq (.seq (.region i1 #[b0, b1] false) (.cond (.tmp 4) (.seq (.region i2 #[c0] false) .ret) .skip)) (.seq (.region i3 #[d0, d1, d2, d3] false) .ret))))
    (hname : (fn.name == "runtime.NumGoroutine") = false) (hn : fn.ntmps = 8) (hres : fn.results.toList = [.tmp 2])
    (ha0 : a0.op = .assign (.const (.slice none 0 0)) ∧ a0.dst = some 2 ∧ a0.guard = none) (hb0 : b0.op = .move (.tmp 0) ∧ b0.dst = some 3 ∧ b0.guard = none) (hb1 : b1.op = .binOp .eql t (.tmp 3) (.const (.slice none 0 0)) t' ∧ b1.dst = some 4 ∧ b1.guard = none)
    (hc0 : c0.op = .assign (.const (.slice none 0 0)) ∧ c0.dst = some 2 ∧ c0.guard = none) (hd0 : d0.op = .buildSlice t 0 #[] ∧ d0.dst = some 5 ∧ d0.guard = none) (hd1 : d1.op = .move (.tmp 0) ∧ d1.dst = some 6 ∧ d1.guard = none)
    (hd2 : d2.op = .call { callee := .builtin .append, args := #[.tmp 5, .tmp 6], argTypes := #[t, t] } ∧ d2.dst = some 7 ∧ d2.guard = none) (hd3 : d3.op = .assign (.tmp 7) ∧ d3.dst = some 2 ∧ d3.guard = none)
    (ht : tElem P t = some e) (hi : tInfo P e = some (sz, bt, some z)) (hz : z.cells.size = sz) (hbt : 0 < bt) (l : List AV) (hu : Uni sz l) (hl : l.length * bt ≤ 140737488355328) :
    CallTo P f [.av (.sl l)] [] [] (.av (.sl l)) [] [] := by
  have ht' : P.underlying t = some (.slice e) := by
    unfold tElem at ht; split at ht
    · rename_i hh; simp at ht; subst ht; exact hh
    · simp at ht
  have h2 : notInt P t = true := by unfold notInt; rw [ht']
  refine CallTo_of_body hf hb hname hn (by simp) (by simp) (by simp) (by intro s hs; simp at hs; subst hs; exact ok_av rfl _ _) (by simp) (ok_av rfl _ _) (by simp) rfl rfl ?_
  have hend : ∀ (S : St) (s : SV), S.fr[2]? = some s → s.norm = .av (.sl l) → Ends P fn (.av (.sl l)) [] [] .ret S := by
    intro S s h1 h3
    refine ⟨⟨false, ?_⟩, by simp, by simp⟩
    unfold aRes
    rw [hres]
    simp [aRes1, h1, h3]
  refine W_seq (W_regionO ?_)
  refine WO_sound ha0.2.2 (sound_move (.inr ha0.1)) trivial ?_
  rw [ha0.2.1]
  refine WO_nil rfl ?_
  refine W_seq (W_seq (W_regionO ?_))
  refine WO_sound hb0.2.2 (sound_move (.inl hb0.1)) trivial ?_
  rw [hb0.2.1]
  refine WO_isnil (l := l) hb1.1 hb1.2.2 ht' rfl (fun b hb => ?_)
  rw [hb1.2.1]
  refine WO_nil rfl ?_
  refine W_cond (b := b) rfl ?_
  cases b with
  | true =>
    have hl0 := hb rfl
    subst hl0
    simp only [if_true]
    refine W_seq (W_regionO ?_)
    refine WO_sound hc0.2.2 (sound_move (.inr hc0.1)) trivial ?_
    rw [hc0.2.1]
    refine WO_nil rfl ?_
    exact W_ret (hend _ .nil rfl rfl)
  | false =>
    simp only [Bool.false_eq_true, if_false]
    refine W_skip ?_
    refine W_seq (W_regionO ?_)
    refine WO_sound hd0.2.2 (sound_build0 5 hd0.1 ht hi) trivial ?_
    rw [hd0.2.1]
    refine WO_sound hd1.2.2 (sound_move (.inl hd1.1)) trivial ?_
    rw [hd1.2.1]
    show WO P _ [d2, d3] _ ⟨[.av (.sl l), .junk, .nil, .av (.sl l), .av (.val (.bool false)), .own (5, e + 1) 1 sz [], .av (.sl l), .junk], [], [((5, e + 1), 1)]⟩
    refine WO_sound hd2.2.2 (astep_sound (append_own_step hd2.1 hd2.2.1 rfl rfl rfl ht hi hz hbt h2)) ⟨by simp [St.gen], hu, by simpa using hl⟩ ?_
    rw [hd2.2.1]
    refine WO_sound hd3.2.2 (sound_move (.inr hd3.1)) trivial ?_
    rw [hd3.2.1]
    refine WO_nil rfl ?_
    exact W_ret (hend _ (.own (5, e + 1) 2 sz l) rfl rfl)
end Go.Eng
namespace Go.Eng
variable {P : Program}
section
variable {t t2 ty e : TypeId} {sz bt : Nat} {z : Value}
end
theorem setRow_alloc (w : World) (arr arr' : Array Value) (e : TypeId) : (w.alloc (.cells arr e)).setRow w.heap.size arr' = w.alloc (.cells arr' e) := by
  have h : ((w.alloc (.cells arr e)).setRow w.heap.size arr').heap = (w.alloc (.cells arr' e)).heap := by
    apply Array.ext_getElem?
    intro i
    by_cases hi : i = w.heap.size
    · subst hi; rw [setRow_heap _ _ arr arr' e _ (heap_alloc_new w _), heap_alloc_new w _]
    · rw [setRow_other _ _ _ _ hi]
      rcases Nat.lt_or_ge i w.heap.size with h | h
      · rw [heap_alloc_lt w _ h, heap_alloc_lt w _ h]
      · rw [Array.getElem?_eq_none (by simp; omega), Array.getElem?_eq_none (by simp; omega)]
  exact congrArg (fun h => ({ w with heap := h } : World)) h
theorem setRow_setRow (w : World) (b : Nat) (arr arr' : Array Value) : (w.setRow b arr).setRow b arr' = w.setRow b arr' := by
  have h : ((w.setRow b arr).setRow b arr').heap = (w.setRow b arr').heap := by
    apply Array.ext_getElem?
    intro i
    simp only [World.setRow, Array.getElem?_modify]
    split
    · cases w.heap[i]? with
      | none => rfl
      | some o => cases o <;> rfl
    · rfl
  exact congrArg (fun h => ({ w with heap := h } : World)) h
/-- What is left after a slice of the call's own was moved. -/
theorem own_grown {G : Gh} {w : World} {S : St} {a : Act} {k : Key} {g sz e cap : Nat} {ad : Option Addr} {l l' : List AV} {es es' : List Value} (hr : Rel G w S a) (hk0 : 0 < k.2) (hke : e + 1 = k.2) (hgg : G.gen k = g)
    (g2 : RepL G.U w l es) (g3 : ∀ e ∈ es, e.cells.size = sz) (g5 : Lies G.U w ad (vcells es)) (hx : RepL G.U w l' es') (hu : Uni sz l') {nc : Nat} {rest : List Value} (q1 : l.length + l'.length ≤ nc) (q2 : rest.length = (nc - (l.length + l'.length)) * sz) :
    ∃ G', Step G w G' (w.drew.alloc (.cells (vcells es ++ vcells es' ++ rest).toArray e)) ∧ Rel G' (w.drew.alloc (.cells (vcells es ++ vcells es' ++ rest).toArray e)) (S.next k) a ∧
      RepS G' (w.drew.alloc (.cells (vcells es ++ vcells es' ++ rest).toArray e)) (.own k (g + 1) sz (l ++ l')) (.slice (some ⟨w.heap.size, 0, none⟩) (l.length + l'.length) nc) ∧ ∀ i, G'.ow (i, 0) = G.ow (i, 0) := by
  have hes' := hu.sizes hx
  have h1' := hx.cells hu
  have hkne : ∀ i : Nat, ((i, 0) : Key) ≠ k := by intro i he; rw [← he] at hk0; simp at hk0
  have hk2 : ∀ κ : Key, κ.2 = 0 → κ ≠ k := by intro κ h0 he; rw [he] at h0; omega
  have hl1 := vcells_length es g3
  have hl2 := vcells_length es' hes'
  have hll := g2.length
  have hll' := hx.length
  have hcellsOld : ∀ c ∈ vcells es, c.oneCell' = true := by
    rcases g5 with h | ⟨_, _, _, _, h3⟩
    · rw [h]; simp
    · intro c hc
      obtain ⟨j, hj⟩ := List.mem_iff_getElem?.1 hc
      exact (h3 j c hj).2
  have hsz : ∀ e ∈ es ++ es', e.cells.size = sz := by
    intro e he; rcases List.mem_append.1 he with h | h
    · exact g3 e h
    · exact hes' e h
  obtain ⟨s1, s2, s3⟩ := step_tok hr.wf (.cells (vcells es ++ vcells es' ++ rest).toArray e) hk0 (vcells (es ++ es')).length
  refine ⟨_, s1, hr.nextTok s1.toExt s2 (fun κ h0 => s3 κ (hk2 κ h0)) (next_gen (G := G.setU _ _) hr.gn k _), ?_, fun i => by simp only [Gh.next, Gh.setU]; rw [if_neg (hkne i)]⟩
  refine ⟨hk0, by simp only [Gh.next, Gh.setU, if_true]; omega, some ⟨w.heap.size, 0, none⟩, nc, es ++ es', by simp, ?_, hsz, by simpa using q1, by simp, by simp, ?_, fun _ => .inr ⟨w.heap.size, 0, _, e, rfl, by simp [Gh.next], heap_alloc_new w.drew _, ?_, ?_, rfl, hke⟩⟩
  · exact RepL.mono s1.U s1.imm _ _ (g2.append hx)
  · have := Lies_new (w := w.drew) (cs := vcells (es ++ es')) (rest := rest) (e := e) (n := (vcells (es ++ es')).length) G.U (by rw [vcells_append]; intro c hc; rcases List.mem_append.1 hc with h | h; exact hcellsOld c h; exact h1' c h) rfl
    rw [vcells_append] at this ⊢
    exact this
  · simp only [Nat.zero_add, List.size_toArray, List.length_append, hl1, hl2, hll, hll', q2]
    rw [← Nat.add_mul, ← Nat.add_mul]
    exact Nat.mul_le_mul_right _ (by omega)
  · simp only [Gh.next, Gh.setU, if_true, Nat.zero_add]
    rw [vcells_length _ hsz]; simp [hll, hll']
/-- What is left after elements were laid behind a slice of the call's own. -/
theorem own_room {G : Gh} {w : World} {S : St} {a : Act} {k : Key} {g sz cap b off e' : Nat} {arr : Array Value} {l l' : List AV} {es es' : List Value} (hr : Rel G w S a) (hk0 : 0 < k.2) (hgg : G.gen k = g)
    (g2 : RepL G.U w l es) (g3 : ∀ e ∈ es, e.cells.size = sz) (g5 : Lies G.U w (some ⟨b, off, none⟩) (vcells es)) (o1 : G.ow k = some b) (o2 : w.heap[b]? = some (.cells arr e' (0, 0))) (o3 : off + cap * sz ≤ arr.size) (o4 : G.U b = off + l.length * sz) (o5 : off = 0 ∧ e' + 1 = k.2)
    (hx : RepL G.U w l' es') (hu : Uni sz l') (hle : l.length + l'.length ≤ cap) :
    ∃ G', Step G w G' (w.setRow b (arr.toList.take (off + l.length * sz) ++ vcells es' ++ arr.toList.drop (off + l.length * sz + (vcells es').length)).toArray) ∧
      Rel G' (w.setRow b (arr.toList.take (off + l.length * sz) ++ vcells es' ++ arr.toList.drop (off + l.length * sz + (vcells es').length)).toArray) (S.next k) a ∧
      RepS G' (w.setRow b (arr.toList.take (off + l.length * sz) ++ vcells es' ++ arr.toList.drop (off + l.length * sz + (vcells es').length)).toArray) (.own k (g + 1) sz (l ++ l')) (.slice (some ⟨b, off, none⟩) (l.length + l'.length) cap) ∧ ∀ i, G'.ow (i, 0) = G.ow (i, 0) := by
  have hes' := hu.sizes hx
  have h1' := hx.cells hu
  have hkne : ∀ i : Nat, ((i, 0) : Key) ≠ k := by intro i he; rw [← he] at hk0; simp at hk0
  have hk2 : ∀ κ : Key, κ.2 = 0 → κ ≠ k := by intro κ h0 he; rw [he] at h0; omega
  have hl1 := vcells_length es g3
  have hl2 := vcells_length es' hes'
  have hll := g2.length
  have hll' := hx.length
  have hcellsOld : ∀ c ∈ vcells es, c.oneCell' = true := by
    rcases g5 with h | ⟨_, _, _, _, h3⟩
    · rw [h]; simp
    · intro c hc
      obtain ⟨j, hj⟩ := List.mem_iff_getElem?.1 hc
      exact (h3 j c hj).2
  have hsz : ∀ e ∈ es ++ es', e.cells.size = sz := by
    intro e he; rcases List.mem_append.1 he with h | h
    · exact g3 e h
    · exact hes' e h
  have hmul : (l.length + l'.length) * sz ≤ cap * sz := Nat.mul_le_mul_right _ hle
  rw [Nat.add_mul] at hmul
  obtain ⟨s1, s2, s3⟩ := step_room hr.wf hk0 o1 o2 (off + (l.length + l'.length) * sz) (by rw [o4, Nat.add_mul]; omega) (arr.toList.take (off + l.length * sz) ++ vcells es' ++ arr.toList.drop (off + l.length * sz + (vcells es').length)).toArray
    (fun j hj => by
      rw [o4] at hj
      have : j < (arr.toList.take (off + l.length * sz)).length := by simp; omega
      simp only [List.getElem?_toArray]
      rw [List.append_assoc, List.getElem?_append_left this, List.getElem?_take, if_pos hj]
      simp)
  refine ⟨_, s1, hr.nextTok s1.toExt s2 (fun κ h0 => s3 κ (hk2 κ h0)) (next_gen (G := G.setU _ _) hr.gn k _), ?_, fun i => by simp only [Gh.next, Gh.setU]; rw [if_neg (hkne i)]⟩
  refine ⟨hk0, by simp only [Gh.next, Gh.setU, if_true]; omega, some ⟨b, off, none⟩, cap, es ++ es', by simp, RepL.mono s1.U s1.imm _ _ (g2.append hx), hsz, by simpa using hle, by simp, by simp, ?_, fun _ => .inr ⟨b, off, _, e', rfl, by simp [Gh.next], setRow_heap w b arr _ e' _ o2, ?_, ?_, o5⟩⟩
  · rw [vcells_append]
    by_cases hzz : vcells es ++ vcells es' = []
    · exact .inl hzz
    · refine .inr ⟨b, off, rfl, ?_, fun j v hj => ⟨?_, ?_⟩⟩
      · simp only [Gh.next, Gh.setU, if_true, List.length_append, hl1, hl2, hll, hll', Nat.add_mul]; omega
      · simp only [World.cell?, setRow_heap w b arr _ e' _ o2]
        rcases Nat.lt_or_ge j (vcells es).length with hjl | hjl
        · rw [List.getElem?_append_left hjl] at hj
          have hold : w.cell? ⟨b, off + j, none⟩ = some v := by
            rcases g5 with h | ⟨b', off', q1, q2, q3⟩
            · rw [h] at hjl; simp at hjl
            · simp at q1; obtain ⟨rfl, rfl⟩ := q1; exact (q3 j v hj).1
          simp only [World.cell?, o2] at hold
          simp at hold
          have hlt : off + j < off + l.length * sz := by rw [hl1, hll] at hjl; omega
          have : off + j < (arr.toList.take (off + l.length * sz)).length := by simp; omega
          simp only [List.getElem?_toArray]
          rw [List.append_assoc, List.getElem?_append_left this, List.getElem?_take, if_pos hlt]
          simpa using hold
        · rw [List.getElem?_append_right hjl] at hj
          have htl : (arr.toList.take (off + l.length * sz)).length = off + l.length * sz := by simp; omega
          have hjj : j - (vcells es).length < (vcells es').length := by
            rcases Nat.lt_or_ge (j - (vcells es).length) (vcells es').length with h | h
            · exact h
            · simp [List.getElem?_eq_none h] at hj
          have hq : (vcells es).length = l.length * sz := by rw [hl1, hll]
          have hjj2 : off + j - (off + l.length * sz) < (vcells es').length := by omega
          simp only [List.getElem?_toArray]
          rw [List.append_assoc, List.getElem?_append_right (by rw [htl]; omega), htl, List.getElem?_append_left hjj2]
          rw [show off + j - (off + l.length * sz) = j - (vcells es).length by omega]
          simpa using hj
      · have := List.mem_of_getElem? hj
        rcases List.mem_append.1 this with h | h
        · exact hcellsOld v h
        · exact h1' v h
  · simp only [List.size_toArray, List.length_append, List.length_take, List.length_drop, Array.length_toList, hl2, hll']; omega
  · simp only [Gh.next, Gh.setU, if_true, List.length_append]
theorem splice_splice {α : Type} (A z x : List α) (p : Nat) (hp : p ≤ A.length) (hz : z.length = x.length) :
    (A.take p ++ z ++ A.drop (p + z.length)).take p ++ x ++ (A.take p ++ z ++ A.drop (p + z.length)).drop (p + x.length) = A.take p ++ x ++ A.drop (p + x.length) := by
  have htl : (A.take p).length = p := by simp; omega
  rw [List.append_assoc (A.take p) z, List.take_left' htl]
  congr 1
  have : p + x.length = (A.take p).length + z.length := by rw [htl, hz]
  rw [this, List.drop_append, List.drop_eq_nil_of_le (by omega), List.nil_append, Nat.add_sub_cancel_left, List.drop_left' rfl, htl]
/-- What append of a zero element and a store over it lead to. -/
def PushTo (P : Program) (G : Gh) (w : World) (S : St) (a : Act) (k : Key) (g sz : Nat) (l : List AV) (x : AV) (u v0 vx : Value) (ty t : TypeId) : Prop :=
  ∃ b cap w1 arr1 arr2 e1 G', (Builtin.append_ #[t, t] ty #[u, v0]).run P w = .ok (.slice (some ⟨b, 0, none⟩) (l.length + 1) cap) w1 ∧ w1.heap[b]? = some (.cells arr1 e1 (0, 0)) ∧
    (∀ W : World, W.heap[b]? = some (.cells arr1 e1 (0, 0)) → (storeCells ⟨b, l.length * sz, none⟩ vx.cells.toList).run P W = .ok () (W.setRow b arr2)) ∧ Step G w G' (w1.setRow b arr2) ∧ Rel G' (w1.setRow b arr2) (S.next k) a ∧
    RepS G' (w1.setRow b arr2) (.own k (g + 1) sz (l ++ [x])) (.slice (some ⟨b, 0, none⟩) (l.length + 1) cap) ∧ (∀ i, G'.ow (i, 0) = G.ow (i, 0)) ∧ ∀ κ c, κ ≠ k → G.ow κ = some c → c ≠ b ∧ w1.heap[c]? = w.heap[c]?
/-- A zero element is appended and then written. -/
theorem push_own {t ty e : TypeId} {sz bt : Nat} {z : Value} (ht : tElem P t = some e) (h2 : notInt P t = true) (hi : tInfo P e = some (sz, bt, some z)) (hz : z.cells.size = sz) (hbt : 0 < bt)
    {G : Gh} {w : World} {S : St} {a : Act} {k : Key} {g : Nat} {l : List AV} {x0 x : AV} {u v0 vx : Value} {es0 : List Value} (hr : Rel G w S a) (hown : RepS G w (.own k g sz l) u) (hke : e + 1 = k.2) (hgen : S.gen k = g) (h0 : Src P w G.U sz v0 [x0] es0) (hu0 : Uni sz [x0])
    (hx : Rep G.U w x vx) (hux : Uni sz [x]) (hb : (l.length + 1) * bt ≤ 140737488355328) :
    PushTo P G w S a k g sz l x u v0 vx ty t := by
  obtain ⟨hk0, hgle, ad, cap, es, rfl, g2, g3, g4, gn, gsp, g5, g6⟩ := hown
  have hgg : G.gen k = g := by rw [hr.gn k]; exact hgen
  have g6 := g6 hgg
  have hes0 := hu0.sizes h0.rep
  have hrx : RepL G.U w [x] [vx] := by simp only [RepL]; exact ⟨vx, [], rfl, hx, rfl⟩
  have hvx := hux.sizes hrx
  have hcx := hrx.cells hux
  have hc0 := h0.rep.cells hu0
  have hl1 := vcells_length es g3
  have hl0 := vcells_length es0 hes0
  have hlx := vcells_length [vx] hvx
  have hll := g2.length
  have hll0 := h0.rep.length
  have e0 : es0.length = 1 := by simpa using hll0
  have hvv : vcells [vx] = vx.cells.toList := by simp [vcells]
  rw [e0] at hl0
  simp only [List.length_singleton] at hlx
  have hl0x : (vcells es0).length = (vcells [vx]).length := by omega
  have grow : cap < l.length + 1 → (ad = none → es = []) → PushTo P G w S a k g sz l x (.slice ad l.length cap) v0 vx ty t := by
    intro hlt hn
    obtain ⟨nc, rest, q1, q2, q3⟩ := run_append_grow (ty := ty) ht h2 hi hz hbt (w := w) (a := ad) (n := l.length) (cap := cap) (m := 1) (x := v0) (olds := vcells es) (news := vcells es0) (h0.len w rfl)
      (fun w' hw => first_of_lies g5 g3 hll hn w' hw) (fun w' hw => h0.cells w' hw) hlt hb
    obtain ⟨G', s1, s2, s3, s4⟩ := own_grown (rest := rest) (nc := nc) (cap := cap) hr hk0 hke hgg g2 g3 g5 hrx hux (by simpa using q1) (by simpa using q2)
    have htl : (vcells es).length = l.length * sz := by rw [hl1, hll]
    have hst : ∀ W : World, W.heap[w.heap.size]? = some (.cells (vcells es ++ vcells es0 ++ rest).toArray e (0, 0)) → (storeCells ⟨w.heap.size, l.length * sz, none⟩ vx.cells.toList).run P W = .ok () (W.setRow w.heap.size (vcells es ++ vcells [vx] ++ rest).toArray) := by
      intro W hW
      have hst := run_storeCells_at (P := P) w.heap.size (l.length * sz) e (vcells [vx]) 0 (vcells es ++ vcells es0 ++ rest).toArray W hW (by simp only [List.size_toArray, List.length_append, hl1, hll]; omega) hcx
      simp only [Nat.add_zero] at hst
      rw [hvv] at hst
      rw [hst]
      congr 3
      rw [hvv] at hl0x
      rw [List.append_assoc (vcells es), List.take_left' htl, hvv]
      congr 1
      rw [← htl, List.drop_append, List.drop_eq_nil_of_le (by omega), List.nil_append, Nat.add_sub_cancel_left, List.drop_left' hl0x]
    have hw : (w.drew.alloc (.cells (vcells es ++ vcells es0 ++ rest).toArray e)).setRow w.heap.size (vcells es ++ vcells [vx] ++ rest).toArray = w.drew.alloc (.cells (vcells es ++ vcells [vx] ++ rest).toArray e) := setRow_alloc w.drew _ _ e
    refine ⟨w.heap.size, nc, _, _, (vcells es ++ vcells [vx] ++ rest).toArray, e, G', q3, heap_alloc_new w.drew _, hst, ?_, ?_, ?_, s4, fun κ c _ hκ => ?_⟩
    · rw [hw]; exact s1
    · rw [hw]; exact s2
    · rw [hw]; exact s3
    · have := hr.wf.lt κ c hκ
      exact ⟨by omega, heap_alloc_lt w.drew _ this⟩
  rcases g6 with ⟨rfl, rfl⟩ | ⟨b, off, arr, e', rfl, o1, o2, o3, o4, o5⟩
  · have hl00 : l.length = 0 := by omega
    have hes00 : es = [] := List.length_eq_zero_iff.1 (by omega)
    exact grow (by omega) (fun _ => hes00)
  · by_cases hle : l.length + 1 ≤ cap
    · have hmul : (l.length + 1) * sz ≤ cap * sz := Nat.mul_le_mul_right _ hle
      rw [Nat.add_mul] at hmul
      have o50 := o5.1
      subst o50
      have hst := run_storeCells_at (P := P) b (0 + l.length * sz) e' (vcells es0) 0 arr w o2 (by omega) hc0
      simp only [Nat.add_zero] at hst
      have hst2 : ∀ W : World, W.heap[b]? = some (.cells (arr.toList.take (0 + l.length * sz) ++ vcells es0 ++ arr.toList.drop (0 + l.length * sz + (vcells es0).length)).toArray e' (0, 0)) →
          (storeCells ⟨b, l.length * sz, none⟩ vx.cells.toList).run P W = .ok () (W.setRow b (arr.toList.take (0 + l.length * sz) ++ vcells [vx] ++ arr.toList.drop (0 + l.length * sz + (vcells [vx]).length)).toArray) := by
        intro W hW
        have hst2 := run_storeCells_at (P := P) b (0 + l.length * sz) e' (vcells [vx]) 0 (arr.toList.take (0 + l.length * sz) ++ vcells es0 ++ arr.toList.drop (0 + l.length * sz + (vcells es0).length)).toArray
          W hW (by simp only [List.size_toArray, List.length_append, List.length_take, List.length_drop, Array.length_toList]; omega) hcx
        simp only [Nat.add_zero] at hst2
        rw [Nat.zero_add] at hst2 ⊢
        rw [hvv] at hst2 hl0x ⊢
        rw [hst2]
        congr 3
        have := splice_splice arr.toList (vcells es0) vx.cells.toList (l.length * sz) (by rw [show arr.toList.length = arr.size from Array.length_toList]; omega) hl0x
        simpa using this
      obtain ⟨G', s1, s2, s3, s4⟩ := own_room hr hk0 hgg g2 g3 g5 o1 o2 o3 o4 o5 hrx hux (by simpa using hle)
      refine ⟨b, cap, _, _, _, e', G', run_append_place (ty := ty) ht h2 hi (h0.len w rfl) (h0.cells w rfl) (by simpa using hle) hst, setRow_heap w b arr _ e' _ o2, hst2, ?_, ?_, ?_, s4, fun κ c hne hκ => ?_⟩
      · rw [setRow_setRow]; exact s1
      · rw [setRow_setRow]; exact s2
      · rw [setRow_setRow]; exact s3
      · have hcb : c ≠ b := fun he => hne (hr.wf.inj κ k b (he ▸ hκ) o1)
        exact ⟨hcb, setRow_other w b c _ hcb⟩
    · exact grow (by omega) (by simp)
end Go.Eng
namespace Go.Eng
variable {P : Program}
def WA (P : Program) (ops : Array Oper) (Q : St → Prop) (fuel : Nat) (listed : Array Bool) (S : St) : Prop :=
  ∀ (Q' : Exit → Act → World → Prop) (G : Gh) (w : World) (a : Act), Rel G w S a →
    (∀ S' G' a' w', Q S' → Step G w G' w' → Rel G' w' S' a' → (∀ i, 1000 ≤ i → G'.ow (i, 0) = G.ow (i, 0)) → Q' .normal a' w') → wpAny P .any ops Q' fuel listed a w
def upTo (sz n : Nat) : Array Bool := (Array.range sz).map (fun i => decide (i < n))
def headsA (ops : Array Oper) (n : Nat) : Nat → Array Bool → Bool
  | 0, listed => (List.range n).all (fun i => listed.getD i false)
  | f + 1, listed => !(Region.ready .any ops listed).isEmpty && (Region.ready .any ops listed).all (fun i => decide (i < n) && headsA ops n f (listed.setIfInBounds i true))
theorem upTo_eq {listed : Array Bool} {sz n : Nat} (hsz : listed.size = sz) (h1 : ∀ j, j < n → listed.getD j false = true) (h2 : ∀ j, n ≤ j → listed.getD j false = false) : listed = upTo sz n := by
  apply Array.ext
  · simp [upTo, hsz]
  · intro i hi hi'
    simp only [upTo, Array.getElem_map, Array.getElem_range]
    by_cases h : i < n
    · have := h1 i h
      simp only [Array.getD_eq_getD_getElem?, Array.getElem?_eq_getElem hi, Option.getD_some] at this
      rw [this]; simp [h]
    · have := h2 i (by omega)
      simp only [Array.getD_eq_getD_getElem?, Array.getElem?_eq_getElem hi, Option.getD_some] at this
      rw [this]; simp [h]
theorem W_head {id : Nat} {ops : Array Oper} {Q : Exit → St → Prop} {S Sc : St} (hm : P.follows .mixedOrders = true) (n : Nat) (v : Nat → SV) (d : Nat → Nat) (hB : headsA ops n n (Array.replicate ops.size false) = true)
    (hd : ∀ i, i < n → ∃ o, ops[i]? = some o ∧ o.dst = some (d i) ∧ o.guard = none) (hinj : ∀ i j, i < n → j < n → d i = d j → i = j) (hlt : ∀ i, i < n → d i < S.fr.length)
    (hop : ∀ i, i < n → ∀ o, ops[i]? = some o → ∀ S' : St, S'.bx = S.bx → S'.gn = S.gn → S'.fr.length = S.fr.length → (∀ e ∈ o.after, Region.binds .any e = true → e.on < n → S'.fr[d e.on]? = some (v e.on)) → (∀ t : Nat, (∀ j, j < n → t ≠ d j) → S'.fr[t]? = S.fr[t]?) →
      ∃ p : Prop, p ∧ astep P o S' = some ⟨p, v i, S'⟩)
    (hS1 : Sc.bx = S.bx) (hS2 : Sc.gn = S.gn) (hS3 : ∀ j, j < n → Sc.fr[d j]? = some (v j)) (hS4 : ∀ t : Nat, (∀ j, j < n → t ≠ d j) → Sc.fr[t]? = S.fr[t]?)
    (h : WA P ops (Q .normal) (ops.size - n) (upTo ops.size n) Sc) : W P (.region id ops true) Q S := by
  intro G0 w0 a0 hr0
  obtain ⟨hstep0, hr0'⟩ := hr0.draw
  apply wp_region_any hm
  have main : ∀ (f : Nat) (listed : Array Bool) (G : Gh) (w : World) (a : Act) (S' : St), headsA ops n f listed = true → listed.size = ops.size → (∀ j, n ≤ j → listed.getD j false = false) → S'.bx = S.bx → S'.gn = S.gn → S'.fr.length = S.fr.length →
      (∀ j, j < n → listed.getD j false = true → S'.fr[d j]? = some (v j)) → (∀ t : Nat, (∀ j, j < n → t ≠ d j) → S'.fr[t]? = S.fr[t]?) → Rel G w S' a → Step G0 w0 G w → (∀ i, 1000 ≤ i → G.ow (i, 0) = G0.ow (i, 0)) → wpAny P .any ops (lift Q G0 w0) (f + (ops.size - n)) listed a w := by
    intro f
    induction f with
    | zero =>
      intro listed G w a S' hb hsz hun h1 h2 h3 h4 h5 hr hst how
      simp only [headsA] at hb
      have hall' : ∀ j, j < n → listed.getD j false = true := fun j hj => List.all_eq_true.1 hb j (List.mem_range.2 hj)
      have hfr : S'.fr = Sc.fr := by
        apply List.ext_getElem?
        intro t
        by_cases ht : ∃ j, j < n ∧ t = d j
        · obtain ⟨j, hj, rfl⟩ := ht
          rw [h4 j hj (hall' j hj), hS3 j hj]
        · have ht' : ∀ j, j < n → t ≠ d j := fun j hj e => ht ⟨j, hj, e⟩
          rw [h5 t ht', hS4 t ht']
      have hSS : S' = Sc := by
        obtain ⟨f1, b1, g1⟩ := S'
        obtain ⟨f2, b2, g2⟩ := Sc
        simp only at hfr h1 h2 hS1 hS2
        rw [hfr, h1, h2, hS1, hS2]
      subst hSS
      rw [upTo_eq hsz hall' hun, Nat.zero_add]
      exact h (lift Q G0 w0) G w a hr (fun S2 G2 a2 w2 q1 q2 q3 q4 => ⟨S2, G2, q1, hst.trans q2, q3, fun i hi => (q4 i hi).trans (how i hi)⟩)
    | succ f ih =>
      intro listed G w a S' hb hsz hun0 h1 h2 h3 h4 h5 hr hst how
      simp only [headsA, Bool.and_eq_true, Bool.not_eq_true', List.isEmpty_eq_false_iff] at hb
      obtain ⟨hne, hall⟩ := hb
      rw [show f + 1 + (ops.size - n) = (f + (ops.size - n)) + 1 by omega]
      refine ⟨fun h0 => absurd h0 hne, fun i hi => ?_⟩
      have hi2 := List.all_eq_true.1 hall i hi
      simp only [Bool.and_eq_true, decide_eq_true_eq] at hi2
      obtain ⟨hin, hbi⟩ := hi2
      obtain ⟨hun, o, ho, hdep⟩ := mem_ready.1 hi
      obtain ⟨o', ho', hdst, hg⟩ := hd i hin
      have : o' = o := Option.some.inj (ho'.symm.trans ho)
      subst this
      obtain ⟨p, hp, hast⟩ := hop i hin o' ho S' h1 h2 h3 (fun e he hbe hen => h4 e.on hen (hdep e he hbe)) h5
      obtain ⟨nx, u, w', G', x1, x2, x3, x4, x5, x6⟩ := astep_sound hast hp G w a hr
      unfold wpOp
      simp only [ho]
      rw [if_pos (wanted_none hg a)]
      refine .inl ?_
      have hlisted : i < listed.size := by rw [hsz]; exact (Array.getElem?_eq_some_iff.1 ho).1
      have next : ∀ u, RepS G' w' (v i) u → wpAny P .any ops (lift Q G0 w0) (f + (ops.size - n)) (listed.setIfInBounds i true) (a.put o'.dst u) w' := by
        intro u hu
        refine ih _ G' w' _ (S'.put (some (d i)) (v i)) hbi (by simp [hsz]) (fun j hj => ?_) h1 h2 (by simp [St.put, h3]) (fun j hj hl => ?_) (fun t ht => ?_) (by rw [hdst]; exact x4.put (some (d i)) hu) (hst.trans x3) (fun i hi => (x6 i hi).trans (how i hi))
        · have hq := hun0 j hj
          simp only [Array.getD_eq_getD_getElem?] at hq ⊢
          rw [Array.getElem?_setIfInBounds_ne (by omega)]
          exact hq
        · simp only [St.put, List.getElem?_set]
          by_cases hji : d i = d j
          · have := hinj i j hin hj hji
            subst this
            rw [if_pos rfl, if_pos (by rw [h3]; exact hlt i hin)]
          · rw [if_neg hji]
            refine h4 j hj ?_
            have hij : i ≠ j := fun e => hji (by rw [e])
            rw [← hl]
            simp only [Array.getD_eq_getD_getElem?]
            rw [Array.getElem?_setIfInBounds_ne hij]
        · simp only [St.put, List.getElem?_set]
          rw [if_neg (fun e => ht i hin e.symm)]
          exact h5 t ht
      unfold Oper.wp
      rw [x1]
      rcases x2 with rfl | ⟨rfl, rfl⟩
      · rw [Oper.upon_value]; exact next _ x5
      · rw [Oper.upon_skip]; exact next _ x5
  by_cases hle : n ≤ ops.size
  · have := main n (Array.replicate ops.size false) G0 _ a0 S hB (by simp) (fun j _ => getD_replicate_false _ _) rfl rfl rfl (fun j _ hl => by rw [getD_replicate_false] at hl; cases hl) (fun _ _ => rfl) hr0' hstep0 (fun _ _ => rfl)
    rwa [show n + (ops.size - n) = ops.size by omega] at this
  · obtain ⟨o, ho, _⟩ := hd ops.size (by omega)
    simp at ho
section
variable {ops : Array Oper} {Q : Exit → Act → World → Prop}
theorem op_value {i : Nat} {o : Oper} {K : Act → World → Prop} {a : Act} {w w' : World} {v : Value} (ho : ops[i]? = some o) (hg : o.guard = none) (hx : (execOp a.eval o).run P w = .ok (.value v) w') (h : K (a.put o.dst v) w') : wpOp P ops Q i K a w := by
  unfold wpOp
  simp only [ho]
  rw [if_pos (wanted_none hg a)]
  refine .inl ?_
  unfold Oper.wp
  rw [hx, Oper.upon_value]; exact h
theorem op_skip {i : Nat} {o : Oper} {K : Act → World → Prop} {a : Act} {w w' : World} (ho : ops[i]? = some o) (hg : o.guard = none) (hd : o.dst = none) (hx : (execOp a.eval o).run P w = .ok .skip w') (h : K a w') : wpOp P ops Q i K a w := by
  unfold wpOp
  simp only [ho]
  rw [if_pos (wanted_none hg a)]
  refine .inl ?_
  unfold Oper.wp
  rw [hx, Oper.upon_skip, hd]; exact h
theorem any_one {L : Array Bool} {i f : Nat} {a : Act} {w : World} (hr : Region.ready .any ops L = [i]) (h : wpOp P ops Q i (wpAny P .any ops Q f (L.setIfInBounds i true)) a w) : wpAny P .any ops Q (f + 1) L a w :=
  ⟨fun h0 => (by rw [hr] at h0; cases h0), fun j hj => (by
    rw [hr] at hj
    obtain rfl : j = i := by simpa using hj
    exact h)⟩
theorem any_two {L : Array Bool} {i j f : Nat} {a : Act} {w : World} (hr : Region.ready .any ops L = [i, j]) (h1 : wpOp P ops Q i (wpAny P .any ops Q f (L.setIfInBounds i true)) a w) (h2 : wpOp P ops Q j (wpAny P .any ops Q f (L.setIfInBounds j true)) a w) : wpAny P .any ops Q (f + 1) L a w :=
  ⟨fun h0 => (by rw [hr] at h0; cases h0), fun k hk => by
    rw [hr] at hk
    simp only [List.mem_cons, List.not_mem_nil, or_false] at hk
    rcases hk with rfl | rfl
    · exact h1
    · exact h2⟩
end
theorem setRow_comm (w : World) {b c : Nat} (h : b ≠ c) (x y : Array Value) : (w.setRow b x).setRow c y = (w.setRow c y).setRow b x := by
  have he : ((w.setRow b x).setRow c y).heap = ((w.setRow c y).setRow b x).heap := by
    apply Array.ext_getElem?
    intro i
    simp only [World.setRow, Array.getElem?_modify]
    by_cases h1 : b = i <;> by_cases h2 : c = i
    · exact (h (h1.trans h2.symm)).elim
    · simp [h1, h2]
    · simp [h1, h2]
    · simp [h1, h2]
  exact congrArg (fun h => ({ w with heap := h } : World)) he
/-- The orders in which the idiom comes. -/
def pushB (ops : Array Oper) (n : Nat) (L : Array Bool) : Bool :=
  let s := fun (L : Array Bool) (i : Nat) => L.setIfInBounds i true
  decide (Region.ready .any ops L = [n]) && decide (Region.ready .any ops (s L n) = [n + 1, n + 3]) && decide (Region.ready .any ops (s (s L n) (n + 1)) = [n + 2, n + 3]) && decide (Region.ready .any ops (s (s (s L n) (n + 1)) (n + 2)) = [n + 3]) &&
  decide (Region.ready .any ops (s (s L n) (n + 3)) = [n + 1]) && decide (Region.ready .any ops (s (s (s L n) (n + 3)) (n + 1)) = [n + 2]) && decide (Region.ready .any ops (s (s (s L n) (n + 1)) (n + 3)) = [n + 2]) &&
  decide (Region.ready .any ops (s (s (s (s L n) (n + 1)) (n + 2)) (n + 3)) = []) && decide (Region.ready .any ops (s (s (s (s L n) (n + 3)) (n + 1)) (n + 2)) = []) && decide (Region.ready .any ops (s (s (s (s L n) (n + 1)) (n + 3)) (n + 2)) = [])
theorem WA_push {ops : Array Oper} {o4 o5 o6 o7 : Oper} {Q : St → Prop} {S : St} {n : Nat} {L : Array Bool} {t e T T7 ty : TypeId} {sz bt bt' bt7 : Nat} {z : Value} {z' z7 : Option Value} {k : Key} {g d4 d5 p1 bid : Nat} {l : List AV} {x0 x : AV} {s0 : SV} {A B C X : Operand}
    (hB : pushB ops n L = true) (hi4 : ops[n]? = some o4) (hi5 : ops[n + 1]? = some o5) (hi6 : ops[n + 2]? = some o6) (hi7 : ops[n + 3]? = some o7)
    (ho4 : o4.op = .call { callee := .builtin .append, args := #[A, B], argTypes := #[t, t] }) (hd4 : o4.dst = some d4) (hg4 : o4.guard = none) (ho5 : o5.op = .indexAddr t (.tmp d4) C) (hd5 : o5.dst = some d5) (hg5 : o5.guard = none) (ho6 : o6.op = .store T (.tmp d5) X) (hd6 : o6.dst = none) (hg6 : o6.guard = none)
    (ho7 : o7.op = .store T7 (.tmp p1) (.tmp d4)) (hd7 : o7.dst = none) (hg7 : o7.guard = none)
    (hA : S.ev A = .own k g sz l) (hBv : S.ev B = .av (.sl [x0])) (hC : S.ev C = .av (.val (.int .i64 l.length))) (hX : (S.ev X).toAV = some x) (hP : S.ev (.tmp p1) = .ptr bid 0) (hbx : S.bx.lookup bid = some (.cells ty [s0]))
    (hC4 : C ≠ .tmp d4) (hX4 : X ≠ .tmp d4) (hX5 : X ≠ .tmp d5) (hp4 : p1 ≠ d4) (hp5 : p1 ≠ d5) (hne : d4 ≠ d5) (hl4 : d4 < S.fr.length) (hl5 : d5 < S.fr.length)
    (ht : tElem P t = some e) (h2 : notInt P t = true) (hi : tInfo P e = some (sz, bt, some z)) (hT : tInfo P T = some (sz, bt', z')) (hT7 : tInfo P T7 = some (1, bt7, z7)) (hz : z.cells.size = sz) (hbt : 0 < bt) (hke : e + 1 = k.2) (hgen : S.gen k = g) (hu0 : Uni sz [x0]) (hux : Uni sz [x]) (hb : (l.length + 1) * bt ≤ 140737488355328)
    (h : Q ((((S.next k).put (some d4) (.own k (g + 1) sz (l ++ [x]))).put (some d5) .junk).setBox bid (.cells ty [.own k (g + 1) sz (l ++ [x])]))) : WA P ops Q 4 L S := by
  intro Q' G w a hr hq
  simp only [pushB, Bool.and_eq_true, decide_eq_true_eq] at hB
  obtain ⟨⟨⟨⟨⟨⟨⟨⟨⟨b1, b2⟩, b3⟩, b4⟩, b5⟩, b6⟩, b7⟩, b8⟩, b9⟩, b10⟩ := hB
  have ht' : P.underlying t = some (.slice e) := by
    unfold tElem at ht; split at ht
    · rename_i hh; simp at ht; subst ht; exact hh
    · simp at ht
  have hrA := hr.ev A; rw [hA] at hrA
  have hrB := hr.ev B; rw [hBv] at hrB
  have hrC := hr.ev C; rw [hC] at hrC
  simp only [RepS, Rep] at hrC
  have hrP := hr.ev (.tmp p1); rw [hP] at hrP
  obtain ⟨bx, hbx1, hbx2⟩ := hrP
  obtain ⟨bx', arrb, q1, q2, q3, q4, q5⟩ := hr.bx _ (lookup_mem hbx)
  simp only at q1
  rw [hbx1] at q1; simp only [Option.some.injEq] at q1; subst q1
  have hrX := (hr.ev X).toAV hX
  obtain ⟨es0, hs0⟩ := src_sl (P := P) (x := a.eval B) hrB hu0
  obtain ⟨b, cap, w1, arr1, arr2, e1, G', r1, r0, r2, s1, s2, s3, s4, s5⟩ := push_own (ty := o4.type) ht h2 hi hz hbt hr hrA hke hgen hs0 hu0 hrX hux hb
  obtain ⟨c1, c2⟩ := s5 (bid, 0) bx (by intro e; rw [← e] at hke; simp at hke) hbx1
  have hheapx : w1.heap[bx]? = some (.cells arrb ty (0, 0)) := by rw [c2]; exact q2
  have hsz : a.tmps.size = S.fr.length := hr.size.symm
  have evne : ∀ (a' : Act) (y : Operand) (v : Value) (d : Nat), y ≠ .tmp d → (a'.put (some d) v).eval y = a'.eval y := by
    intro a' y v d hy
    cases y with
    | tmp t' =>
      have : t' ≠ d := fun e => hy (by rw [e])
      simp only [Act.eval, Act.put, Array.getD_eq_getD_getElem?]
      rw [Array.getElem?_setIfInBounds_ne (Ne.symm this)]
    | _ => rfl
  have eveq : ∀ (a' : Act) (v : Value) (d : Nat), d < a'.tmps.size → (a'.put (some d) v).eval (.tmp d) = v := by
    intro a' v d hd
    simp only [Act.eval, Act.put, Array.getD_eq_getD_getElem?]
    rw [Array.getElem?_setIfInBounds_self_of_lt hd]; rfl
  obtain ⟨u1, hu1⟩ : ∃ u1, u1 = Value.slice (some ⟨b, 0, none⟩) (l.length + 1) cap := ⟨_, rfl⟩
  obtain ⟨pt, hpt⟩ : ∃ pt, pt = Value.pointer (some ⟨b, l.length * sz, none⟩) := ⟨_, rfl⟩
  have x4 : (execOp a.eval o4).run P w = .ok (.value u1) w1 := by
    obtain ⟨c, hc⟩ := exec_builtin (P := P) (a := a) ho4 w
    rw [hc, hu1]; simp [builtin, r1]
  have hs4 : d4 < a.tmps.size := by omega
  have hs5 : d5 < (a.put (some d4) u1).tmps.size := by simp only [Act.put, Array.size_setIfInBounds]; omega
  have x5 : ∀ W, (execOp (a.put (some d4) u1).eval o5).run P W = .ok (.value pt) W := by
    intro W
    have hlt' : ((l.length : Nat) : Int) < ((l.length : Nat) : Int) + 1 := by omega
    have ev4 : (a.put (some d4) u1).eval (.tmp d4) = .slice (some ⟨b, 0, none⟩) (l.length + 1) cap := by rw [eveq _ _ _ hs4, hu1]
    rw [hpt]
    simp [execOp, ho5, ev4, evne _ C _ d4 hC4, hrC.1, Instr.indexAt, asIntOf, run_underlying' ht', run_sizeOf' hi, addr_add, hlt']
  have hcs : (a.eval X).cells.size = sz := by
    have := hux.sizes (show RepL G.U w [x] [a.eval X] by simp only [RepL]; exact ⟨_, [], rfl, hrX, rfl⟩)
    exact this _ (by simp)
  have x6 : ∀ W : World, W.heap[b]? = some (.cells arr1 e1 (0, 0)) → (execOp ((a.put (some d4) u1).put (some d5) pt).eval o6).run P W = .ok .skip (W.setRow b arr2) := by
    intro W hW
    have ev5 : ((a.put (some d4) u1).put (some d5) pt).eval (.tmp d5) = .pointer (some ⟨b, l.length * sz, none⟩) := by rw [eveq _ _ _ hs5, hpt]
    simp [execOp, ho6, ev5, evne _ X _ _ hX5, evne _ X _ _ hX4, Instr.storeAt, Instr.sureAddr, storeVar, run_sizeOf' hT, hcs, r2 W hW]
  have hone : u1.oneCell' = true := by rw [hu1]; rfl
  have hcell : u1.cells = #[u1] := by rw [hu1]; rfl
  have hal : arrb.size = 1 := by simpa using q4.length
  have x7' : ∀ W : World, W.heap[bx]? = some (.cells arrb ty (0, 0)) → (storeCells ⟨bx, 0, none⟩ [u1]).run P W = .ok () (W.setRow bx (arrb.toList.take 0 ++ [u1] ++ arrb.toList.drop (0 + 1)).toArray) := by
    intro W hW
    have := run_storeCells_at (P := P) bx 0 ty [u1] 0 arrb W hW (by simp; omega) (by simpa using hone)
    simpa using this
  have x7 : ∀ (a' : Act) (W : World), a'.eval (.tmp p1) = .pointer (some ⟨bx, 0, none⟩) → a'.eval (.tmp d4) = u1 → W.heap[bx]? = some (.cells arrb ty (0, 0)) → (execOp a'.eval o7).run P W = .ok .skip (W.setRow bx (arrb.toList.take 0 ++ [u1] ++ arrb.toList.drop (0 + 1)).toArray) := by
    intro a' W e1 e2 hW
    have hc1 : u1.cells.size = 1 := by rw [hcell]; rfl
    have hc2 : u1.cells.toList = [u1] := by rw [hcell]
    have := x7' W hW
    simp [execOp, ho7, e1, e2, Instr.storeAt, Instr.sureAddr, storeVar, run_sizeOf' hT7, hc1, hc2, this] at this ⊢
  have evp1 : (a.put (some d4) u1).eval (.tmp p1) = .pointer (some ⟨bx, 0, none⟩) := by
    rw [evne _ (.tmp p1) _ _ (by simpa using hp4)]; exact hbx2
  have evp2 : ((a.put (some d4) u1).put (some d5) pt).eval (.tmp p1) = .pointer (some ⟨bx, 0, none⟩) := by
    rw [evne _ (.tmp p1) _ _ (by simpa using hp5)]; exact evp1
  have evd1 : (a.put (some d4) u1).eval (.tmp d4) = u1 := eveq _ _ _ hs4
  have evd2 : ((a.put (some d4) u1).put (some d5) pt).eval (.tmp d4) = u1 := by
    rw [evne _ (.tmp d4) _ _ (by simpa using hne)]; exact evd1
  -- the end
  have s3' : RepS G' (w1.setRow b arr2) (.own k (g + 1) sz (l ++ [x])) u1 := by rw [hu1]; exact s3
  have hfin0 : Rel G' (w1.setRow b arr2) (((S.next k).put (some d4) (.own k (g + 1) sz (l ++ [x]))).put (some d5) .junk) ((a.put (some d4) u1).put (some d5) pt) := (s2.put (some d4) s3').put (some d5) trivial
  have hx2 : (w1.setRow b arr2).heap[bx]? = some (.cells arrb ty (0, 0)) := by rw [setRow_other _ _ _ _ c1]; exact hheapx
  obtain ⟨w3, y1, y2, y3⟩ := hfin0.storeBox (b := bid) (ty := ty) (l := [s0]) (by simpa [St.put, St.next] using hbx) (by rw [s4]; exact hbx1) 0 (xs := [.own k (g + 1) sz (l ++ [x])]) (vs := [u1]) ⟨u1, [], rfl, s3', rfl⟩ (by simpa using hone) (by simp)
  have hw3 : w3 = (w1.setRow b arr2).setRow bx (arrb.toList.take 0 ++ [u1] ++ arrb.toList.drop (0 + 1)).toArray := by
    have := (y1 P).symm.trans (x7' _ hx2)
    simpa using this
  have fin : Q' .normal ((a.put (some d4) u1).put (some d5) pt) w3 := hq _ G' _ w3 (by simpa using h) (s1.trans y2) y3 (fun i _ => s4 i)
  have hcomm : ((w1.setRow bx (arrb.toList.take 0 ++ [u1] ++ arrb.toList.drop (0 + 1)).toArray).setRow b arr2) = w3 := by rw [hw3]; exact setRow_comm w1 c1 _ _
  have hb1 : (w1.setRow bx (arrb.toList.take 0 ++ [u1] ++ arrb.toList.drop (0 + 1)).toArray).heap[b]? = some (.cells arr1 e1 (0, 0)) := by rw [setRow_other _ _ _ _ (Ne.symm c1)]; exact r0
  refine any_one b1 (op_value hi4 hg4 x4 ?_)
  rw [hd4]
  refine any_two b2 (op_value hi5 hg5 (x5 w1) ?_) (op_skip hi7 hg7 hd7 (x7 _ w1 evp1 evd1 hheapx) ?_)
  · rw [hd5]
    refine any_two b3 (op_skip hi6 hg6 hd6 (x6 w1 r0) ?_) (op_skip hi7 hg7 hd7 (x7 _ w1 evp2 evd2 hheapx) ?_)
    · refine any_one b4 (op_skip hi7 hg7 hd7 (x7 _ _ evp2 evd2 hx2) ?_)
      rw [← hw3]
      exact ⟨b8, fin⟩
    · refine any_one b7 (op_skip hi6 hg6 hd6 (x6 _ hb1) ?_)
      rw [hcomm]
      exact ⟨b10, fin⟩
  · refine any_one b5 (op_value hi5 hg5 (x5 _) ?_)
    rw [hd5]
    refine any_one b6 (op_skip hi6 hg6 hd6 (x6 _ hb1) ?_)
    rw [hcomm]
    exact ⟨b9, fin⟩
end Go.Eng
namespace Go.Proofs.YtclkkkpkbpdmdaaGreatDoor
open Go Go.Eng
theorem uni_strs (l : List ByteArray) : Uni 1 (l.map strAV) := by
  intro x hx
  obtain ⟨s, _, rfl⟩ := List.mem_map.1 hx
  exact ⟨rfl, rfl⟩
set_option maxRecDepth 100000 in
theorem clnS_to (l : List ByteArray) (h : l.length ≤ 1073741824) : CallTo Tryz.prog 26 [(jL (l.map strAV))] [] [] (jL (l.map strAV)) [] [] :=
  clone_to (t := 38) (e := 9) (sz := 1) (bt := 16) (z := .string ⟨#[]⟩) Tryz.func26 (Eq.refl Tryz.f26.body) (by kernel_rfl) (by kernel_rfl) (by kernel_rfl) ⟨rfl, rfl, rfl⟩ ⟨rfl, rfl, rfl⟩ ⟨rfl, rfl, rfl⟩ ⟨rfl, rfl, rfl⟩ ⟨rfl, rfl, rfl⟩ ⟨rfl, rfl, rfl⟩ ⟨rfl, rfl, rfl⟩ ⟨rfl, rfl, rfl⟩ (by kernel_rfl) (by kernel_rfl) (by kernel_rfl) (by decide) (l.map strAV) (uni_strs l) (by rw [List.length_map]; omega)
set_option maxRecDepth 100000 in
theorem clnC_to (l : List DCited) (h : l.length ≤ 1073741824) : CallTo Tryz.prog 27 [(jL (l.map aCited))] [] [] (jL (l.map aCited)) [] [] :=
  clone_to (t := 48) (e := 67) (sz := 4) (bt := 56) (z := .agg #[.string ⟨#[]⟩, .string ⟨#[]⟩, .string ⟨#[]⟩, .bool false]) Tryz.func27 (Eq.refl Tryz.f27.body) (by kernel_rfl) (by kernel_rfl) (by kernel_rfl) ⟨rfl, rfl, rfl⟩ ⟨rfl, rfl, rfl⟩ ⟨rfl, rfl, rfl⟩ ⟨rfl, rfl, rfl⟩ ⟨rfl, rfl, rfl⟩ ⟨rfl, rfl, rfl⟩ ⟨rfl, rfl, rfl⟩ ⟨rfl, rfl, rfl⟩ (by kernel_rfl) (by kernel_rfl) (by kernel_rfl) (by decide) (l.map aCited) (uni_aCited l) (by rw [List.length_map]; omega)
set_option maxRecDepth 100000 in
theorem clnP_to (l : List DPair) (h : l.length ≤ 1073741824) : CallTo Tryz.prog 46 [(jL (l.map aPair))] [] [] (jL (l.map aPair)) [] [] :=
  clone_to (t := 22) (e := 29) (sz := 2) (bt := 32) (z := .agg #[.string ⟨#[]⟩, .string ⟨#[]⟩]) Tryz.func46 (Eq.refl Tryz.f46.body) (by kernel_rfl) (by kernel_rfl) (by kernel_rfl) ⟨rfl, rfl, rfl⟩ ⟨rfl, rfl, rfl⟩ ⟨rfl, rfl, rfl⟩ ⟨rfl, rfl, rfl⟩ ⟨rfl, rfl, rfl⟩ ⟨rfl, rfl, rfl⟩ ⟨rfl, rfl, rfl⟩ ⟨rfl, rfl, rfl⟩ (by kernel_rfl) (by kernel_rfl) (by kernel_rfl) (by decide) (l.map aPair) (uni_aPair l) (by rw [List.length_map]; omega)
def cpyT (a : DAttr) : DAttr := a
set_option maxRecDepth 100000 in
set_option maxHeartbeats 4000000 in
theorem cpyT_to (a : DAttr) (ha : wAttr a ≤ 1073741824) : CallTo Tryz.prog 25 [(.av (cAttr a))] [] [] (.av (cAttr (cpyT a))) [] [] := by
  have hwa := wAttr_eq a
  simp only [wStr] at hwa
  have hw_0 := wl_len (w := wStr) wStr_pos a.fClasses
  have hw_1 := wl_len (w := wPair) wPair_pos a.fPairs
  refine BEG (fun r : DAttr => (.av (cAttr r))) (cpyT a) Tryz.func25 (by kernel_rfl) ?_
  refine UF (cpyT.eq_1 ..) ?_
  refine GO (tn 4 (kc (clnS_to a.fClasses (by first | assumption | omega | decide | (simp; done) | (simp; omega))) (tn 4 (kc (clnP_to a.fPairs (by first | assumption | omega | decide | (simp; done) | (simp; omega))) (tn 4 z))))) (by kernel_rfl) ?_
  exact EN (by kernel_rfl)
end Go.Proofs.YtclkkkpkbpdmdaaGreatDoor
namespace Go.Eng
variable {P : Program}
theorem BEGb {α : Type} (enc : α → SV) (M : α) {f : FuncId} {fn : Func} {args : List SV} {bx bx' : List (Nat × ABox)} {gn gn' : List (Key × Nat)} (hf : P.funcs[f]? = some fn) (hok : (fn.body.isSome && !(fn.name == "runtime.NumGoroutine") && decide (args.length ≤ fn.ntmps)) = true)
    (hids : ∀ p ∈ bx, 1000 ≤ p.1) (hgk : ∀ p ∈ gn, 1000 ≤ p.1.1 ∧ 0 < p.1.2) (hargs : ∀ s ∈ args, OkSV (bx.map (·.1)) gn s) (hbx : ∀ p ∈ bx, ∀ s ∈ p.2.svs, OkSV (bx.map (·.1)) gn s)
    (hres : OkSV (bx.map (·.1)) gn' (enc M)) (hbx' : ∀ p ∈ bx', ∀ s ∈ p.2.svs, OkSV (bx.map (·.1)) gn' s) (hsame : bx'.map (·.1) = bx.map (·.1)) (hgn' : gn'.map (·.1) = gn.map (·.1))
    (h : Nx P (KE P fn enc bx' gn') M (start (bodyOf fn) ⟨args ++ List.replicate (fn.ntmps - args.length) .junk, bx, gn⟩)) : CallTo P f args bx gn (enc M) bx' gn' := by
  simp only [Bool.and_eq_true, decide_eq_true_eq, Bool.not_eq_true'] at hok
  obtain ⟨⟨h1, h2⟩, h3⟩ := hok
  obtain ⟨c, hb⟩ := Option.isSome_iff_exists.1 h1
  have e : bodyOf fn = c := by simp [bodyOf, hb]
  refine CallTo_of_body hf hb h2 rfl h3 hids hgk hargs hbx hres hbx' hsame hgn' ?_
  rw [← e]; exact h.x
theorem ENb {α : Type} {fn : Func} {enc : α → SV} {M : α} {X : Cf} {bx' : List (Nat × ABox)} {gn' : List (Key × Nat)} (h : endOf P fn X = some (enc M)) (h3 : ∀ p ∈ bx', (stOf X).bx.lookup p.1 = some p.2) (h4 : ∀ p ∈ gn', (stOf X).gen p.1 = p.2) : Nx P (KE P fn enc bx' gn') M X := by
  unfold endOf at h
  split at h
  · exact ⟨ends (.inl rfl) h rfl h3 h4⟩
  · exact ⟨ends (.inr rfl) h rfl h3 h4⟩
  · simp at h
def atC (X : Cf) : Code := match X with
  | some (_, _, .at c _ _) => c
  | _ => .skip
def isAt (X : Cf) : Bool := match X with
  | some (_, _, .at _ _ _) => true
  | _ => false
def contX (P : Program) (X : Cf) (S2 : St) (ors : List Oq) : Cf := match X with
  | some (_, _, .at _ ks _) => goK P ks (some ([], ors, .fin .normal S2))
  | _ => none
theorem W_weakQ {c : Code} {S S2 : St} (h : W P c (fun e S1 => e = .normal ∧ Weak S1 S2) S) : W P c (fun e S1 => e = .normal ∧ S1 = S2) S :=
  fun G w a hr => wp_mono (h G w a hr) (fun e a' w' ⟨S1, G', ⟨he, hw⟩, h2, h3, h4⟩ => ⟨S2, G', ⟨he, rfl⟩, h2, hw G' w' a' h3, h4⟩)
theorem W_code {c c' : Code} {Q : Exit → St → Prop} {S : St} (h : c = c') (hw : W P c' Q S) : W P c Q S := by rw [h]; exact hw
/-- A piece of code that is told by hand. -/
theorem NXW {α : Type} {K : α → Exit → St → Prop} {M : α} {X : Cf} (S2 : St) (oc : OC) (hX : isAt X = true) (hW : W P (atC X) (fun e S1 => e = .normal ∧ Weak S1 S2) (stOf X)) (h : csOf (contX P X S2 oc.o) = some oc.c) (hn : Nx P K M (contX P X S2 oc.o)) : Nx P K M X := by
  unfold isAt at hX
  split at hX
  · rename_i c0 o0 c ks S
    obtain ⟨hn⟩ := hn
    simp only [contX] at h hn
    cases hk : goK P ks (some ([], oc.o, .fin .normal S2)) with
    | none => rw [hk] at h; simp [csOf] at h
    | some r =>
      obtain ⟨c2, o2, out2⟩ := r
      rw [hk] at h hn
      unfold csOf at h
      split at h
      · rename_i e
        simp only [Option.some.injEq, Prod.mk.injEq] at e h
        obtain ⟨rfl, rfl, rfl⟩ := e
        subst h
        obtain ⟨q1, q2⟩ := goK_sound (K M) ks _ _ _ _ _ _ hk (oc.h trivial) hn
        refine ⟨?_⟩
        exact W_mono (W_weakQ hW) (fun e S1 ⟨he, hs⟩ => by subst he hs; exact q2)
      · simp at h
  · simp at hX
theorem st_load {o : Oper} {S : St} {t ty : TypeId} {x : Operand} {b k : Nat} {l : List SV} {s : SV} (ho : o.op = .load t x) (hx : S.ev x = .ptr b k) (ht : tAgg P t = some false) (hb : S.bx.lookup b = some (.cells ty l)) (hs : l[k]? = some s) : astep P o S = some ⟨True, s, S⟩ := by
  unfold astep
  rw [ho]
  simp only [aLoad, ht, hx, hb, hs, Option.map_some]
theorem st_load_agg {o : Oper} {S : St} {t ty : TypeId} {sz bt : Nat} {z : Option Value} {x : Operand} {b k : Nat} {l : List SV} {r : List AV} (ho : o.op = .load t x) (hx : S.ev x = .ptr b k) (ht : tAgg P t = some true) (hi : tInfo P t = some (sz, bt, z)) (hb : S.bx.lookup b = some (.cells ty l))
    (h1 : ((l.drop k).take sz).any SV.isTok = false) (h2 : SV.allAV ((l.drop k).take sz) = some r) (h3 : r.length = sz) : astep P o S = some ⟨True, .av (.agg r), S⟩ := by
  unfold astep
  rw [ho]
  simp only [aLoad, ht, hi, hx, hb, h1, h2, h3, if_true]
theorem st_len {o : Oper} {S : St} {t : TypeId} {x : Operand} {k : Key} {g sz : Nat} {l : List AV} (ho : o.op = .call { callee := .builtin .len, args := #[x], argTypes := #[t] }) (hx : S.ev x = .own k g sz l) (ht : tSlice P t = true) : astep P o S = some ⟨True, .av (.val (.int .i64 l.length)), S⟩ := by
  unfold astep
  rw [ho]
  simp only [aBuiltin, aLen, hx, SV.toAV, ht, if_true]
theorem st_build {o : Oper} {S : St} {t e : TypeId} {sz bt : Nat} {z c : Value} {x : AV} (ho : o.op = .buildSlice t 1 #[(0, .const c)]) (ht : tElem P t = some e) (hi : tInfo P e = some (sz, bt, some z)) (hc : (constSV c).toAV = some x) (hsz : sz ≤ 16777216) : astep P o S = some ⟨Uni sz [x], .av (.sl [x]), S⟩ := by
  unfold astep
  rw [ho]
  have h1 : (S.ev (.const c)).toAV = some x := hc
  simp only [aBuildSlice, ht, hi, List.map_cons, List.map_nil, allAVop, h1]
  rw [if_pos ⟨rfl, by omega⟩]
end Go.Eng
namespace Go.Proofs.YtclkkkpkbpdmdaaGreatDoor
open Go Go.Eng
theorem dpIN_fuel : ∀ (n m : Nat) (l : List DInline), wl wInline l < n → wl wInline l < m → dpIN n l = dpIN m l
  | 0, m, l, h, _ => by omega
  | n + 1, 0, l, _, h => by omega
  | n + 1, m + 1, l, h1, h2 => by
    rw [dpIN, dpIN, dpIS_eq, dpIS_eq]
    refine flat_eq (fun x hx => ?_)
    have h3 := wl_mem (w := wInline) hx
    have h4 := wInline_eq x
    rw [dpIN_fuel n m x.fKids (by omega) (by omega)]
theorem dpI_eq (l : List DInline) : dpI l = l.flatMap (fun x => x :: dpI x.fKids) := by
  show dpIN (wl wInline l + 1) l = _
  rw [dpIN, dpIS_eq]
  refine flat_eq (fun x hx => ?_)
  have h3 := wl_mem (w := wInline) hx
  have h4 := wInline_eq x
  rw [dpI, dpIN_fuel (wl wInline l) (wl wInline x.fKids + 1) x.fKids (by omega) (by omega)]
theorem take_succ_el {α : Type} [Inhabited α] {l : List α} {i : Nat} (h : i < l.length) : l.take (i + 1) = l.take i ++ [el l i] := by
  rw [List.take_add_one, List.getElem?_eq_getElem h]
  simp [el, h]
theorem dpI_take {l : List DInline} {i : Nat} (h : i < l.length) : dpI (l.take (i + 1)) = dpI (l.take i) ++ (el l i :: dpI (el l i).fKids) := by
  rw [dpI_eq (l.take (i + 1)), take_succ_el h, List.flatMap_append, ← dpI_eq]
  simp
theorem dpI_len (l : List DInline) (h : wl wInline l ≤ 1073741824) : (dpI l).length ≤ wl wInline l := dpI_bd l h
def bxI (g : Nat) (xs : List DInline) : List (Nat × ABox) := [(1000, .cells 41 [.own (1002, 51) g 10 (xs.map aInline)]), (1001, .cells 62 [.fn 24 [] [.ptr 1000 0, .ptr 1001 0]])]
def regAt (id : Nat) : Code → Option (Array Oper)
  | .region i ops _ => if i = id then some ops else none
  | .seq x y => (regAt id x).orElse (fun _ => regAt id y)
  | .cond _ x y => (regAt id x).orElse (fun _ => regAt id y)
  | .block _ c => regAt id c
  | .loop c => regAt id c
  | _ => none
noncomputable def R7 : Array Oper := (regAt 7 (bodyOf Tryz.f24)).getD #[]
noncomputable def o7 (i : Nat) : Oper := R7.getD i (R7.getD 0 default)
def zI : AV := .agg [vI 0, vS ⟨#[]⟩, vS ⟨#[]⟩, vS ⟨#[]⟩, vS ⟨#[]⟩, .sl [], .sl [], .sl [], .sl [], .sl []]
def c7 (x : DInline) : List SV := (cInline x).cells.map SV.av
def S7 (l : List DInline) (v8 : Nat) (q : Nat) (ys : List DInline) : St :=
  sx 41 [(0, (jL (l.map aInline))), (1, (.ptr 1000 0)), (2, (.ptr 1001 0)), (4, (jI (((v8 : Nat) : Int)))), (5, (.ptr 5 0)), (7, (jI (((lenM aInline l : Nat) : Int)))), (8, (jI (((v8 : Nat) : Int))))] ((5, .cells 50 (c7 (el l v8))) :: bxI q ys) [((1002, 51), q)]
def v7 (l : List DInline) (v8 : Nat) (q : Nat) (ys : List DInline) (i : Nat) : SV := match i with
  | 0 => .own (1002, 51) q 10 (ys.map aInline)
  | 1 => .av (cInline (el l v8))
  | 2 => .av (.val (.int .i64 (ys.map aInline).length))
  | _ => .av (.sl [zI])
theorem und41 : tElem Tryz.prog 41 = some 50 := by kernel_rfl
theorem inf50 : tInfo Tryz.prog 50 = some (10, 192, some (.agg #[.int .i64 0, .string ⟨#[]⟩, .string ⟨#[]⟩, .string ⟨#[]⟩, .string ⟨#[]⟩, .slice none 0 0, .slice none 0 0, .slice none 0 0, .slice none 0 0, .slice none 0 0])) := by kernel_rfl
set_option maxRecDepth 100000 in
set_option maxHeartbeats 4000000 in
theorem r7 (l : List DInline) (v8 : Nat) (q : Nat) (ys : List DInline) (hy : ys.length ≤ 4294967296) :
    W Tryz.prog (.region 7 R7 true) (fun e S1 => e = .normal ∧ Weak S1 (sx 41 [(0, (jL (l.map aInline))), (1, (.ptr 1000 0)), (2, (.ptr 1001 0)), (4, (jI (((v8 : Nat) : Int)))), (7, (jI (((lenM aInline l : Nat) : Int)))), (8, (jI (((v8 : Nat) : Int))))] (bxI (q + 1) (ys ++ [el l v8])) [((1002, 51), q + 1)])) (S7 l v8 q ys) := by
  have hl4 : (S7 l v8 q ys).fr.length = 41 := by kernel_rfl
  refine W_head (Sc := ((((S7 l v8 q ys).put (some 27) (v7 l v8 q ys 0)).put (some 28) (v7 l v8 q ys 1)).put (some 29) (v7 l v8 q ys 2)).put (some 30) (v7 l v8 q ys 3)) (by kernel_rfl) 4 (v7 l v8 q ys) (fun i => 27 + i) (by kernel_rfl) ?_ (fun i j _ _ h => by omega) (fun i hi => by rw [hl4]; omega) ?_ rfl rfl ?_ ?_ ?_
  · intro i hi
    match i, hi with
    | 0, _ => exact ⟨o7 0, by kernel_rfl, by kernel_rfl, by kernel_rfl⟩
    | 1, _ => exact ⟨o7 1, by kernel_rfl, by kernel_rfl, by kernel_rfl⟩
    | 2, _ => exact ⟨o7 2, by kernel_rfl, by kernel_rfl, by kernel_rfl⟩
    | 3, _ => exact ⟨o7 3, by kernel_rfl, by kernel_rfl, by kernel_rfl⟩
    | i + 4, h => exact absurd h (by omega)
  · intro i hi o ho S' hb hg hlen hdep hoth
    have hget : ∀ (t : Nat) (s : SV), (∀ j, j < 4 → t ≠ 27 + j) → (S7 l v8 q ys).fr[t]? = some s → S'.ev (.tmp t) = s := by
      intro t s h1 h2
      have := hoth t h1
      simp only [St.ev, List.getD_eq_getElem?_getD, this, h2, Option.getD_some]
    have e1 : S'.ev (.tmp 1) = .ptr 1000 0 := hget 1 _ (fun j _ => by omega) (by kernel_rfl)
    have e5 : S'.ev (.tmp 5) = .ptr 5 0 := hget 5 _ (fun j _ => by omega) (by kernel_rfl)
    have b1 : S'.bx.lookup 1000 = some (.cells 41 [.own (1002, 51) q 10 (ys.map aInline)]) := by rw [hb]; kernel_rfl
    have b5 : S'.bx.lookup 5 = some (.cells 50 (c7 (el l v8))) := by rw [hb]; kernel_rfl
    match i, hi with
    | 0, _ =>
      obtain rfl : o7 0 = o := Option.some.inj ((show R7[0]? = some (o7 0) by kernel_rfl).symm.trans ho)
      exact ⟨True, trivial, st_load (t := 41) (x := .tmp 1) (by kernel_rfl) e1 (by kernel_rfl) b1 rfl⟩
    | 1, _ =>
      obtain rfl : o7 1 = o := Option.some.inj ((show R7[1]? = some (o7 1) by kernel_rfl).symm.trans ho)
      exact ⟨True, trivial, st_load_agg (t := 50) (x := .tmp 5) (by kernel_rfl) e5 (by kernel_rfl) inf50 b5 (by kernel_rfl) (by kernel_rfl) (by kernel_rfl)⟩
    | 2, _ =>
      obtain rfl : o7 2 = o := Option.some.inj ((show R7[2]? = some (o7 2) by kernel_rfl).symm.trans ho)
      have e27 : S'.ev (.tmp 27) = .own (1002, 51) q 10 (ys.map aInline) := by
        have this : S'.fr[27]? = some (.own (1002, 51) q 10 (ys.map aInline)) := hdep ⟨0, .data⟩ (by show _ ∈ (o7 2).after; rw [show (o7 2).after = #[⟨0, .data⟩] by kernel_rfl]; simp) rfl (by decide)
        simp only [St.ev, List.getD_eq_getElem?_getD, this, Option.getD_some]
      exact ⟨True, trivial, st_len (t := 41) (x := .tmp 27) (by kernel_rfl) e27 (by kernel_rfl)⟩
    | 3, _ =>
      obtain rfl : o7 3 = o := Option.some.inj ((show R7[3]? = some (o7 3) by kernel_rfl).symm.trans ho)
      exact ⟨Uni 10 [zI], uni_one rfl rfl, st_build (t := 41) (c := .agg #[.int .i64 0, .string ⟨#[]⟩, .string ⟨#[]⟩, .string ⟨#[]⟩, .string ⟨#[]⟩, .slice none 0 0, .slice none 0 0, .slice none 0 0, .slice none 0 0, .slice none 0 0]) (by kernel_rfl) und41 inf50 (by kernel_rfl) (by decide)⟩
    | i + 4, h => exact absurd h (by omega)
  · intro j hj
    match j, hj with
    | 0, _ => rfl
    | 1, _ => rfl
    | 2, _ => rfl
    | 3, _ => rfl
    | j + 4, h => exact absurd h (by omega)
  · intro t ht
    simp only [St.put, List.getElem?_set]
    rw [if_neg (fun e => ht 3 (by omega) e.symm), if_neg (fun e => ht 2 (by omega) e.symm), if_neg (fun e => ht 1 (by omega) e.symm), if_neg (fun e => ht 0 (by omega) e.symm)]
  · refine WA_push (n := 4) (o4 := o7 4) (o5 := o7 5) (o6 := o7 6) (o7 := o7 7) (t := 41) (e := 50) (T := 50) (T7 := 41) (ty := 41) (sz := 10) (k := (1002, 51)) (g := q) (d4 := 31) (d5 := 32) (p1 := 1) (bid := 1000) (s0 := .own (1002, 51) q 10 (ys.map aInline)) (bt7 := 24) (z7 := some (.slice none 0 0)) (l := ys.map aInline) (x0 := zI) (x := cInline (el l v8)) (A := .tmp 27) (B := .tmp 30) (C := .tmp 29) (X := .tmp 28)
      (by kernel_rfl) (by kernel_rfl) (by kernel_rfl) (by kernel_rfl) (by kernel_rfl) (by kernel_rfl) (by kernel_rfl) (by kernel_rfl) (by kernel_rfl) (by kernel_rfl) (by kernel_rfl) (by kernel_rfl) (by kernel_rfl) (by kernel_rfl) (by kernel_rfl) (by kernel_rfl) (by kernel_rfl)
      (by kernel_rfl) (by kernel_rfl) (by kernel_rfl) (by kernel_rfl) (by kernel_rfl) (by kernel_rfl) (by intro h; cases h) (by intro h; cases h) (by intro h; cases h) (by decide) (by decide) (by decide) (of_decide_eq_true (by kernel_rfl)) (of_decide_eq_true (by kernel_rfl))
      und41 (by kernel_rfl) inf50 inf50 (by kernel_rfl) (by kernel_rfl) (by decide) rfl (by kernel_rfl) (uni_one rfl rfl) (uni_one rfl rfl) (by rw [List.length_map]; omega) ?_
    refine ⟨rfl, ?_⟩
    have e := ap1_aInline ys (el l v8)
    rw [e]
    exact WK (by kernel_rfl)
set_option maxRecDepth 100000 in
set_option maxHeartbeats 4000000 in
theorem inl_st (l : List DInline) (hl : wl wInline l ≤ 1073741824) (g : Nat) (xs : List DInline) (hx : xs.length + wl wInline l ≤ 4294967296)
    (hrec : ∀ l' : List DInline, wl wInline l' < wl wInline l → wl wInline l' ≤ 1073741824 → ∀ (g : Nat) (xs : List DInline), xs.length + wl wInline l' ≤ 4294967296 →
      CallTo Tryz.prog 24 [jL (l'.map aInline), .ptr 1000 0, .ptr 1001 0] (bxI g xs) [((1002, 51), g)] undefS (bxI (g + (dpI l').length) (xs ++ dpI l')) [((1002, 51), g + (dpI l').length)]) :
    CallTo Tryz.prog 24 [jL (l.map aInline), .ptr 1000 0, .ptr 1001 0] (bxI g xs) [((1002, 51), g)] undefS (bxI (g + (dpI l).length) (xs ++ dpI l)) [((1002, 51), g + (dpI l).length)] := by
  have hwl := wl_len (w := wInline) wInline_pos l
  refine BEGb (fun _ : Unit => undefS) () Tryz.func24 (by kernel_rfl) (by simp [bxI]) (by simp) (by simp [OkSV, SV.keys, bxI]) (by simp [OkSV, SV.keys, PV.keys, bxI, ABox.svs, List.lookup]; omega) (by simp [OkSV, SV.keys, undefS]) (by simp [OkSV, SV.keys, PV.keys, bxI, ABox.svs, List.lookup]; omega) rfl rfl ?_
  refine GO (tn 3 z) (by kernel_rfl) ?_
  refine LP (fun N M S => ∃ v8 : Nat, ∃ q : Nat, ∃ ys : List DInline, (v8 ≤ l.length) ∧ (q = g + (dpI (l.take v8)).length) ∧ (ys = xs ++ dpI (l.take v8)) ∧ (List.length l - v8 < N) ∧ M = () ∧ S = (sx 41 [(0, (jL (l.map aInline))), (1, (.ptr 1000 0)), (2, (.ptr 1001 0)), (7, (jI (((lenM aInline l : Nat) : Int)))), (8, (jI (((v8 : Nat) : Int))))] (bxI q ys) [((1002, 51), q)])) (n := l.length + 1) (by kernel_rfl) ⟨0, g, xs, by omega, by simp [dpI_eq []], by simp [dpI_eq []], by omega, rfl, rfl⟩ (WK (by kernel_rfl)) ?_
  rintro n0 M S ⟨v8, q, ys, hi, hq, hys, hF0, rfl, rfl⟩
  obtain ⟨n0, rfl⟩ : ∃ k, n0 = k + 1 := ⟨n0 - 1, by omega⟩
  have hlm := lenM_eq aInline l
  refine GO (tn 1 z) (by kernel_rfl) ?_
  by_cases h1 : v8 < l.length
  · have hd : decide ((((v8 : Nat) : Int) : Int) < ((lenM aInline l : Nat) : Int)) = true := decide_eq_true (by omega)
    have hce := wl_el (w := wInline) (l := l) (i := v8) (by omega)
    have hcw := wInline_eq (el l v8)
    simp only [wStr, w1] at hcw
    have ha1 := wl_len (w := wStr) wStr_pos (el l v8).fArgs
    have htk := wl_take (w := wInline) (l := l) (i := v8) (by omega)
    have hdl := dpI_len (l.take v8) (by have := wl_take_le (w := wInline) l v8; omega)
    have hyl : ys.length = xs.length + (dpI (l.take v8)).length := by rw [hys, List.length_append]
    have ha2 := wl_len (w := wCited) wCited_pos (el l v8).fCites
    refine GO (kb hd (tn 4 (ke (el_aInline l v8 (by omega)) (tn 5 (kc (cpyT_to ((el l v8).fAttr) (by omega)) (tn 4 (kc (clnS_to ((el l v8).fArgs) (by omega)) (tn 4 (kc (clnC_to ((el l v8).fCites) (by omega)) (tn 2 z)))))))))) (by kernel_rfl) ?_
    obtain ⟨S2, hS2⟩ : ∃ S2 : St, S2 = (sx 41 [(0, (jL (l.map aInline))), (1, (.ptr 1000 0)), (2, (.ptr 1001 0)), (4, (jI (((v8 : Nat) : Int)))), (7, (jI (((lenM aInline l : Nat) : Int)))), (8, (jI (((v8 : Nat) : Int))))] (bxI (q + 1) (ys ++ [el l v8])) [((1002, 51), q + 1)]) := ⟨_, rfl⟩
    refine NXW S2 z (by kernel_rfl) ?_ (by rw [hS2]; kernel_rfl) ?_
    · rw [hS2]
      refine W_weak (S' := S7 l v8 q ys) (WK (by kernel_rfl)) ?_
      exact W_code (c' := .region 7 R7 true) (by kernel_rfl) (r7 l v8 q ys (by omega))
    · rw [hS2]
      have hc := hrec (el l v8).fKids (by omega) (by omega) (q + 1) (ys ++ [el l v8]) (by rw [List.length_append, List.length_singleton]; omega)
      have hwr := wrE ((((v8 : Nat) : Int)) + 1) (((v8 + 1 : Nat) : Int)) (by omega)
      refine DR3 (tn 3 (ko (eO (el_aInline l v8 (by omega))) (kp (el_aInline l v8 (by omega)) (tn 2 (ko (cO hc) (kp hc (kp (show q + 1 = q + 1 ∧ True from ⟨rfl, trivial⟩) (ko (nO hwr) (kp hwr (tn 1 z)))))))))) (by kernel_rfl) (by kernel_rfl) (by kernel_rfl) ?_
      have hq2 : q + 1 + (dpI (el l v8).fKids).length = g + (dpI (l.take (v8 + 1))).length := by rw [dpI_take h1, List.length_append, List.length_cons, hq]; omega
      have hy2 : ys ++ [el l v8] ++ dpI (el l v8).fKids = xs ++ dpI (l.take (v8 + 1)) := by rw [dpI_take h1, hys]; simp
      exact AG (m := n0) ⟨v8 + 1, q + 1 + (dpI (el l v8).fKids).length, ys ++ [el l v8] ++ dpI (el l v8).fKids, by omega, hq2, hy2, by omega, rfl, rfl⟩ (WK (by kernel_rfl)) (by kernel_rfl) (Nat.lt_succ_self _)
  · have hd : decide ((((v8 : Nat) : Int) : Int) < ((lenM aInline l : Nat) : Int)) = false := decide_eq_false (by omega)
    have hv : v8 = l.length := by omega
    subst hv
    rw [List.take_length] at hq hys
    subst hq hys
    refine GO (kb hd z) (by kernel_rfl) ?_
    refine OUT z (by kernel_rfl) ?_
    exact ENb (by kernel_rfl) (by intro p hp; simp only [bxI, List.mem_cons, List.not_mem_nil, or_false] at hp; rcases hp with rfl | rfl <;> rfl) (by intro p hp; simp only [List.mem_cons, List.not_mem_nil, or_false] at hp; subst hp; rfl)
end Go.Proofs.YtclkkkpkbpdmdaaGreatDoor
namespace Go.Eng
def reSt (X : Cf) (S' : St) : Cf := match X with
  | some (c, o, .at d ks _) => some (c, o, .at d ks S')
  | _ => none
theorem GHOST {P : Program} {α : Type} {K : α → Exit → St → Prop} {M : α} {X : Cf} {S' : St} (hg : Ghost (stOf X) S') (hn : Nx P K M (reSt X S')) : Nx P K M X := by
  obtain ⟨hn⟩ := hn
  unfold reSt at hn
  split at hn
  · rename_i c o d ks S
    exact ⟨W_ghost hg hn⟩
  · exact hn.elim
end Go.Eng
namespace Go.Proofs.YtclkkkpkbpdmdaaGreatDoor
open Go Go.Eng
theorem inl_n : ∀ (n : Nat) (l : List DInline), wl wInline l < n → wl wInline l ≤ 1073741824 → ∀ (g : Nat) (xs : List DInline), xs.length + wl wInline l ≤ 4294967296 →
    CallTo Tryz.prog 24 [jL (l.map aInline), .ptr 1000 0, .ptr 1001 0] (bxI g xs) [((1002, 51), g)] undefS (bxI (g + (dpI l).length) (xs ++ dpI l)) [((1002, 51), g + (dpI l).length)]
  | 0, l, h, _, _, _, _ => by omega
  | n + 1, l, h, hl, g, xs, hx => inl_st l hl g xs hx (fun l' h1 h2 g' xs' h3 => inl_n n l' (by omega) h2 g' xs' h3)
theorem inl_to (l : List DInline) (hl : wl wInline l ≤ 1073741824) (g : Nat) (xs : List DInline) (hx : xs.length + wl wInline l ≤ 4294967296) :
    CallTo Tryz.prog 24 [jL (l.map aInline), .ptr 1000 0, .ptr 1001 0] (bxI g xs) [((1002, 51), g)] undefS (bxI (g + (dpI l).length) (xs ++ dpI l)) [((1002, 51), g + (dpI l).length)] := inl_n _ l (Nat.lt_succ_self _) hl g xs hx
theorem lsBN_fuel : ∀ (n m : Nat) (l : List DBlock), wl wBlock l < n → wl wBlock l < m → lsBN n l = lsBN m l
  | 0, m, l, h, _ => by omega
  | n + 1, 0, l, _, h => by omega
  | n + 1, m + 1, l, h1, h2 => by
    rw [lsBN, lsBN, lsBS_eq, lsBS_eq]
    refine flat_eq (fun x hx => ?_)
    have h3 := wl_mem (w := wBlock) hx
    have h4 := wBlock_eq x
    rw [lsBN_fuel n m x.fKids (by omega) (by omega)]
theorem lsB_eq (l : List DBlock) : lsB l = l.flatMap (fun x => x :: lsB x.fKids) := by
  show lsBN (wl wBlock l + 1) l = _
  rw [lsBN, lsBS_eq]
  refine flat_eq (fun x hx => ?_)
  have h3 := wl_mem (w := wBlock) hx
  have h4 := wBlock_eq x
  rw [lsB, lsBN_fuel (wl wBlock l) (wl wBlock x.fKids + 1) x.fKids (by omega) (by omega)]
theorem ilsB_flat (l : List DBlock) : ilsB l = l.flatMap (fun x => dpI x.fLine ++ ilsB x.fKids) := by
  rw [ilsB_eq, lsB_eq, List.flatMap_assoc]
  refine flat_eq (fun x _ => ?_)
  rw [List.flatMap_cons, ilsB_eq]
theorem ilsB_take {l : List DBlock} {i : Nat} (h : i < l.length) : ilsB (l.take (i + 1)) = ilsB (l.take i) ++ (dpI (el l i).fLine ++ ilsB (el l i).fKids) := by
  rw [ilsB_flat (l.take (i + 1)), take_succ_el h, List.flatMap_append, ← ilsB_flat]
  simp
def bxB (g : Nat) (xs : List DInline) : List (Nat × ABox) := [(1000, .cells 41 [.own (1002, 51) g 10 (xs.map aInline)]), (1001, .cells 62 [.fn 24 [] [.ptr 1000 0, .ptr 1001 0]]), (1003, .cells 68 [.fn 28 [] [.ptr 1001 0, .ptr 1003 0]])]
set_option maxRecDepth 100000 in
set_option maxHeartbeats 4000000 in
theorem inb_st (l : List DBlock) (hl : wl wBlock l ≤ 1073741824) (g : Nat) (xs : List DInline) (hx : xs.length + wl wBlock l ≤ 4294967296)
    (hrec : ∀ l' : List DBlock, wl wBlock l' < wl wBlock l → wl wBlock l' ≤ 1073741824 → ∀ (g : Nat) (xs : List DInline), xs.length + wl wBlock l' ≤ 4294967296 →
      CallTo Tryz.prog 28 [jL (l'.map aBlock), .ptr 1001 0, .ptr 1003 0] (bxB g xs) [((1002, 51), g)] undefS (bxB (g + (ilsB l').length) (xs ++ ilsB l')) [((1002, 51), g + (ilsB l').length)]) :
    CallTo Tryz.prog 28 [jL (l.map aBlock), .ptr 1001 0, .ptr 1003 0] (bxB g xs) [((1002, 51), g)] undefS (bxB (g + (ilsB l).length) (xs ++ ilsB l)) [((1002, 51), g + (ilsB l).length)] := by
  have hwl := wl_len (w := wBlock) wBlock_pos l
  refine BEGb (fun _ : Unit => undefS) () Tryz.func28 (by kernel_rfl) (by simp [bxB]) (by simp) (by simp [OkSV, SV.keys, bxB]) (by simp [OkSV, SV.keys, PV.keys, bxB, ABox.svs, List.lookup]; first | omega | (constructor <;> intros <;> omega)) (by simp [OkSV, SV.keys, undefS]) (by simp [OkSV, SV.keys, PV.keys, bxB, ABox.svs, List.lookup]; first | omega | (constructor <;> intros <;> omega)) rfl rfl ?_
  refine GO (tn 3 z) (by kernel_rfl) ?_
  refine LP (fun N M S => ∃ v7 : Nat, ∃ q : Nat, ∃ ys : List DInline, (v7 ≤ l.length) ∧ (q = g + (ilsB (l.take v7)).length) ∧ (ys = xs ++ ilsB (l.take v7)) ∧ (List.length l - v7 < N) ∧ M = () ∧ S = (sx 25 [(0, (jL (l.map aBlock))), (1, (.ptr 1001 0)), (2, (.ptr 1003 0)), (6, (jI (((lenM aBlock l : Nat) : Int)))), (7, (jI (((v7 : Nat) : Int))))] (bxB q ys) [((1002, 51), q)])) (n := l.length + 1) (by kernel_rfl) ⟨0, g, xs, by omega, by simp [ilsB_flat []], by simp [ilsB_flat []], by omega, rfl, rfl⟩ (WK (by kernel_rfl)) ?_
  rintro n0 M S ⟨v7, q, ys, hi, hq, hys, hF0, rfl, rfl⟩
  obtain ⟨n0, rfl⟩ : ∃ k, n0 = k + 1 := ⟨n0 - 1, by omega⟩
  have hlm := lenM_eq aBlock l
  refine GO (tn 1 z) (by kernel_rfl) ?_
  by_cases h1 : v7 < l.length
  · have hd : decide ((((v7 : Nat) : Int) : Int) < ((lenM aBlock l : Nat) : Int)) = true := decide_eq_true (by omega)
    have hce := wl_el (w := wBlock) (l := l) (i := v7) (by omega)
    have hcw := wBlock_eq (el l v7)
    simp only [wStr, w1] at hcw
    have htk := wl_take (w := wBlock) (l := l) (i := v7) (by omega)
    have hdl := ilsB_len (l.take v7) (by have := wl_take_le (w := wBlock) l v7; omega)
    have hyl : ys.length = xs.length + (ilsB (l.take v7)).length := by rw [hys, List.length_append]
    have hdp := dpI_len (el l v7).fLine (by omega)
    have hc1 := inl_to (el l v7).fLine (by omega) q ys (by omega)
    have hc2 := hrec (el l v7).fKids (by omega) (by omega) (q + (dpI (el l v7).fLine).length) (ys ++ dpI (el l v7).fLine) (by rw [List.length_append]; omega)
    refine GO (kb hd (tn 2 z)) (by kernel_rfl) ?_
    refine DR3 (tn 3 (ko (eO (el_aBlock l v7 (by omega))) (kp (el_aBlock l v7 (by omega)) (tn 2 (ko (cO hc1) (kp hc1 (kp (show q = q ∧ True from ⟨rfl, trivial⟩) z))))))) (by kernel_rfl) (by kernel_rfl) (by kernel_rfl) ?_
    have hwr := wrE ((((v7 : Nat) : Int)) + 1) (((v7 + 1 : Nat) : Int)) (by omega)
    refine DR3 (tn 3 (ko (eO (el_aBlock l v7 (by omega))) (kp (el_aBlock l v7 (by omega)) (tn 2 (ko (cO hc2) (kp hc2 (kp (show q + (dpI (el l v7).fLine).length = q + (dpI (el l v7).fLine).length ∧ True from ⟨rfl, trivial⟩) (ko (nO hwr) (kp hwr (tn 1 z)))))))))) (by kernel_rfl) (by kernel_rfl) (by kernel_rfl) ?_
    have hq2 : q + (dpI (el l v7).fLine).length + (ilsB (el l v7).fKids).length = g + (ilsB (l.take (v7 + 1))).length := by rw [ilsB_take h1, List.length_append, List.length_append, hq]; omega
    have hy2 : ys ++ dpI (el l v7).fLine ++ ilsB (el l v7).fKids = xs ++ ilsB (l.take (v7 + 1)) := by rw [ilsB_take h1, hys]; simp
    exact AG (m := n0) ⟨v7 + 1, q + (dpI (el l v7).fLine).length + (ilsB (el l v7).fKids).length, ys ++ dpI (el l v7).fLine ++ ilsB (el l v7).fKids, by omega, hq2, hy2, by omega, rfl, rfl⟩ (WK (by kernel_rfl)) (by kernel_rfl) (Nat.lt_succ_self _)
  · have hd : decide ((((v7 : Nat) : Int) : Int) < ((lenM aBlock l : Nat) : Int)) = false := decide_eq_false (by omega)
    have hv : v7 = l.length := by omega
    subst hv
    rw [List.take_length] at hq hys
    subst hq hys
    refine GO (kb hd z) (by kernel_rfl) ?_
    refine OUT z (by kernel_rfl) ?_
    exact ENb (by kernel_rfl) (by intro p hp; simp only [bxB, List.mem_cons, List.not_mem_nil, or_false] at hp; rcases hp with rfl | rfl | rfl <;> rfl) (by intro p hp; simp only [List.mem_cons, List.not_mem_nil, or_false] at hp; subst hp; rfl)
theorem inb_n : ∀ (n : Nat) (l : List DBlock), wl wBlock l < n → wl wBlock l ≤ 1073741824 → ∀ (g : Nat) (xs : List DInline), xs.length + wl wBlock l ≤ 4294967296 →
    CallTo Tryz.prog 28 [jL (l.map aBlock), .ptr 1001 0, .ptr 1003 0] (bxB g xs) [((1002, 51), g)] undefS (bxB (g + (ilsB l).length) (xs ++ ilsB l)) [((1002, 51), g + (ilsB l).length)]
  | 0, l, h, _, _, _, _ => by omega
  | n + 1, l, h, hl, g, xs, hx => inb_st l hl g xs hx (fun l' h1 h2 g' xs' h3 => inb_n n l' (by omega) h2 g' xs' h3)
theorem ghost_weak {S S' : St} (h : Weak S S') : Ghost S S' := fun G w a hr => ⟨G, Step.refl G w, h G w a hr, fun _ _ => rfl⟩
theorem castp {p q : Prop} (h : p = q) (x : p) : q := h ▸ x
def sI (κ : Key) : Key := if κ = (1000, 0) then (3, 0) else if κ = (3, 0) then (1000, 0) else if κ = (1001, 0) then (4, 0) else if κ = (4, 0) then (1001, 0) else if κ = (1003, 0) then (5, 0) else if κ = (5, 0) then (1003, 0) else if κ = (1002, 51) then (3, 51) else if κ = (3, 51) then (1002, 51) else κ
theorem sI_inv : Inv sI := by
  refine ⟨fun κ => ?_, fun κ => ?_⟩
  · unfold sI
    by_cases h1 : κ = (1000, 0)
    · subst h1; decide
    by_cases h2 : κ = (3, 0)
    · subst h2; decide
    by_cases h3 : κ = (1001, 0)
    · subst h3; decide
    by_cases h4 : κ = (4, 0)
    · subst h4; decide
    by_cases h5 : κ = (1003, 0)
    · subst h5; decide
    by_cases h6 : κ = (5, 0)
    · subst h6; decide
    by_cases h7 : κ = (1002, 51)
    · subst h7; decide
    by_cases h8 : κ = (3, 51)
    · subst h8; decide
    simp only [h1, h2, h3, h4, h5, h6, h7, h8, if_false]
  · unfold sI
    repeat' split
    all_goals first | rfl | (rename_i h; rw [h]) | (subst_vars; rfl)
def bx3 (g : Nat) (xs : List DInline) : List (Nat × ABox) := [(3, .cells 41 [.own (3, 51) g 10 (xs.map aInline)]), (4, .cells 62 [.fn 24 [] [.ptr 3 0, .ptr 4 0]]), (5, .cells 68 [.fn 28 [] [.ptr 4 0, .ptr 5 0]])]
def bxN : List (Nat × ABox) := [(3, .cells 41 [.nil]), (4, .cells 62 [.fn 24 [] [.ptr 3 0, .ptr 4 0]]), (5, .cells 68 [.fn 28 [] [.ptr 4 0, .ptr 5 0]])]
theorem WkS_refl (S : St) (s : SV) : WkS S s s := by
  cases s with
  | ag l => exact WkCs_refl S l
  | _ => simp [WkS]
theorem WkL_refl (S : St) : ∀ l : List SV, WkL S l l
  | [] => trivial
  | s :: l => ⟨WkS_refl S s, WkL_refl S l⟩
theorem weak_N (n : Nat) (sl : List (Nat × SV)) : Weak (sx n sl bxN []) (sx n sl (bx3 0 []) [((3, 51), 0)]) :=
  weak_of (WkL_refl _ _) ⟨⟨rfl, ⟨rfl, Nat.succ_pos _, rfl⟩, trivial⟩, ⟨rfl, WkL_refl _ _⟩, ⟨rfl, WkL_refl _ _⟩, trivial⟩ ⟨rfl, trivial⟩
set_option maxRecDepth 100000 in
set_option maxHeartbeats 4000000 in
theorem ilsT_to (l : List DBlock) (hl : wl wBlock l ≤ 1073741824) : CallTo Tryz.prog 12 [(jL (l.map aBlock))] [] [] (jL ((ilsB l).map aInline)) [] [] := by
  have hc0 := CallTo_ren sI_inv (inb_n _ l (Nat.lt_succ_self _) hl 0 [] (by simp; omega))
  have hc : CallTo Tryz.prog 28 [jL (l.map aBlock), .ptr 4 0, .ptr 5 0] (bx3 0 []) [((3, 51), 0)] undefS (bx3 (0 + (ilsB l).length) ([] ++ ilsB l)) [((3, 51), 0 + (ilsB l).length)] := castp (by kernel_rfl) hc0
  refine BEG (fun r : List DInline => (jL (r.map aInline))) (ilsB l) Tryz.func12 (by kernel_rfl) ?_
  refine GO (tn 8 (kq 6 z)) (by kernel_rfl) ?_
  refine GHOST (S' := sx 12 [(0, (jL (l.map aBlock))), (3, .ptr 3 0), (4, .ptr 4 0), (5, .ptr 5 0)] (bx3 0 []) [((3, 51), 0)]) (ghost_weak (wtr (WK (bx := bxN) (gn := []) (by kernel_rfl)) (weak_N _ _))) ?_
  refine GO (tn 2 (kg hc (show (0 : Nat) = 0 ∧ True from ⟨rfl, trivial⟩) (tn 2 z))) (by kernel_rfl) ?_
  refine ENw (r := jL (([] ++ ilsB l).map aInline)) rfl (by kernel_rfl)
end Go.Proofs.YtclkkkpkbpdmdaaGreatDoor
namespace Go.Eng
variable {P : Program}
def headsR (ops : Array Oper) (lo n : Nat) : Nat → Array Bool → Bool
  | 0, listed => (List.range n).all (fun i => listed.getD i false)
  | f + 1, listed => !(Region.ready .any ops listed).isEmpty && (Region.ready .any ops listed).all (fun i => decide (lo ≤ i) && decide (i < n) && headsR ops lo n f (listed.setIfInBounds i true))
theorem opIn_value {m : Nat} {ops : Array Oper} {Q : Exit → Act → World → Prop} {i : Nat} {o : Oper} {K : Act → World → Prop} {a : Act} {w w' : World} {v : Value} (ho : ops[i]? = some o) (hg : Region.wanted o (yielded ops a.tmps) = true) (hd : ∀ c, o.op ≠ .defer c) (hx : (execOp a.eval o).run P w = .ok (.value v) w') (h : K (a.put o.dst v) w') :
    wpOpIn Fence.wide m P ops Q i K a w := by
  unfold wpOpIn
  simp only [ho]
  rw [if_pos hg]
  refine ⟨fun _ _ => trivial, ?_⟩
  rw [Oper.semAt_eq _ _ _ hd, hx, Oper.uponIn_value]
  exact h
theorem opIn_pass {m : Nat} {ops : Array Oper} {Q : Exit → Act → World → Prop} {i : Nat} {o : Oper} {K : Act → World → Prop} {a : Act} {w : World} (ho : ops[i]? = some o) (hg : Region.wanted o (yielded ops a.tmps) = false) (h : K (a.put o.dst undef) w) :
    wpOpIn Fence.wide m P ops Q i K a w := by
  unfold wpOpIn
  simp only [ho]
  rw [hg]
  simp only [Bool.false_eq_true, if_false]
  exact ⟨fun _ _ => trivial, h⟩
/-- What is told of one operation at one frame. -/
def Told (P : Program) (ops : Array Oper) (o : Oper) (w : World) (v : Value) (a : Act) : Prop :=
  (Region.wanted o (yielded ops a.tmps) = true ∧ (∀ c, o.op ≠ .defer c) ∧ (execOp a.eval o).run P w = .ok (.value v) w) ∨ (Region.wanted o (yielded ops a.tmps) = false ∧ v = undef)
theorem anyIn_heads {m g : Nat} {ops : Array Oper} {Q : Exit → Act → World → Prop} {a aF : Act} {w : World} (lo n f : Nat) (v : Nat → Value) (d : Nat → Nat) (hlo : lo ≤ n) (hn : n ≤ ops.size) (hB : headsR ops lo n f (upTo ops.size lo) = true)
    (hd : ∀ i, lo ≤ i → i < n → ∃ o, ops[i]? = some o ∧ o.dst = some (d i)) (hinj : ∀ i j, lo ≤ i → i < n → lo ≤ j → j < n → d i = d j → i = j) (hlt : ∀ i, lo ≤ i → i < n → d i < a.tmps.size)
    (hop : ∀ i, lo ≤ i → i < n → ∀ o, ops[i]? = some o → ∀ a' : Act, a'.tmps.size = a.tmps.size → (∀ e ∈ o.after, Region.binds .any e = true → lo ≤ e.on → e.on < n → a'.tmps[d e.on]? = some (v e.on)) → (∀ t : Nat, (∀ j, lo ≤ j → j < n → t ≠ d j) → a'.tmps[t]? = a.tmps[t]?) → Told P ops o w (v i) a')
    (hF1 : aF.defers = a.defers) (hF2 : aF.tmps.size = a.tmps.size) (hF3 : ∀ j, lo ≤ j → j < n → aF.tmps[d j]? = some (v j)) (hF4 : ∀ t : Nat, (∀ j, lo ≤ j → j < n → t ≠ d j) → aF.tmps[t]? = a.tmps[t]?)
    (h : wpAnyIn Fence.wide m P .any ops Q g (upTo ops.size n) aF w) : wpAnyIn Fence.wide m P .any ops Q (f + g) (upTo ops.size lo) a w := by
  have main : ∀ (f : Nat) (listed : Array Bool) (a' : Act), headsR ops lo n f listed = true → listed.size = ops.size → (∀ j, j < lo → listed.getD j false = true) → (∀ j, n ≤ j → listed.getD j false = false) → a'.defers = a.defers → a'.tmps.size = a.tmps.size →
      (∀ j, lo ≤ j → j < n → listed.getD j false = true → a'.tmps[d j]? = some (v j)) → (∀ t : Nat, (∀ j, lo ≤ j → j < n → t ≠ d j) → a'.tmps[t]? = a.tmps[t]?) → wpAnyIn Fence.wide m P .any ops Q (f + g) listed a' w := by
    intro f
    induction f with
    | zero =>
      intro listed a' hb hsz hlo hun h1 h2 h3 h4
      simp only [headsR] at hb
      have hall' : ∀ j, j < n → listed.getD j false = true := fun j hj => List.all_eq_true.1 hb j (List.mem_range.2 hj)
      have htm : a'.tmps = aF.tmps := by
        apply Array.ext_getElem?
        intro t
        by_cases ht : ∃ j, lo ≤ j ∧ j < n ∧ t = d j
        · obtain ⟨j, hj1, hj2, rfl⟩ := ht
          rw [h3 j hj1 hj2 (hall' j hj2), hF3 j hj1 hj2]
        · have ht' : ∀ j, lo ≤ j → j < n → t ≠ d j := fun j hj1 hj2 e => ht ⟨j, hj1, hj2, e⟩
          rw [h4 t ht', hF4 t ht']
      have haa : a' = aF := by
        obtain ⟨t1, d1⟩ := a'
        obtain ⟨t2, d2⟩ := aF
        simp only at htm h1 hF1
        rw [htm, h1, hF1]
      subst haa
      rw [upTo_eq hsz hall' hun, Nat.zero_add]
      exact h
    | succ f ih =>
      intro listed a' hb hsz hlo hun h1 h2 h3 h4
      simp only [headsR, Bool.and_eq_true, Bool.not_eq_true', List.isEmpty_eq_false_iff] at hb
      obtain ⟨hne, hall⟩ := hb
      rw [show f + 1 + g = (f + g) + 1 by omega]
      refine ⟨fun h0 => absurd h0 hne, fun i hi => ?_⟩
      have hi2 := List.all_eq_true.1 hall i hi
      simp only [Bool.and_eq_true, decide_eq_true_eq] at hi2
      obtain ⟨⟨hil, hin⟩, hbi⟩ := hi2
      obtain ⟨hunl, o, ho, hdep⟩ := mem_ready.1 hi
      obtain ⟨o', ho', hdst⟩ := hd i hil hin
      have : o' = o := Option.some.inj (ho'.symm.trans ho)
      subst this
      have hlisted : i < listed.size := by rw [hsz]; exact (Array.getElem?_eq_some_iff.1 ho).1
      have next : wpAnyIn Fence.wide m P .any ops Q (f + g) (listed.setIfInBounds i true) (a'.put o'.dst (v i)) w := by
        rw [hdst]
        refine ih _ (a'.put (some (d i)) (v i)) hbi (by simp [hsz]) (fun j hj => ?_) (fun j hj => ?_) h1 (by simp [Act.put, h2]) (fun j hj1 hj2 hl => ?_) (fun t ht => ?_)
        · have hq := hlo j hj
          simp only [Array.getD_eq_getD_getElem?] at hq ⊢
          rw [Array.getElem?_setIfInBounds_ne (by omega)]
          exact hq
        · have hq := hun j hj
          simp only [Array.getD_eq_getD_getElem?] at hq ⊢
          rw [Array.getElem?_setIfInBounds_ne (by omega)]
          exact hq
        · by_cases hji : d i = d j
          · have := hinj i j hil hin hj1 hj2 hji
            subst this
            simp only [Act.put]
            rw [Array.getElem?_setIfInBounds_self_of_lt (by rw [h2]; exact hlt i hil hin)]
          · simp only [Act.put]
            rw [Array.getElem?_setIfInBounds_ne hji]
            refine h3 j hj1 hj2 ?_
            have hij : i ≠ j := fun e => hji (by rw [e])
            rw [← hl]
            simp only [Array.getD_eq_getD_getElem?]
            rw [Array.getElem?_setIfInBounds_ne hij]
        · simp only [Act.put]
          rw [Array.getElem?_setIfInBounds_ne (fun e => ht i hil hin e.symm)]
          exact h4 t ht
      rcases hop i hil hin o' ho a' h2 (fun e he hbe h5 h6 => h3 e.on h5 h6 (hdep e he hbe)) h4 with ⟨q1, q2, q3⟩ | ⟨q1, q2⟩
      · exact opIn_value ho q1 q2 q3 next
      · rw [q2] at next
        exact opIn_pass ho q1 next
  refine main f (upTo ops.size lo) a hB (by simp [upTo]) (fun j hj => ?_) (fun j hj => ?_) rfl rfl (fun j hj1 hj2 hl => ?_) (fun _ _ => rfl)
  · have hjs : j < ops.size := by omega
    simp [upTo, Array.getD_eq_getD_getElem?, hjs, hj]
  · by_cases hjs : j < ops.size
    · have h5 : ¬ j < lo := by omega
      simp [upTo, Array.getD_eq_getD_getElem?, hjs, h5]
    · simp [upTo, Array.getD_eq_getD_getElem?, hjs]
  · exfalso
    by_cases hjs : j < ops.size
    · simp [upTo, Array.getD_eq_getD_getElem?, hjs] at hl; omega
    · simp [upTo, Array.getD_eq_getD_getElem?, hjs] at hl
def putsC (c : Nat) (v : Nat → Value) (a : Act) (lo : Nat) : Nat → Act
  | 0 => a
  | k + 1 => (putsC c v a lo k).put (some (c + lo + k)) (v (lo + k))
theorem putsC_size (c : Nat) (v : Nat → Value) (a : Act) (lo : Nat) : ∀ k, (putsC c v a lo k).tmps.size = a.tmps.size ∧ (putsC c v a lo k).defers = a.defers
  | 0 => ⟨rfl, rfl⟩
  | k + 1 => by
    obtain ⟨h1, h2⟩ := putsC_size c v a lo k
    exact ⟨by simp [putsC, Act.put, h1], by simp [putsC, Act.put, h2]⟩
theorem putsC_get (c : Nat) (v : Nat → Value) (a : Act) (lo : Nat) : ∀ k, c + lo + k ≤ a.tmps.size → ∀ t, (putsC c v a lo k).tmps[t]? = if c + lo ≤ t ∧ t < c + lo + k then some (v (t - c)) else a.tmps[t]?
  | 0, _, t => by rw [if_neg (by omega)]; rfl
  | k + 1, h, t => by
    have ih := putsC_get c v a lo k (by omega) t
    have hs := (putsC_size c v a lo k).1
    simp only [putsC, Act.put]
    by_cases ht : c + lo + k = t
    · subst ht
      rw [Array.getElem?_setIfInBounds_self_of_lt (by omega), if_pos ⟨by omega, by omega⟩]
      congr 2; omega
    · rw [Array.getElem?_setIfInBounds_ne ht, ih]
      by_cases h2 : c + lo ≤ t ∧ t < c + lo + k
      · rw [if_pos h2, if_pos ⟨h2.1, by omega⟩]
      · rw [if_neg h2, if_neg (by omega)]
/-- Operations lo, .., n - 1 in any order; their values come to stand at c + lo, .. -/
theorem anyIn_run {m g : Nat} {ops : Array Oper} {Q : Exit → Act → World → Prop} {a : Act} {w : World} (c lo n f : Nat) (v : Nat → Value) (hlo : lo ≤ n) (hn : n ≤ ops.size) (hB : headsR ops lo n f (upTo ops.size lo) = true)
    (hd : ∀ i, lo ≤ i → i < n → ∃ o, ops[i]? = some o ∧ o.dst = some (c + i)) (hs : c + n ≤ a.tmps.size)
    (hop : ∀ i, lo ≤ i → i < n → ∀ o, ops[i]? = some o → ∀ a' : Act, a'.tmps.size = a.tmps.size → (∀ e ∈ o.after, Region.binds .any e = true → lo ≤ e.on → e.on < n → a'.tmps[c + e.on]? = some (v e.on)) → (∀ t : Nat, t < c + lo ∨ c + n ≤ t → a'.tmps[t]? = a.tmps[t]?) → Told P ops o w (v i) a')
    (h : wpAnyIn Fence.wide m P .any ops Q g (upTo ops.size n) (putsC c v a lo (n - lo)) w) : wpAnyIn Fence.wide m P .any ops Q (f + g) (upTo ops.size lo) a w := by
  have hsz := putsC_size c v a lo (n - lo)
  have hget := putsC_get c v a lo (n - lo) (by omega)
  refine anyIn_heads lo n f v (fun i => c + i) hlo hn hB hd (fun i j _ _ _ _ e => by omega) (fun i _ h2 => by omega) (fun i h1 h2 o ho a' q1 q2 q3 => hop i h1 h2 o ho a' q1 q2 (fun t ht => q3 t (fun j hj1 hj2 => by omega))) hsz.2 hsz.1 (fun j hj1 hj2 => ?_) (fun t ht => ?_) h
  · rw [hget, if_pos ⟨by omega, by omega⟩]; congr 2; omega
  · rw [hget, if_neg]
    intro ⟨h1, h2⟩
    exact ht (t - c) (by omega) (by omega) (by omega)
theorem act_eval {a : Act} {t : Nat} {v : Value} (h : a.tmps[t]? = some v) : a.eval (.tmp t) = v := by
  simp [Act.eval, Array.getD_eq_getD_getElem?, h]
def isDefer : Op → Bool
  | .defer _ => true
  | _ => false
theorem nd_of {o : Oper} (h : isDefer o.op = false) : ∀ c, o.op ≠ .defer c := by intro c e; rw [e] at h; cases h
theorem told_n {ops : Array Oper} {o : Oper} {w : World} {v : Value} {a : Act} (hg : o.guard = none) (hd : isDefer o.op = false) (hx : (execOp a.eval o).run P w = .ok (.value v) w) : Told P ops o w v a := .inl ⟨wanted_none hg a, nd_of hd, hx⟩
theorem wanted_raw {ops : Array Oper} {o : Oper} {a : Act} {j t : Nat} {want b : Bool} (hg : o.guard = some (j, want)) (hdst : (ops[j]?).bind (·.dst) = some t) (ht : a.tmps[t]? = some (.bool b)) : Region.wanted o (yielded ops a.tmps) = (b == want) := by
  simp only [Region.wanted, hg, yielded, hdst, Option.bind_some, ht]
  cases b <;> cases want <;> rfl
theorem told_g {ops : Array Oper} {o : Oper} {w : World} {v : Value} {a : Act} {j t : Nat} {b : Bool} (hg : o.guard = some (j, b)) (hdst : (ops[j]?).bind (·.dst) = some t) (ht : a.tmps[t]? = some (.bool b)) (hd : isDefer o.op = false) (hx : (execOp a.eval o).run P w = .ok (.value v) w) : Told P ops o w v a :=
  .inl ⟨by rw [wanted_raw hg hdst ht]; cases b <;> rfl, nd_of hd, hx⟩
theorem told_p {ops : Array Oper} {o : Oper} {w : World} {a : Act} {j t : Nat} {b : Bool} (hg : o.guard = some (j, b)) (hdst : (ops[j]?).bind (·.dst) = some t) (ht : a.tmps[t]? = some (.bool (!b))) : Told P ops o w undef a :=
  .inr ⟨by rw [wanted_raw hg hdst ht]; cases b <;> rfl, rfl⟩
/-- A call that is the only one that may come. -/
theorem anyIn_call {m g : Nat} {ops : Array Oper} {Q : Exit → Act → World → Prop} {a : Act} {w : World} {L L' : Array Bool} {i : Nat} {o : Oper} {x : Operand} {args : Array Operand} {tys : Array TypeId} {f : FuncId} {us ws : Array Value} {R : Ending → World → Prop} (hr : Region.ready .any ops L = [i]) (hL : L.setIfInBounds i true = L') (ho : ops[i]? = some o)
    (hg : Region.wanted o (yielded ops a.tmps) = true) (hop : o.op = .call { callee := .value x, args := args, argTypes := tys }) (hx : a.eval x = .func (.func f) us ws) (hent : Enterable P f) (hc : CallsIn Fence.wide (m - 1) P f (us ++ (args.map a.eval ++ ws)) w R)
    (h : ∀ e w', R e w' → ∃ v, e = .returned v ∧ wpAnyIn Fence.wide m P .any ops Q g L' (a.put o.dst v) w') : wpAnyIn Fence.wide m P .any ops Q (g + 1) L a w := by
  refine ⟨fun h0 => (by rw [hr] at h0; cases h0), fun j hj => ?_⟩
  rw [hr] at hj
  obtain rfl : j = i := by simpa using hj
  unfold wpOpIn
  simp only [ho]
  rw [if_pos hg]
  refine ⟨fun _ _ => trivial, ?_⟩
  rw [Oper.semAt_eq _ _ _ (by rw [hop]; intro c h; cases h)]
  obtain ⟨fn, e1, e2, e3⟩ := hent
  have hrun : (execOp a.eval o).run P w = .ok (.enter f (us ++ (args.map a.eval ++ ws))) w := by
    have hnone : fn.body.isNone = false := by cases hb : fn.body <;> simp_all
    have h1 : (execOp a.eval o).run P w = (callFunc f (us ++ (args.map a.eval ++ ws))).run P w := by
      simp only [execOp, hop, resolve, hx, Deferred.ofValue, Sem.run_bind, Sem.run_pure, Result.andThen_ok, invoke]
      congr 2
      apply Array.ext'
      simp
    rw [h1]
    simp only [callFunc, Sem.run_bind, Result.andThen_ok, run_program, e1]
    rw [if_neg (by rw [e3]; simp)]
    simp only [hnone, Bool.false_eq_true, if_false, Sem.run_pure]
  rw [hrun, Oper.uponIn_enter]
  refine ⟨fun h => by simp [Fence.wide] at h, ?_⟩
  refine hc.mono ?_
  intro e w' hR
  obtain ⟨v, rfl, h3⟩ := h e w' hR
  rw [hL]
  exact h3
theorem anyIn_yield {m g : Nat} {ops : Array Oper} {Q : Exit → Act → World → Prop} {a : Act} {w : World} {L L' : Array Bool} {i lp : Nat} {o : Oper} {x : Operand} {args : Array Operand} {tys : Array TypeId} {R : Ending → World → Prop} (hr : Region.ready .any ops L = [i]) (hL : L.setIfInBounds i true = L') (ho : ops[i]? = some o)
    (hg : Region.wanted o (yielded ops a.tmps) = true) (hop : o.op = .call { callee := .value x, args := args, argTypes := tys }) (hx : a.eval x = .func (.yield lp) #[] #[]) (hc : YieldAt Fence.wide (m - 1) P lp (args.map a.eval) w R)
    (h : ∀ e w', R e w' → ∃ v, e = .returned v ∧ wpAnyIn Fence.wide m P .any ops Q g L' (a.put o.dst v) w') : wpAnyIn Fence.wide m P .any ops Q (g + 1) L a w := by
  refine ⟨fun h0 => (by rw [hr] at h0; cases h0), fun j hj => ?_⟩
  rw [hr] at hj
  obtain rfl : j = i := by simpa using hj
  unfold wpOpIn
  simp only [ho]
  rw [if_pos hg]
  refine ⟨fun _ _ => trivial, ?_⟩
  rw [Oper.semAt_eq _ _ _ (by rw [hop]; intro c h; cases h)]
  obtain ⟨f, tmps, assign, body, r1, r2⟩ := hc
  have hrun : (execOp a.eval o).run P w = .ok (.round lp f tmps assign body) w := by
    rw [← r1]
    simp only [execOp, hop, resolve, hx, Deferred.ofValue, Sem.run_bind, Sem.run_pure, Result.andThen_ok, invoke]
    congr 2
    apply Array.ext'
    simp
  rw [hrun, Oper.uponIn_round]
  refine ⟨fun h => by simp [Fence.wide] at h, ?_⟩
  refine r2.mono ?_
  intro e w' hR
  obtain ⟨v, rfl, h3⟩ := h e w' hR
  rw [hL]
  exact h3
section
variable {ev : Operand → Value} {o : Oper} {w : World}
theorem x_move {x : Operand} (ho : o.op = .move x ∨ o.op = .assign x) : (execOp ev o).run P w = .ok (.value (ev x)) w := by
  rcases ho with ho | ho <;> simp [execOp, ho]
theorem x_load {t : TypeId} {x : Operand} {b k : Nat} {v : Value} (ho : o.op = .load t x) (hx : ev x = .pointer (some ⟨b, k, none⟩)) (ht : tAgg P t = some false) (hc : w.cell? ⟨b, k, none⟩ = some v) : (execOp ev o).run P w = .ok (.value v) w := by
  simp [execOp, ho, hx, Instr.loadAt, Instr.sureAddr, run_loadVar_one ht hc]
theorem x_load_agg {t : TypeId} {x : Operand} {b k sz bt : Nat} {z : Option Value} {vs : List Value} (ho : o.op = .load t x) (hx : ev x = .pointer (some ⟨b, k, none⟩)) (ht : tAgg P t = some true) (hi : tInfo P t = some (sz, bt, z)) (hl : vs.length = sz) (hc : ∀ j v, vs[j]? = some v → w.cell? ⟨b, k + j, none⟩ = some v) :
    (execOp ev o).run P w = .ok (.value (.agg vs.toArray)) w := by
  simp [execOp, ho, hx, Instr.loadAt, Instr.sureAddr, run_loadVar_agg ht hi hl hc]
theorem x_index {t e : TypeId} {x ix : Operand} {b off n cap sz bt i : Nat} {z : Option Value} (ho : o.op = .indexAddr t x ix) (hx : ev x = .slice (some ⟨b, off, none⟩) n cap) (hix : ev ix = .int .i64 (i : Int)) (ht : tElem P t = some e) (hi : tInfo P e = some (sz, bt, z)) (hlt : i < n) :
    (execOp ev o).run P w = .ok (.value (.pointer (some ⟨b, off + i * sz, none⟩))) w := by
  have ht' : P.underlying t = some (.slice e) := by
    unfold tElem at ht; split at ht
    · rename_i hh; simp at ht; subst ht; exact hh
    · simp at ht
  have h1 : ((i : Int) < (n : Int)) := by omega
  simp [execOp, ho, hix, hx, Instr.indexAt, asIntOf, run_underlying' ht', run_sizeOf' hi, addr_add, hlt]
theorem x_field {s f off sz bt b k : Nat} {ft : TypeId} {z : Option Value} {x : Operand} (ho : o.op = .fieldAddr s x f) (hx : ev x = .pointer (some ⟨b, k, none⟩)) (h : tField P s f = some (off, ft)) (hs : tInfo P ft = some (sz, bt, z)) (h0 : sz ≠ 0) : (execOp ev o).run P w = .ok (.value (.pointer (some ⟨b, k + off, none⟩))) w := by
  simp only [execOp, ho, hx, Sem.run_bind, run_fieldAt h hs h0]; rfl
theorem x_not {t : TypeId} {x : Operand} {b : Bool} (ho : o.op = .unOp .not t x) (hx : ev x = .bool b) : (execOp ev o).run P w = .ok (.value (.bool (!b))) w := by
  simp [execOp, ho, hx, Op.unary]
theorem x_pick {c x y : Operand} {b : Bool} (ho : o.op = .pick c x y) (hc : ev c = .bool b) : (execOp ev o).run P w = .ok (.value (if b then ev x else ev y)) w := by
  cases b <;> simp [execOp, ho, hc, asBool]
end
end Go.Eng
namespace Go.Proofs.YtclkkkpkbpdmdaaGreatDoor
open Go Go.Eng Go.RowKit Go.Shelf
theorem und23 : tElem Tryz.prog 23 = some 43 := by kernel_rfl
theorem inf43 : tInfo Tryz.prog 43 = some (11, 192, some (.agg #[.int .i64 0, .int .i64 0, .string ⟨#[]⟩, .string ⟨#[]⟩, .string ⟨#[]⟩, .string ⟨#[]⟩, .string ⟨#[]⟩, .slice none 0 0, .slice none 0 0, .slice none 0 0, .slice none 0 0])) := by kernel_rfl
/-- Where the blocks of a list lie. -/
theorem blk_at {U : Nat → Nat} {w : World} {l : List DBlock} {u : Value} (h : Rep U w (.sl (l.map aBlock)) u) {i : Nat} (hi : i < l.length) :
    ∃ (b off cap : Nat) (us : List Value), u = .slice (some ⟨b, off, none⟩) l.length cap ∧ us.length = 11 ∧ 0 < U b ∧ (∀ j x, us[j]? = some x → w.cell? ⟨b, off + i * 11 + j, none⟩ = some x) ∧ Rep U w (aBlock (el l i)) (.agg us.toArray) ∧ ∃ k, us[10]? = some k ∧ Rep U w (.sl ((el l i).fKids.map aBlock)) k := by
  simp only [Rep] at h
  obtain ⟨ad, cap, es, sz, hu, g2, g3, g4, g5, g6, g7⟩ := h
  have hget : (l.map aBlock)[i]? = some (aBlock (el l i)) := by simp [el, hi]
  obtain ⟨e1, he1, he2⟩ := g2.get _ _ hget
  have he2' := he2
  rw [aBlock_eq] at he2'
  simp only [Rep] at he2'
  obtain ⟨us, rfl, hus, hone⟩ := he2'
  have hlen : us.size = 11 := by have := hus.length; simpa using this
  have hmem : (Value.agg us) ∈ es := List.mem_of_getElem? he1
  have hsz : sz = 11 := by rw [← g3 _ hmem]; simpa [Value.cells] using hlen
  subst hsz
  have hcs : (Value.agg us).cells.toList = us.toList := by simp [Value.cells]
  have hne : vcells es ≠ [] := by
    intro h0
    have := vcells_length es g3
    rw [h0] at this
    have hp : 0 < es.length := List.length_pos_of_mem hmem
    simp at this; omega
  rcases g7 with h0 | ⟨b, off, ha, hU, hcell⟩
  · exact (hne h0).elim
  · subst ha
    have hk : ∃ k, us.toList[10]? = some k ∧ Rep U w (.sl ((el l i).fKids.map aBlock)) k := hus.get 10 _ rfl
    refine ⟨b, off, cap, us.toList, by rw [hu, List.length_map], by simpa using hlen, ?_, fun j x hj => ?_, by simpa using he2, hk⟩
    · have : 0 < (vcells es).length := List.length_pos_iff.2 hne
      omega
    · have := vcells_get es _ _ g3 he1 j x (by rw [hcs]; exact hj)
      have := hcell _ x this
      rw [Nat.add_assoc]; exact this.1
noncomputable def W4 : Array Oper := (regAt 4 (bodyOf Tryz.f23)).getD #[]
noncomputable def w4 (i : Nat) : Oper := W4.getD i (W4.getD 0 default)
def pt (b o : Nat) : Value := .pointer (some ⟨b, o, none⟩)
theorem after_mem {o : Oper} {l : Array Edge} (h : o.after = l) {e : Edge} (he : e ∈ l) : e ∈ o.after := by rw [h]; exact he
theorem ent23 : Enterable Tryz.prog 23 := ⟨Tryz.f23, Tryz.func23, by kernel_rfl, by kernel_rfl⟩
def v1 (u : Value) (lp b off i : Nat) (x : Value) : Nat → Value
  | 0 => .func (.yield lp) #[] #[]
  | 1 => u
  | 2 => .int .i64 (i : Int)
  | 3 => pt b (off + i * 11)
  | _ => x
def vF : Nat → Value
  | 16 => .bool true
  | _ => undef
theorem inf23 : tInfo Tryz.prog 23 = some (1, 24, some (.slice none 0 0)) := by kernel_rfl
def v3 (u : Value) (By Bw b off i : Nat) (k : Value) : Nat → Value
  | 8 => .func (.func 23) #[] #[pt By 0, pt Bw 0]
  | 9 => u
  | 10 => .int .i64 (i : Int)
  | 11 => pt b (off + i * 11)
  | 12 => pt b (off + i * 11 + 10)
  | _ => k
set_option maxRecDepth 100000 in
set_option maxHeartbeats 4000000 in
theorem r4_in {Q : Exit → Act → World → Prop} {a : Act} {W : World} {u k : Value} {us : List Value} {i lp By Bw b off len cap : Nat} {A B C D : World → Prop} (hsz : a.tmps.size = 29)
    (t0 : a.tmps[0]? = some u) (t1 : a.tmps[1]? = some (pt By 0)) (t2 : a.tmps[2]? = some (pt Bw 0)) (t5 : a.tmps[5]? = some (.int .i64 (i : Int))) (hu : u = .slice (some ⟨b, off, none⟩) len cap) (hi : i < len) (hus : us.length = 11) (hk : us[10]? = some k)
    (cY : W.drew.cell? ⟨By, 0, none⟩ = some (.func (.yield lp) #[] #[])) (cE : ∀ j x, us[j]? = some x → W.drew.cell? ⟨b, off + i * 11 + j, none⟩ = some x)
    (hY : YieldAt Fence.wide 0 Tryz.prog lp #[.agg us.toArray] W.drew (fun e W' => (e = .returned (.bool true) ∧ A W') ∨ (e = .returned (.bool false) ∧ B W')))
    (hA : ∀ W', A W' → W'.cell? ⟨Bw, 0, none⟩ = some (.func (.func 23) #[] #[pt By 0, pt Bw 0]) ∧ W'.cell? ⟨b, off + i * 11 + 10, none⟩ = some k ∧ CallsIn Fence.wide 0 Tryz.prog 23 #[k, pt By 0, pt Bw 0] W' (fun e W'' => (e = .returned (.bool true) ∧ C W'') ∨ (e = .returned (.bool false) ∧ D W'')))
    (hQ : ∀ (r : Bool) (a' : Act) (W' : World), a'.tmps.size = 29 → a'.defers = a.defers → (∀ t : Nat, t < 11 ∨ 28 ≤ t → a'.tmps[t]? = a.tmps[t]?) → a'.tmps[27]? = some (.bool r) → (r = false → C W') → (r = true → B W' ∨ D W') → Q .normal a' W') :
    (Code.region 4 W4 true).wpIn Fence.wide 0 Tryz.prog Q a W := by
  refine wpIn_region_any (by kernel_rfl) ?_
  have e0 : Array.replicate W4.size false = upTo W4.size 0 := by kernel_rfl
  rw [e0]
  show wpAnyIn Fence.wide 0 Tryz.prog .any W4 Q (5 + 12) (upTo W4.size 0) a W.drew
  refine anyIn_run 11 0 5 5 (v1 u lp b off i (.agg us.toArray)) (by omega) (of_decide_eq_true (by kernel_rfl)) (by kernel_rfl) ?_ (by omega) ?_ ?_
  · intro j _ hj
    match j, hj with
    | 0, _ => exact ⟨w4 0, by kernel_rfl, by kernel_rfl⟩
    | 1, _ => exact ⟨w4 1, by kernel_rfl, by kernel_rfl⟩
    | 2, _ => exact ⟨w4 2, by kernel_rfl, by kernel_rfl⟩
    | 3, _ => exact ⟨w4 3, by kernel_rfl, by kernel_rfl⟩
    | 4, _ => exact ⟨w4 4, by kernel_rfl, by kernel_rfl⟩
    | j + 5, h => exact absurd h (by omega)
  · intro j _ hj o ho a' hs' hdep hoth
    match j, hj with
    | 0, _ =>
      obtain rfl : w4 0 = o := Option.some.inj ((show W4[0]? = some (w4 0) by kernel_rfl).symm.trans ho)
      exact told_n (by kernel_rfl) (by kernel_rfl) (x_load (t := 60) (x := .tmp 1) (by kernel_rfl) (act_eval ((hoth 1 (by omega)).trans t1)) (by kernel_rfl) cY)
    | 1, _ =>
      obtain rfl : w4 1 = o := Option.some.inj ((show W4[1]? = some (w4 1) by kernel_rfl).symm.trans ho)
      have := x_move (P := Tryz.prog) (ev := a'.eval) (o := w4 1) (w := W.drew) (x := .tmp 0) (.inl (by kernel_rfl))
      rw [act_eval ((hoth 0 (by omega)).trans t0)] at this
      exact told_n (by kernel_rfl) (by kernel_rfl) this
    | 2, _ =>
      obtain rfl : w4 2 = o := Option.some.inj ((show W4[2]? = some (w4 2) by kernel_rfl).symm.trans ho)
      have := x_move (P := Tryz.prog) (ev := a'.eval) (o := w4 2) (w := W.drew) (x := .tmp 5) (.inl (by kernel_rfl))
      rw [act_eval ((hoth 5 (by omega)).trans t5)] at this
      exact told_n (by kernel_rfl) (by kernel_rfl) this
    | 3, _ =>
      obtain rfl : w4 3 = o := Option.some.inj ((show W4[3]? = some (w4 3) by kernel_rfl).symm.trans ho)
      have d1 : a'.tmps[12]? = some u := hdep ⟨1, .data⟩ (after_mem (l := #[⟨1, .data⟩, ⟨2, .data⟩]) (by kernel_rfl) (by simp)) rfl (by decide) (by decide)
      have d2 : a'.tmps[13]? = some (.int .i64 (i : Int)) := hdep ⟨2, .data⟩ (after_mem (l := #[⟨1, .data⟩, ⟨2, .data⟩]) (by kernel_rfl) (by simp)) rfl (by decide) (by decide)
      exact told_n (by kernel_rfl) (by kernel_rfl) (x_index (t := 23) (x := .tmp 12) (ix := .tmp 13) (by kernel_rfl) (by rw [act_eval d1, hu]) (act_eval d2) und23 inf43 hi)
    | 4, _ =>
      obtain rfl : w4 4 = o := Option.some.inj ((show W4[4]? = some (w4 4) by kernel_rfl).symm.trans ho)
      have d1 : a'.tmps[14]? = some (pt b (off + i * 11)) := hdep ⟨3, .data⟩ (after_mem (l := #[⟨3, .data⟩]) (by kernel_rfl) (by simp)) rfl (by decide) (by decide)
      exact told_n (by kernel_rfl) (by kernel_rfl) (x_load_agg (t := 43) (x := .tmp 14) (by kernel_rfl) (act_eval d1) (by kernel_rfl) inf43 hus cE)
    | j + 5, h => exact absurd h (by omega)
  obtain ⟨a1, ha1⟩ : ∃ a1, a1 = putsC 11 (v1 u lp b off i (.agg us.toArray)) a 0 (5 - 0) := ⟨_, rfl⟩
  have s1 := putsC_size 11 (v1 u lp b off i (.agg us.toArray)) a 0 (5 - 0)
  have g1 := putsC_get 11 (v1 u lp b off i (.agg us.toArray)) a 0 (5 - 0) (by omega)
  rw [← ha1] at s1 g1 ⊢
  have f11 : a1.tmps[11]? = some (.func (.yield lp) #[] #[]) := by rw [g1]; rfl
  have f15 : a1.tmps[15]? = some (.agg us.toArray) := by rw [g1]; rfl
  refine anyIn_yield (i := 5) (o := w4 5) (x := .tmp 11) (args := #[.tmp 15]) (tys := #[43]) (L' := upTo W4.size 6) (g := 11) (by kernel_rfl) (by kernel_rfl) (by kernel_rfl) (wanted_none (by kernel_rfl) _) (by kernel_rfl) (act_eval f11) (by simpa [act_eval f15] using hY) ?_
  have hd5 : (w4 5).dst = some 16 := by kernel_rfl
  have phase2 : ∀ (q : Bool) (W2 : World), (q = true → A W2) → (q = false → B W2) → wpAnyIn Fence.wide 0 Tryz.prog .any W4 Q 11 (upTo W4.size 6) (a1.put (w4 5).dst (.bool q)) W2 := by
    intro q W2 hqA hqB
    rw [hd5]
    obtain ⟨a2, ha2⟩ : ∃ a2, a2 = a1.put (some 16) (.bool q) := ⟨_, rfl⟩
    rw [← ha2]
    have s2 : a2.tmps.size = 29 ∧ a2.defers = a.defers := by subst ha2; exact ⟨by simp [Act.put, s1.1, hsz], by simp [Act.put, s1.2]⟩
    have g2 : ∀ t : Nat, t < 11 ∨ 17 ≤ t → a2.tmps[t]? = a.tmps[t]? := by
      intro t ht; subst ha2
      simp only [Act.put]
      rw [Array.getElem?_setIfInBounds_ne (by omega), g1, if_neg (by omega)]
    have f16 : a2.tmps[16]? = some (.bool q) := by
      subst ha2; simp only [Act.put]; rw [Array.getElem?_setIfInBounds_self_of_lt (by rw [s1.1]; omega)]
    refine anyIn_run 11 6 8 2 (fun _ => .bool (!q)) (g := 9) (by omega) (of_decide_eq_true (by kernel_rfl)) (by kernel_rfl) ?_ (by omega) ?_ ?_
    · intro j h1 h2
      match j, h1, h2 with
      | 6, _, _ => exact ⟨w4 6, by kernel_rfl, by kernel_rfl⟩
      | 7, _, _ => exact ⟨w4 7, by kernel_rfl, by kernel_rfl⟩
      | j + 8, _, h => exact absurd h (by omega)
    · intro j h1 h2 o ho a' hs' hdep hoth
      match j, h1, h2 with
      | 6, _, _ =>
        obtain rfl : w4 6 = o := Option.some.inj ((show W4[6]? = some (w4 6) by kernel_rfl).symm.trans ho)
        exact told_n (by kernel_rfl) (by kernel_rfl) (x_not (t := 4) (x := .tmp 16) (by kernel_rfl) (act_eval ((hoth 16 (by omega)).trans f16)))
      | 7, _, _ =>
        obtain rfl : w4 7 = o := Option.some.inj ((show W4[7]? = some (w4 7) by kernel_rfl).symm.trans ho)
        have d1 : a'.tmps[17]? = some (.bool (!q)) := hdep ⟨6, .data⟩ (after_mem (l := #[⟨6, .data⟩, ⟨5, .chain⟩]) (by kernel_rfl) (by simp)) rfl (by decide) (by decide)
        have := x_move (P := Tryz.prog) (ev := a'.eval) (o := w4 7) (w := W2) (x := .tmp 17) (.inl (by kernel_rfl))
        rw [act_eval d1] at this
        exact told_n (by kernel_rfl) (by kernel_rfl) this
      | j + 8, _, h => exact absurd h (by omega)
    obtain ⟨a3, ha3⟩ : ∃ a3, a3 = putsC 11 (fun _ => .bool (!q)) a2 6 (8 - 6) := ⟨_, rfl⟩
    have s3 := putsC_size 11 (fun _ => .bool (!q)) a2 6 (8 - 6)
    have g3 := putsC_get 11 (fun _ => .bool (!q)) a2 6 (8 - 6) (by omega)
    rw [← ha3] at s3 g3 ⊢
    have k3 : ∀ t : Nat, t < 11 ∨ 19 ≤ t → a3.tmps[t]? = a.tmps[t]? := by
      intro t ht; rw [g3, if_neg (by omega), g2 t (by omega)]
    have f18 : a3.tmps[18]? = some (.bool (!q)) := by rw [g3]; rfl
    have z3 : a3.tmps.size = 29 := s3.1.trans s2.1
    cases q with
    | false =>
      refine anyIn_run 11 8 17 9 (vF) (g := 0) (by omega) (of_decide_eq_true (by kernel_rfl)) (by kernel_rfl) ?_ (by omega) ?_ ?_
      · intro j h1 h2
        match j, h1, h2 with
        | 8, _, _ => exact ⟨w4 8, by kernel_rfl, by kernel_rfl⟩
        | 9, _, _ => exact ⟨w4 9, by kernel_rfl, by kernel_rfl⟩
        | 10, _, _ => exact ⟨w4 10, by kernel_rfl, by kernel_rfl⟩
        | 11, _, _ => exact ⟨w4 11, by kernel_rfl, by kernel_rfl⟩
        | 12, _, _ => exact ⟨w4 12, by kernel_rfl, by kernel_rfl⟩
        | 13, _, _ => exact ⟨w4 13, by kernel_rfl, by kernel_rfl⟩
        | 14, _, _ => exact ⟨w4 14, by kernel_rfl, by kernel_rfl⟩
        | 15, _, _ => exact ⟨w4 15, by kernel_rfl, by kernel_rfl⟩
        | 16, _, _ => exact ⟨w4 16, by kernel_rfl, by kernel_rfl⟩
        | j + 17, _, h => exact absurd h (by omega)
      · intro j h1 h2 o ho a' hs' hdep hoth
        have e18 : a'.tmps[18]? = some (.bool (!false)) := (hoth 18 (by omega)).trans f18
        match j, h1, h2 with
        | 8, _, _ =>
          obtain rfl : w4 8 = o := Option.some.inj ((show W4[8]? = some (w4 8) by kernel_rfl).symm.trans ho)
          exact told_p (j := 7) (t := 18) (b := false) (by kernel_rfl) (by kernel_rfl) e18
        | 9, _, _ =>
          obtain rfl : w4 9 = o := Option.some.inj ((show W4[9]? = some (w4 9) by kernel_rfl).symm.trans ho)
          exact told_p (j := 7) (t := 18) (b := false) (by kernel_rfl) (by kernel_rfl) e18
        | 10, _, _ =>
          obtain rfl : w4 10 = o := Option.some.inj ((show W4[10]? = some (w4 10) by kernel_rfl).symm.trans ho)
          exact told_p (j := 7) (t := 18) (b := false) (by kernel_rfl) (by kernel_rfl) e18
        | 11, _, _ =>
          obtain rfl : w4 11 = o := Option.some.inj ((show W4[11]? = some (w4 11) by kernel_rfl).symm.trans ho)
          exact told_p (j := 7) (t := 18) (b := false) (by kernel_rfl) (by kernel_rfl) e18
        | 12, _, _ =>
          obtain rfl : w4 12 = o := Option.some.inj ((show W4[12]? = some (w4 12) by kernel_rfl).symm.trans ho)
          exact told_p (j := 7) (t := 18) (b := false) (by kernel_rfl) (by kernel_rfl) e18
        | 13, _, _ =>
          obtain rfl : w4 13 = o := Option.some.inj ((show W4[13]? = some (w4 13) by kernel_rfl).symm.trans ho)
          exact told_p (j := 7) (t := 18) (b := false) (by kernel_rfl) (by kernel_rfl) e18
        | 14, _, _ =>
          obtain rfl : w4 14 = o := Option.some.inj ((show W4[14]? = some (w4 14) by kernel_rfl).symm.trans ho)
          exact told_p (j := 7) (t := 18) (b := false) (by kernel_rfl) (by kernel_rfl) e18
        | 15, _, _ =>
          obtain rfl : w4 15 = o := Option.some.inj ((show W4[15]? = some (w4 15) by kernel_rfl).symm.trans ho)
          exact told_p (j := 7) (t := 18) (b := false) (by kernel_rfl) (by kernel_rfl) e18
        | 16, _, _ =>
          obtain rfl : w4 16 = o := Option.some.inj ((show W4[16]? = some (w4 16) by kernel_rfl).symm.trans ho)
          have := x_pick (P := Tryz.prog) (ev := a'.eval) (o := w4 16) (w := W2) (c := .tmp 18) (x := .const (.bool true)) (y := .tmp 26) (b := true) (by kernel_rfl) (act_eval e18)
          exact told_n (by kernel_rfl) (by kernel_rfl) this
        | j + 17, _, h => exact absurd h (by omega)
      have s4 := putsC_size 11 vF a3 8 (17 - 8)
      have g4 := putsC_get 11 vF a3 8 (17 - 8) (by omega)
      show Region.ready .any W4 (upTo W4.size 17) = [] ∧ _
      refine ⟨by kernel_rfl, hQ true _ W2 (s4.1.trans z3) (s4.2.trans (s3.2.trans s2.2)) (fun t ht => ?_) (by rw [g4]; rfl) (fun h => by cases h) (fun _ => .inl (hqB rfl))⟩
      rw [g4, if_neg (by omega), k3 t (by omega)]
    | true =>
      obtain ⟨cw, ck, hcall⟩ := hA W2 (hqA rfl)
      have e18s : a3.tmps[18]? = some (.bool false) := f18
      refine anyIn_run 11 8 14 6 (v3 u By Bw b off i k) (g := 3) (by omega) (of_decide_eq_true (by kernel_rfl)) (by kernel_rfl) ?_ (by omega) ?_ ?_
      · intro j h1 h2
        match j, h1, h2 with
        | 8, _, _ => exact ⟨w4 8, by kernel_rfl, by kernel_rfl⟩
        | 9, _, _ => exact ⟨w4 9, by kernel_rfl, by kernel_rfl⟩
        | 10, _, _ => exact ⟨w4 10, by kernel_rfl, by kernel_rfl⟩
        | 11, _, _ => exact ⟨w4 11, by kernel_rfl, by kernel_rfl⟩
        | 12, _, _ => exact ⟨w4 12, by kernel_rfl, by kernel_rfl⟩
        | 13, _, _ => exact ⟨w4 13, by kernel_rfl, by kernel_rfl⟩
        | j + 14, _, h => exact absurd h (by omega)
      · intro j h1 h2 o ho a' hs' hdep hoth
        have e18 : a'.tmps[18]? = some (.bool false) := (hoth 18 (by omega)).trans e18s
        match j, h1, h2 with
        | 8, _, _ =>
          obtain rfl : w4 8 = o := Option.some.inj ((show W4[8]? = some (w4 8) by kernel_rfl).symm.trans ho)
          exact told_g (j := 7) (t := 18) (b := false) (by kernel_rfl) (by kernel_rfl) e18 (by kernel_rfl) (x_load (t := 61) (x := .tmp 2) (by kernel_rfl) (act_eval ((hoth 2 (by omega)).trans ((k3 2 (by omega)).trans t2))) (by kernel_rfl) cw)
        | 9, _, _ =>
          obtain rfl : w4 9 = o := Option.some.inj ((show W4[9]? = some (w4 9) by kernel_rfl).symm.trans ho)
          have := x_move (P := Tryz.prog) (ev := a'.eval) (o := w4 9) (w := W2) (x := .tmp 0) (.inl (by kernel_rfl))
          rw [act_eval ((hoth 0 (by omega)).trans ((k3 0 (by omega)).trans t0))] at this
          exact told_g (j := 7) (t := 18) (b := false) (by kernel_rfl) (by kernel_rfl) e18 (by kernel_rfl) this
        | 10, _, _ =>
          obtain rfl : w4 10 = o := Option.some.inj ((show W4[10]? = some (w4 10) by kernel_rfl).symm.trans ho)
          have := x_move (P := Tryz.prog) (ev := a'.eval) (o := w4 10) (w := W2) (x := .tmp 5) (.inl (by kernel_rfl))
          rw [act_eval ((hoth 5 (by omega)).trans ((k3 5 (by omega)).trans t5))] at this
          exact told_g (j := 7) (t := 18) (b := false) (by kernel_rfl) (by kernel_rfl) e18 (by kernel_rfl) this
        | 11, _, _ =>
          obtain rfl : w4 11 = o := Option.some.inj ((show W4[11]? = some (w4 11) by kernel_rfl).symm.trans ho)
          have d1 : a'.tmps[20]? = some u := hdep ⟨9, .data⟩ (after_mem (l := #[⟨9, .data⟩, ⟨10, .data⟩, ⟨7, .guard⟩]) (by kernel_rfl) (by simp)) rfl (by decide) (by decide)
          have d2 : a'.tmps[21]? = some (.int .i64 (i : Int)) := hdep ⟨10, .data⟩ (after_mem (l := #[⟨9, .data⟩, ⟨10, .data⟩, ⟨7, .guard⟩]) (by kernel_rfl) (by simp)) rfl (by decide) (by decide)
          exact told_g (j := 7) (t := 18) (b := false) (by kernel_rfl) (by kernel_rfl) e18 (by kernel_rfl) (x_index (t := 23) (x := .tmp 20) (ix := .tmp 21) (by kernel_rfl) (by rw [act_eval d1, hu]) (act_eval d2) und23 inf43 hi)
        | 12, _, _ =>
          obtain rfl : w4 12 = o := Option.some.inj ((show W4[12]? = some (w4 12) by kernel_rfl).symm.trans ho)
          have d1 : a'.tmps[22]? = some (pt b (off + i * 11)) := hdep ⟨11, .data⟩ (after_mem (l := #[⟨11, .data⟩, ⟨7, .guard⟩]) (by kernel_rfl) (by simp)) rfl (by decide) (by decide)
          exact told_g (j := 7) (t := 18) (b := false) (by kernel_rfl) (by kernel_rfl) e18 (by kernel_rfl) (x_field (s := 43) (f := 8) (off := 10) (ft := 23) (sz := 1) (x := .tmp 22) (by kernel_rfl) (act_eval d1) (by kernel_rfl) inf23 (by decide))
        | 13, _, _ =>
          obtain rfl : w4 13 = o := Option.some.inj ((show W4[13]? = some (w4 13) by kernel_rfl).symm.trans ho)
          have d1 : a'.tmps[23]? = some (pt b (off + i * 11 + 10)) := hdep ⟨12, .data⟩ (after_mem (l := #[⟨12, .data⟩, ⟨7, .guard⟩]) (by kernel_rfl) (by simp)) rfl (by decide) (by decide)
          exact told_g (j := 7) (t := 18) (b := false) (by kernel_rfl) (by kernel_rfl) e18 (by kernel_rfl) (x_load (t := 23) (x := .tmp 23) (by kernel_rfl) (act_eval d1) (by kernel_rfl) ck)
        | j + 14, _, h => exact absurd h (by omega)
      obtain ⟨a4, ha4⟩ : ∃ a4, a4 = putsC 11 (v3 u By Bw b off i k) a3 8 (14 - 8) := ⟨_, rfl⟩
      have s4 := putsC_size 11 (v3 u By Bw b off i k) a3 8 (14 - 8)
      have g4 := putsC_get 11 (v3 u By Bw b off i k) a3 8 (14 - 8) (by omega)
      rw [← ha4] at s4 g4 ⊢
      have f19 : a4.tmps[19]? = some (.func (.func 23) #[] #[pt By 0, pt Bw 0]) := by rw [g4]; rfl
      have f24 : a4.tmps[24]? = some k := by rw [g4]; rfl
      have f18' : a4.tmps[18]? = some (.bool false) := by rw [g4, if_neg (by omega)]; exact f18
      refine anyIn_call (i := 14) (o := w4 14) (x := .tmp 19) (args := #[.tmp 24]) (tys := #[23]) (L' := upTo W4.size 15) (g := 2) (f := 23) (by kernel_rfl) (by kernel_rfl) (by kernel_rfl) ?_ (by kernel_rfl) (act_eval f19) ent23 (by simpa [act_eval f24] using hcall) ?_
      · rw [wanted_raw (j := 7) (t := 18) (want := false) (b := false) (by kernel_rfl) (by kernel_rfl) f18']; rfl
      have hd14 : (w4 14).dst = some 25 := by kernel_rfl
      have phase3 : ∀ (r : Bool) (W3 : World), (r = true → C W3) → (r = false → D W3) → wpAnyIn Fence.wide 0 Tryz.prog .any W4 Q 2 (upTo W4.size 15) (a4.put (w4 14).dst (.bool r)) W3 := by
        intro r W3 hC hD
        rw [hd14]
        obtain ⟨a5, ha5⟩ : ∃ a5, a5 = a4.put (some 25) (.bool r) := ⟨_, rfl⟩
        rw [← ha5]
        have s5 : a5.tmps.size = 29 ∧ a5.defers = a.defers := by subst ha5; exact ⟨by simp [Act.put, s4.1, z3], by simp [Act.put, s4.2, s3.2, s2.2]⟩
        have g5 : ∀ t : Nat, t ≠ 25 → a5.tmps[t]? = a4.tmps[t]? := by
          intro t ht; subst ha5
          simp only [Act.put]
          rw [Array.getElem?_setIfInBounds_ne (by omega)]
        have f25 : a5.tmps[25]? = some (.bool r) := by
          subst ha5; simp only [Act.put]; rw [Array.getElem?_setIfInBounds_self_of_lt (by rw [s4.1, z3]; omega)]
        have f18'' : a5.tmps[18]? = some (.bool false) := (g5 18 (by omega)).trans f18'
        refine anyIn_run 11 15 17 2 (fun _ => .bool (!r)) (g := 0) (by omega) (of_decide_eq_true (by kernel_rfl)) (by kernel_rfl) ?_ (by omega) ?_ ?_
        · intro j h1 h2
          match j, h1, h2 with
          | 15, _, _ => exact ⟨w4 15, by kernel_rfl, by kernel_rfl⟩
          | 16, _, _ => exact ⟨w4 16, by kernel_rfl, by kernel_rfl⟩
          | j + 17, _, h => exact absurd h (by omega)
        · intro j h1 h2 o ho a' hs' hdep hoth
          have e18 : a'.tmps[18]? = some (.bool false) := (hoth 18 (by omega)).trans f18''
          match j, h1, h2 with
          | 15, _, _ =>
            obtain rfl : w4 15 = o := Option.some.inj ((show W4[15]? = some (w4 15) by kernel_rfl).symm.trans ho)
            exact told_g (j := 7) (t := 18) (b := false) (by kernel_rfl) (by kernel_rfl) e18 (by kernel_rfl) (x_not (t := 4) (x := .tmp 25) (by kernel_rfl) (act_eval ((hoth 25 (by omega)).trans f25)))
          | 16, _, _ =>
            obtain rfl : w4 16 = o := Option.some.inj ((show W4[16]? = some (w4 16) by kernel_rfl).symm.trans ho)
            have d1 : a'.tmps[26]? = some (.bool (!r)) := hdep ⟨15, .data⟩ (after_mem (l := #[⟨7, .data⟩, ⟨15, .data⟩]) (by kernel_rfl) (by simp)) rfl (by decide) (by decide)
            have := x_pick (P := Tryz.prog) (ev := a'.eval) (o := w4 16) (w := W3) (c := .tmp 18) (x := .const (.bool true)) (y := .tmp 26) (b := false) (by kernel_rfl) (act_eval e18)
            rw [if_neg (by decide), act_eval d1] at this
            exact told_n (by kernel_rfl) (by kernel_rfl) this
          | j + 17, _, h => exact absurd h (by omega)
        have s6 := putsC_size 11 (fun _ => Value.bool (!r)) a5 15 (17 - 15)
        have g6 := putsC_get 11 (fun _ => Value.bool (!r)) a5 15 (17 - 15) (by omega)
        show Region.ready .any W4 (upTo W4.size 17) = [] ∧ _
        refine ⟨by kernel_rfl, hQ (!r) _ W3 (s6.1.trans s5.1) (s6.2.trans s5.2) (fun t ht => ?_) (by rw [g6]; rfl) (fun h => hC (by cases r <;> simp_all)) (fun h => .inr (hD (by cases r <;> simp_all)))⟩
        rw [g6, if_neg (by omega), g5 t (by omega), g4, if_neg (by omega), k3 t (by omega)]
      rintro e W3 (⟨rfl, h⟩ | ⟨rfl, h⟩)
      · exact ⟨_, rfl, phase3 true W3 (fun _ => h) (fun h => by cases h)⟩
      · exact ⟨_, rfl, phase3 false W3 (fun h => by cases h) (fun _ => h)⟩
  rintro e W2 (⟨rfl, h⟩ | ⟨rfl, h⟩)
  · exact ⟨_, rfl, phase2 true W2 (fun _ => h) (fun h => by cases h)⟩
  · exact ⟨_, rfl, phase2 false W2 (fun h => by cases h) (fun _ => h)⟩
end Go.Proofs.YtclkkkpkbpdmdaaGreatDoor
namespace Go.Proofs.YtclkkkpkbpdmdaaGreatDoor
open Go Go.Eng Go.RowKit Go.Shelf
attribute [local go_sem] Oper.semAt_some
theorem wp_code {F : Fence} {n : Nat} {P : Program} {c c' : Code} {Q : Exit → Act → World → Prop} {a : Act} {w : World} (h : c' = c) (hw : c'.wpIn F n P Q a w) : c.wpIn F n P Q a w := h ▸ hw
theorem lsB_take {l : List DBlock} {i : Nat} (hi : i < l.length) : lsB (l.take (i + 1)) = lsB (l.take i) ++ (el l i :: lsB (el l i).fKids) := by
  have : l.take (i + 1) = l.take i ++ [el l i] := by rw [List.take_succ_eq_append_getElem hi]; simp [el, hi]
  rw [lsB_eq, this, List.flatMap_append, ← lsB_eq]; simp
theorem lsB_pre {l : List DBlock} (i : Nat) : lsB (l.take i) <+: lsB l := by
  rw [lsB_eq l, lsB_eq (l.take i)]
  conv => rhs; rw [← List.take_append_drop i l, List.flatMap_append]
  exact List.prefix_append _ _
def KC (n0 : Nat) (A B : World) : Prop := Below n0 A B ∧ ∀ (k : Nat) (o : Obj), A.heap[k]? = some o → o.isCells = true → B.heap[k]? = some o
theorem KC.refl (n0 : Nat) (A : World) : KC n0 A A := ⟨Below.refl _ _, fun _ _ h _ => h⟩
theorem KC.trans {n0 : Nat} {A B C : World} (h : KC n0 A B) (k : KC n0 B C) : KC n0 A C := ⟨h.1.trans k.1, fun i o hi ho => k.2 i o (h.2 i o hi ho) ho⟩
theorem KC.drew {n0 : Nat} (A : World) : KC n0 A A.drew := ⟨(Below.refl _ _).drew, fun _ _ h _ => h⟩
theorem KC.cell {n0 : Nat} {A B : World} (h : KC n0 A B) {a : Addr} {v : Value} (hc : A.cell? a = some v) : B.cell? a = some v := by
  obtain ⟨o, ho, hi⟩ := cells_of_cell hc
  exact (World.cell?_of_block ((h.2 _ _ ho hi).trans ho.symm)).trans hc
/-- A block of the document and its value. -/
def Al (U : Nat → Nat) (w : World) : Type := {p : DBlock × Value // Rep U w (aBlock p.1) p.2}
def Al.b {U : Nat → Nat} {w : World} (x : Al U w) : DBlock := x.1.1
def Al.v {U : Nat → Nat} {w : World} (x : Al U w) : Value := x.1.2
def bsA {U : Nat → Nat} {w : World} (xs : List (Al U w)) : List DBlock := xs.map Al.b
theorem arr29 {A : Array Value} (h : A.size = 29) : ∃ x0 x1 x2 x3 x4 x5 x6 x7 x8 x9 x10 x11 x12 x13 x14 x15 x16 x17 x18 x19 x20 x21 x22 x23 x24 x25 x26 x27 x28, A = #[x0, x1, x2, x3, x4, x5, x6, x7, x8, x9, x10, x11, x12, x13, x14, x15, x16, x17, x18, x19, x20, x21, x22, x23, x24, x25, x26, x27, x28] := by
  obtain ⟨l⟩ := A
  simp only [List.size_toArray] at h
  match l, h with
  | [x0, x1, x2, x3, x4, x5, x6, x7, x8, x9, x10, x11, x12, x13, x14, x15, x16, x17, x18, x19, x20, x21, x22, x23, x24, x25, x26, x27, x28], _ => exact ⟨x0, x1, x2, x3, x4, x5, x6, x7, x8, x9, x10, x11, x12, x13, x14, x15, x16, x17, x18, x19, x20, x21, x22, x23, x24, x25, x26, x27, x28, rfl⟩
set_option maxRecDepth 100000 in
set_option maxHeartbeats 4000000 in
theorem walk_in (lp By Bw n0 N : Nat) (U : Nat → Nat) (w : World) (hU : ∀ b, 0 < U b → b < n0) (J Jx : List (Al U w) → World → Prop) (hJd : ∀ s W, J s W → J s W.drew)
    (hY : ∀ pre x W, J pre W → pre.length < N → YieldAt Fence.wide 0 Tryz.prog lp #[Al.v x] W fun e W' => (e = .returned (.bool true) ∧ J (pre ++ [x]) W' ∧ KC n0 W W') ∨ (e = .returned (.bool false) ∧ Jx (pre ++ [x]) W')) :
    ∀ (n : Nat) (l : List DBlock) (u : Value) (pre : List (Al U w)) (W : World), wl wBlock l < n → wl wBlock l ≤ 1073741824 → Rep U w (.sl (l.map aBlock)) u → J pre W → Below n0 w W → pre.length + (lsB l).length ≤ N →
      W.cell? ⟨By, 0, none⟩ = some (.func (.yield lp) #[] #[]) → W.cell? ⟨Bw, 0, none⟩ = some (.func (.func 23) #[] #[pt By 0, pt Bw 0]) →
      CallsIn Fence.wide 0 Tryz.prog 23 #[u, pt By 0, pt Bw 0] W fun e W' =>
        (e = .returned (.bool true) ∧ ∃ xs, bsA xs = lsB l ∧ J (pre ++ xs) W' ∧ KC n0 W W') ∨ (e = .returned (.bool false) ∧ ∃ xs, bsA xs <+: lsB l ∧ Jx (pre ++ xs) W') := by
  intro n
  induction n with
  | zero => intro l u pre W h; omega
  | succ n ih =>
    intro l u pre W hn hmx hu hJ hbw hN cY cW
    obtain ⟨ad, cap, es, sz, rfl, _⟩ := id hu
    rw [List.length_map] at hu ⊢
    refine callsIn_of_wp Tryz.func23 rfl trivial ?_ rfl
    simp only [Tryz.ntmps23, List.size_toArray, List.length_cons, List.length_nil, Nat.reduceAdd, Nat.reduceSub, Array.replicate_succ, Array.replicate_zero, List.push_toArray, List.append_toArray, List.nil_append, List.cons_append]
    unfold pt
    gi_wp2
    gi_loopw [8] (fun p wr => ∃ (i : Nat) (xs : List (Al U w)), p = .int .i64 i ∧ i ≤ l.length ∧ bsA xs = lsB (l.take i) ∧ J (pre ++ xs) wr ∧ KC n0 W wr)
      (fun p wr => match p with | .int _ i => l.length - i.toNat | _ => 0)
    case atStart => exact ⟨0, [], rfl, Nat.zero_le _, by rw [List.take_zero, lsB_eq]; rfl, by simpa using hJ, KC.refl _ _⟩
    case round =>
      obtain ⟨i, xs, rfl, hi, hx, hJs, hk⟩ := hrel
      by_cases hlt : i < l.length
      · have hd : ((i : Int) < (l.length : Int)) := by omega
        gi_wp2
        have hwl := wl_len (w := wBlock) wBlock_pos l
        have hwr : wrap64 ((i : Int) + 1) = (i : Int) + 1 := by unfold wrap64; omega
        have hwk := wl_mem (w := wBlock) (el_mem hlt)
        have hwe := wBlock_eq (el l i)
        have hls : (lsB (l.take (i + 1))).length ≤ (lsB l).length := (lsB_pre (i + 1)).length_le
        rw [lsB_take hlt, ← hx, List.length_append, List.length_cons] at hls
        have hxl : (bsA xs).length = xs.length := List.length_map _
        obtain ⟨b, off, cap', us, hue, hus, hUb, hcell, hrep, k, hk10, hkrep⟩ := blk_at hu hlt
        obtain ⟨rfl, -⟩ : ad = some ⟨b, off, none⟩ ∧ cap = cap' := by cases hue; exact ⟨rfl, rfl⟩
        have hbn := hU b hUb
        obtain ⟨x, hxd⟩ : ∃ x : Al U w, x = ⟨(el l i, .agg us.toArray), hrep⟩ := ⟨_, rfl⟩
        have hxb : x.b = el l i := by rw [hxd]; rfl
        have hxv : x.v = .agg us.toArray := by rw [hxd]; rfl
        refine wp_code (c' := Code.region 4 W4 true) (by kernel_rfl) ?_
        refine r4_in (u := .slice (some ⟨b, off, none⟩) l.length cap) (k := k) (us := us) (i := i) (lp := lp) (By := By) (Bw := Bw) (b := b) (off := off) (len := l.length) (cap := cap)
          (A := fun W' => J (pre ++ xs ++ [x]) W' ∧ KC n0 W W') (B := fun W' => Jx (pre ++ xs ++ [x]) W')
          (C := fun W' => ∃ ys, bsA ys = lsB (el l i).fKids ∧ J (pre ++ xs ++ [x] ++ ys) W' ∧ KC n0 W W') (D := fun W' => ∃ ys, bsA ys <+: lsB (el l i).fKids ∧ Jx (pre ++ xs ++ [x] ++ ys) W')
          rfl rfl rfl rfl rfl rfl hlt hus hk10 ((hk.trans (KC.drew _)).cell cY) (fun j y hj => ((hbw.trans (hk.trans (KC.drew _)).1).cell (p := ⟨b, off + i * 11 + j, none⟩) hbn).trans (hcell j y hj)) ?_ ?_ ?_
        · rw [← hxv]
          refine YieldAt.mono (hY (pre ++ xs) x wr.drew (hJd _ _ hJs) (by rw [List.length_append]; omega)) ?_
          rintro e W' (⟨he, h1, h2⟩ | ⟨he, h1⟩)
          · exact .inl ⟨he, h1, (hk.trans (KC.drew _)).trans h2⟩
          · exact .inr ⟨he, h1⟩
        · rintro W' ⟨h1, h2⟩
          refine ⟨h2.cell cW, ((hbw.trans h2.1).cell (p := ⟨b, off + i * 11 + 10, none⟩) hbn).trans (hcell 10 k hk10), ?_⟩
          refine (ih (el l i).fKids k (pre ++ xs ++ [x]) W' (by omega) (by omega) hkrep h1 (hbw.trans h2.1) (by simp only [List.length_append, List.length_cons, List.length_nil]; omega) (h2.cell cY) (h2.cell cW)).mono ?_
          rintro e W'' (⟨he, ys, h3, h4, h5⟩ | ⟨he, ys, h3, h4⟩)
          · exact .inl ⟨he, ys, h3, h4, h2.trans h5⟩
          · exact .inr ⟨he, ys, h3, h4⟩
        · rintro r ⟨tm, df⟩ W' hsz hdf htm h27 hC hBD
          simp only at hsz hdf htm h27
          obtain ⟨x0, x1, x2, x3, x4, x5, x6, x7, x8, x9, x10, x11, x12, x13, x14, x15, x16, x17, x18, x19, x20, x21, x22, x23, x24, x25, x26, x27, x28, rfl⟩ := arr29 hsz
          have q0 := htm 0 (by omega); have q1 := htm 1 (by omega); have q2 := htm 2 (by omega); have q3 := htm 3 (by omega); have q4 := htm 4 (by omega); have q5 := htm 5 (by omega)
          have q6 := htm 6 (by omega); have q7 := htm 7 (by omega); have q8 := htm 8 (by omega); have q9 := htm 9 (by omega); have q10 := htm 10 (by omega); have q28 := htm 28 (by omega)
          clear htm hsz
          simp at q0 q1 q2 q3 q4 q5 q6 q7 q8 q9 q10 q28 h27
          subst q0 q1 q2 q3 q4 q5 q6 q7 q8 q9 q10 q28 h27 hdf
          clear hY ih
          cases r with
          | true =>
            obtain ⟨hB2, -⟩ : Hid (Jx (pre ++ xs ++ [x]) W' ∨ ∃ ys, bsA ys <+: lsB (el l i).fKids ∧ Jx (pre ++ xs ++ [x] ++ ys) W') ∧ True := ⟨hBD rfl, trivial⟩
            clear hC hBD
            gi_wp2
            go_ret
            refine .inr ⟨rfl, ?_⟩
            rcases hB2.out with h | ⟨ys, h1, h2⟩
            · refine ⟨xs ++ [x], ?_, by rw [← List.append_assoc]; exact h⟩
              refine List.IsPrefix.trans ?_ (lsB_pre (i + 1))
              rw [lsB_take hlt, ← hx]
              exact ⟨lsB (el l i).fKids, by simp [bsA, hxb]⟩
            · refine ⟨xs ++ [x] ++ ys, ?_, by simp only [← List.append_assoc]; exact h2⟩
              refine List.IsPrefix.trans ?_ (lsB_pre (i + 1))
              rw [lsB_take hlt, ← hx]
              obtain ⟨t, ht⟩ := h1
              exact ⟨t, by simp only [bsA, List.map_append, List.map_cons, List.map_nil, hxb, List.append_assoc]; rw [← ht]; simp [bsA]⟩
          | false =>
            obtain ⟨ys, h1, h2, h3⟩ := hC rfl
            clear hBD hC
            gi_wp2
            go_roundw
            case rel => exact ⟨i + 1, xs ++ [x] ++ ys, rfl, hlt, by rw [lsB_take hlt, ← hx, ← h1]; simp [bsA, hxb], by simp only [← List.append_assoc]; exact h2, h3⟩
            case measure => simp; omega
      · have hd : ¬ ((i : Int) < (l.length : Int)) := by omega
        gi_wp2
        go_ret
        obtain rfl : i = l.length := by omega
        rw [List.take_length] at hx
        exact .inl ⟨rfl, xs, hx, hJs, hk⟩
end Go.Proofs.YtclkkkpkbpdmdaaGreatDoor
namespace Go.Proofs.YtclkkkpkbpdmdaaGreatDoor
open Go Go.Eng Go.RowKit Go.Shelf
attribute [local go_sem] Oper.semAt_some
theorem cell_new_k' (W : World) (v : Value) (t : TypeId) : (W.alloc (.cells #[v] t)).cell? ⟨W.heap.size, 0, none⟩ = some v ∧ (W.alloc (.cells #[v] t)).frozen? ⟨W.heap.size, 0, none⟩ = false := by
  have h := World.alloc_heap_new W (.cells #[v] t)
  constructor <;> simp only [World.cell?, World.frozen?, h] <;> rfl
theorem grownBy_drew' {w w' : World} {row : Option Nat} (h : w.grownBy w' row) : w.grownBy w'.drew row := ⟨h.os, h.tape, h.output, h.size, h.block⟩
set_option maxRecDepth 100000 in
set_option maxHeartbeats 4000000 in
theorem each1_in (Bl n0 : Nat) (U : Nat → Nat) (w w0 : World) (l : List DBlock) (u : Value) (hU : ∀ b, 0 < U b → b < n0) (hmx : wl wBlock l ≤ 1073741824) (hu : Rep U w (.sl (l.map aBlock)) u) (hw : Below n0 w w0) (hn0 : n0 ≤ w0.heap.size)
    (hB : Bl < w0.heap.size) (hc : w0.cell? ⟨Bl, 0, none⟩ = some u) :
    SeqStopsK Fence.wide 0 Tryz.prog 22 #[pt Bl 0] (fun x : Al U w => #[x.v]) (KC n0) (fun xs => bsA xs = lsB l) (fun pre => bsA pre <+: lsB l) (lsB l).length w0 := by
  intro lp J Jx W hW hJ _ hY h0
  obtain ⟨W1, hW1⟩ : ∃ W1, (W.alloc (.cells #[.func (.yield lp) #[] #[]] 60)).alloc (.cells #[.func (.func 23) #[] #[pt W.heap.size 0, pt (W.heap.size + 1) 0]] 61) = W1 := ⟨_, rfl⟩
  have hcl : W.cell? ⟨Bl, 0, none⟩ = some u := (hW.cell (p := ⟨Bl, 0, none⟩) hB).trans hc
  obtain ⟨ad, cap, es, sz, rfl, _⟩ := id hu
  have hbl : Bl < W.heap.size := Nat.lt_of_lt_of_le hB hW.size
  have g1 : W.grownBy W1 none := by
    rw [← hW1]
    refine ⟨rfl, rfl, rfl, by simp; omega, fun k hk _ => ?_⟩
    rw [Below.heap_alloc _ _ _ (by simp; omega), Below.heap_alloc _ _ _ hk]
  have c3 : W1.cell? ⟨W.heap.size + 1, 0, none⟩ = some (.func (.func 23) #[] #[pt W.heap.size 0, pt (W.heap.size + 1) 0]) := by
    rw [← hW1]
    have := (cell_new_k' (W.alloc (.cells #[.func (.yield lp) #[] #[]] 60)) (.func (.func 23) #[] #[pt W.heap.size 0, pt (W.heap.size + 1) 0]) 61).1
    rwa [World.size_alloc] at this
  have c2 : W1.cell? ⟨W.heap.size, 0, none⟩ = some (.func (.yield lp) #[] #[]) := by
    rw [← hW1]
    refine (World.cell?_of_block (Below.heap_alloc _ _ _ (by simp))).trans ?_
    exact (cell_new_k' W _ _).1
  have cB : W1.cell? ⟨Bl, 0, none⟩ = some (.slice ad (l.map aBlock).length cap) := (World.cell?_of_block (g1.block Bl hbl (by simp))).trans hcl
  have hb1 : Below n0 w W1 := (hw.trans (hW.mono hn0)).trans ((Below.refl _ _).grown g1 (Nat.le_trans hn0 hW.size) (by simp))
  have j1 : J [] W1 := hJ _ _ _ none h0 g1 (by simp)
  have hp := walk_in lp W.heap.size (W.heap.size + 1) n0 (lsB l).length U w hU (fun xs A => J xs A ∧ W.heap.size ≤ A.heap.size) Jx (fun s A h => ⟨hJ _ A A.drew none h.1 (grownBy_drew' (World.grownBy.refl _ _)) (by simp), h.2⟩)
    (fun pre x A h hl => (hY pre x A h.1 hl).mono (fun e A' h' => h'.imp (fun ⟨q1, q2, q3⟩ => ⟨q1, ⟨q2, Nat.le_trans h.2 q3.1.size⟩, q3⟩) id)) (wl wBlock l + 1) l _ [] W1 (Nat.lt_succ_self _) hmx hu ⟨j1, g1.size⟩ hb1 (by simp) c2 c3
  refine callsIn_of_wp Tryz.func22 rfl trivial ?_ rfl
  simp only [Tryz.ntmps22, List.size_toArray, List.length_cons, List.length_nil, Nat.reduceAdd, Nat.reduceSub, Array.replicate_succ, Array.replicate_zero, List.push_toArray, List.append_toArray, List.nil_append, List.cons_append]
  rw [List.length_map] at hp
  unfold pt at hW1 ⊢
  gi_wp2
  refine ⟨trivial, rfl, hp.mono ?_⟩
  rintro e W3 (⟨rfl, xs, h1, h2, _⟩ | ⟨rfl, xs, h1, h2⟩)
  · clear hp hY
    gi_wp2
    go_end0
    exact ⟨⟨_, rfl⟩, .inl ⟨xs, h1, h2.1⟩⟩
  · clear hp hY
    gi_wp2
    go_end0
    exact ⟨⟨_, rfl⟩, .inr ⟨xs, h1, h2⟩⟩
set_option maxHeartbeats 1000000 in
theorem each_in (w : World) (ad : Option Addr) (n cap : Nat) (u : Value) (hu : u = .slice ad n cap) :
    CallsIn Fence.wide 0 Tryz.prog 11 #[u] w fun e w' => e = .returned (.func (.func 22) #[] #[pt w.heap.size 0]) ∧ w' = w.alloc (.cells #[u] 23) := by
  subst hu
  refine callsIn_of_wp Tryz.func11 rfl trivial ?_ rfl
  simp only [Tryz.ntmps11, List.size_toArray, List.length_cons, List.length_nil, Nat.reduceAdd, Nat.reduceSub, Array.replicate_succ, Array.replicate_zero, List.push_toArray, List.append_toArray, List.nil_append, List.cons_append]
  gi_wp2
  go_ret
  exact ⟨rfl, rfl⟩
end Go.Proofs.YtclkkkpkbpdmdaaGreatDoor
namespace Go.Proofs.YtclkkkpkbpdmdaaGreatDoor
open Go Go.Eng
def restOf : Code → Code
  | .seq _ (.seq _ r) => r
  | c => c
noncomputable def R6 : Code := restOf (bodyOf Tryz.f6)
def S6 (d : DDoc) : St := sx 48 [(1, .ptr 1 0), (2, .ptr 2 0)] [(1, .cells 25 (sDoc d)), (2, .cells 4 [jB false])] []
def plnI_L1 (d : DDoc) (v25 : Nat) (k0 : Nat → Bool) : Nat → Nat → Bool
  | 0, _ => default
  | n1 + 1, w39 => cond (decide ((((w39 : Nat) : Int) : Int) < ((lenM aPair (((el (ilsB d.fBlocks) v25).fAttr).fPairs) : Nat) : Int))) (cond (eqs ((el (((el (ilsB d.fBlocks) v25).fAttr).fPairs) w39).fKey) (⟨#[119, 104, 101, 110]⟩)) (false) (plnI_L1 d v25 k0 n1 (w39 + 1))) (k0 (v25 + 1))
def plnI_L0 (d : DDoc) : Nat → Nat → Bool
  | 0, _ => default
  | n0 + 1, v25 => cond (decide ((((v25 : Nat) : Int) : Int) < ((lenM aInline (ilsB d.fBlocks) : Nat) : Int))) (cond ((((el (ilsB d.fBlocks) v25).fKind : Int) == 15)) (false) (cond ((((el (ilsB d.fBlocks) v25).fKind : Int) == 11)) (plnI_L1 d v25 (plnI_L0 d n0) ((List.length (((el (ilsB d.fBlocks) v25).fAttr).fPairs) - (0)) + 1) 0) (plnI_L0 d n0 (v25 + 1)))) (true)
def plnI (d : DDoc) : Bool := plnI_L0 d ((List.length (ilsB d.fBlocks) - (0)) + 1) 0
set_option maxRecDepth 100000 in
set_option maxHeartbeats 4000000 in
theorem plnI_nx (d : DDoc) (hd : wDoc d ≤ 1073741824) : Nx Tryz.prog (KE Tryz.prog Tryz.f6 (fun r : Bool => jB r) [] []) (plnI d) (Go.Eng.start R6 (S6 d)) := by
  have hwd := wDoc_eq d
  have hil := ilsB_len d.fBlocks (by omega)
  refine UF (plnI.eq_1 ..) ?_
  refine GO (tn 2 (kc (ilsT_to d.fBlocks (by first | assumption | omega | decide | (simp; done) | (simp; omega))) (tn 2 z))) (by kernel_rfl) ?_
  refine LP (fun N M S => ∃ v25 : Nat, (List.length (ilsB d.fBlocks) - v25 < N) ∧ M = plnI_L0 d N v25 ∧ S = (sx 48 [(2, (.ptr 2 0)), (23, (jL ((ilsB d.fBlocks).map aInline))), (24, (jI (((lenM aInline (ilsB d.fBlocks) : Nat) : Int)))), (25, (jI (((v25 : Nat) : Int))))] [(2, (.cells 4 [(jB (false))]))] [])) (by kernel_rfl) ⟨_, by omega, rfl, rfl⟩ (WK (by kernel_rfl)) ?_
  rintro n0 M S ⟨v25, hF0, rfl, rfl⟩
  obtain ⟨n0, rfl⟩ : ∃ k, n0 = k + 1 := ⟨n0 - 1, by omega⟩
  refine UF (plnI_L0.eq_2 ..) ?_
  refine GO (tn 1 z) (by kernel_rfl) ?_
  refine CSd (fun h1p h1 => ?_) (fun h1p h1 => ?_)
  · have := lenM_eq aInline (ilsB d.fBlocks)
    have hm := ilsB_mem d.fBlocks _ (el_mem (l := ilsB d.fBlocks) (i := v25) (by omega))
    have hmw := wInline_eq (el (ilsB d.fBlocks) v25)
    have hmA := wAttr_eq (el (ilsB d.fBlocks) v25).fAttr
    have hmp := wl_len (w := wPair) wPair_pos (el (ilsB d.fBlocks) v25).fAttr.fPairs
    refine GO (kb h1 (ke (el_aInline (ilsB d.fBlocks) v25 (by first | omega | (simp only [lenM_eq, true_and]; omega))) (tn 7 z))) (by kernel_rfl) ?_
    refine CSe (fun h2p h2 => ?_) (fun h2p h2 => ?_)
    · refine GO (kb h2 (tn 1 z)) (by kernel_rfl) ?_
      refine OUT z (by kernel_rfl) ?_
      exact EN (by kernel_rfl)
    · refine GO (kb h2 (tn 2 z)) (by kernel_rfl) ?_
      refine CSe (fun h3p h3 => ?_) (fun h3p h3 => ?_)
      · refine GO (kb h3 (tn 5 z)) (by kernel_rfl) ?_
        refine LP (fun N M S => ∃ w39 : Nat, (List.length (((el (ilsB d.fBlocks) v25).fAttr).fPairs) - w39 < N) ∧ M = plnI_L1 d v25 (plnI_L0 d n0) N w39 ∧ S = (sx 48 [(2, (.ptr 2 0)), (23, (jL ((ilsB d.fBlocks).map aInline))), (24, (jI (((lenM aInline (ilsB d.fBlocks) : Nat) : Int)))), (25, (jI (((v25 : Nat) : Int)))), (37, (jL ((((el (ilsB d.fBlocks) v25).fAttr).fPairs).map aPair))), (38, (jI (((lenM aPair (((el (ilsB d.fBlocks) v25).fAttr).fPairs) : Nat) : Int)))), (39, (jI (((w39 : Nat) : Int))))] [(2, (.cells 4 [(jB (false))]))] [])) (by kernel_rfl) ⟨_, by omega, rfl, rfl⟩ (WK (by kernel_rfl)) ?_
        rintro n1 M S ⟨w39, hF1, rfl, rfl⟩
        obtain ⟨n1, rfl⟩ : ∃ k, n1 = k + 1 := ⟨n1 - 1, by omega⟩
        refine UF (plnI_L1.eq_2 ..) ?_
        refine GO (tn 1 z) (by kernel_rfl) ?_
        refine CSd (fun h4p h4 => ?_) (fun h4p h4 => ?_)
        · have := lenM_eq aPair (((el (ilsB d.fBlocks) v25).fAttr).fPairs)
          refine GO (kb h4 (ke (el_aPair (((el (ilsB d.fBlocks) v25).fAttr).fPairs) w39 (by first | omega | (simp only [lenM_eq, true_and]; omega))) (tn 6 z))) (by kernel_rfl) ?_
          refine CS (fun h5 => ?_) (fun h5 => ?_)
          · refine GO (kb h5 (tn 1 z)) (by kernel_rfl) ?_
            refine OUT z (by kernel_rfl) ?_
            refine OUT z (by kernel_rfl) ?_
            exact EN (by kernel_rfl)
          · refine GO (kb h5 (kn (wrE ((((w39 : Nat) : Int)) + 1) (((w39 + 1 : Nat) : Int)) (by omega)) (tn 1 z))) (by kernel_rfl) ?_
            exact AG ⟨_, by omega, rfl, rfl⟩ (WK (by kernel_rfl)) (by kernel_rfl) (Nat.lt_succ_self _)
        · have := lenM_eq aPair (((el (ilsB d.fBlocks) v25).fAttr).fPairs)
          refine GO (kb h4 z) (by kernel_rfl) ?_
          refine OUT (kn (wrE ((((v25 : Nat) : Int)) + 1) (((v25 + 1 : Nat) : Int)) (by omega)) (tn 1 z)) (by kernel_rfl) ?_
          exact AG ⟨_, by omega, rfl, rfl⟩ (WK (by kernel_rfl)) (by kernel_rfl) (Nat.lt_succ_self _)
      · refine GO (kb h3 (kn (wrE ((((v25 : Nat) : Int)) + 1) (((v25 + 1 : Nat) : Int)) (by omega)) (tn 1 z))) (by kernel_rfl) ?_
        exact AG ⟨_, by omega, rfl, rfl⟩ (WK (by kernel_rfl)) (by kernel_rfl) (Nat.lt_succ_self _)
  · have := lenM_eq aInline (ilsB d.fBlocks)
    refine GO (kb h1 z) (by kernel_rfl) ?_
    refine OUT (tn 1 z) (by kernel_rfl) ?_
    exact EN (by kernel_rfl)
end Go.Proofs.YtclkkkpkbpdmdaaGreatDoor
namespace Go.Proofs.YtclkkkpkbpdmdaaGreatDoor
open Go Go.Eng Go.RowKit Go.Shelf
attribute [local go_sem] Oper.semAt_some
def badB (b : DBlock) : Bool := (b.fKind == 13) && (eqs b.fInfo ⟨#[105, 102]⟩ || eqs b.fInfo ⟨#[109, 97, 99, 114, 111]⟩ || eqs b.fInfo ⟨#[105, 110, 99, 108, 117, 100, 101]⟩)
def plnP (d : DDoc) : Bool := (lsB d.fBlocks).all (fun b => !badB b) && plnI d
theorem badB_l (b : DBlock) : badB b = ((b.fKind == 13) && (b.fInfo.toList == [105, 102] || b.fInfo.toList == [109, 97, 99, 114, 111] || b.fInfo.toList == [105, 110, 99, 108, 117, 100, 101])) := by
  simp only [badB, eqs, Lib.toList_data]
theorem badB_k {b : DBlock} (h : (b.fKind != 13) = true) : badB b = false := by
  have : (b.fKind == 13) = false := by simpa [bne] using h
  simp [badB, this]
theorem badB_n {b : DBlock} (h : (b.fKind != 13) = false) : (b.fKind == 13) = true := by simpa [bne] using h
theorem bxd_set {W : World} {B : Nat} {t : TypeId} {v v' : Value} (h : Boxed W B t v) : Boxed (W.setCell ⟨B, 0, none⟩ v') B t v' := h.set v'
theorem KC.alloc {n0 : Nat} (A : World) (o : Obj) (h : n0 ≤ A.heap.size) : KC n0 A (A.alloc o) :=
  ⟨(Below.refl _ _).alloc h o, fun k o' hk _ => (Below.heap_alloc A o k (Array.getElem?_eq_some_iff.1 hk).1).trans hk⟩
theorem KC.put {n0 : Nat} {A : World} {l : Nat} {o : Obj} (o' : Obj) (h : n0 ≤ l) (hl : A.heap[l]? = some o) (hc : o.isCells = false) : KC n0 A (A.putObj l o') :=
  ⟨(Below.refl n0 A).grown (grownBy_putObj' A l o') (by have := (Array.getElem?_eq_some_iff.1 hl).1; omega) (fun k e => by cases e; omega), fun k o2 hk ho => by
    by_cases e : k = l
    · subst e; rw [hl] at hk; cases hk; rw [hc] at ho; cases ho
    · exact (World.putObj_heap_other e).trans hk⟩
theorem blk_vals {U : Nat → Nat} {w : World} {b : DBlock} {v : Value} (h : Rep U w (aBlock b) v) : ∃ (a7 a8 a9 a10 : Option Addr) (n7 n8 n9 n10 c7 c8 c9 c10 : Nat),
    v = .agg #[.int .i64 b.fKind, .int .i64 b.fLevel, .string b.fInfo, .string b.fText, .string b.fDest, .string b.fTitle, .string b.fAttr.fID, .slice a7 n7 c7, .slice a8 n8 c8, .slice a9 n9 c9, .slice a10 n10 c10] := by
  rw [aBlock_eq] at h
  simp only [Rep] at h
  obtain ⟨us, rfl, hr, _⟩ := h
  simp only [RepL] at hr
  obtain ⟨x0, l0, e0, h0, x1, l1, e1, h1, x2, l2, e2, h2, x3, l3, e3, h3, x4, l4, e4, h4, x5, l5, e5, h5, x6, l6, e6, h6, x7, l7, e7, h7, x8, l8, e8, h8, x9, l9, e9, h9, x10, l10, e10, h10, e11⟩ := hr
  simp only [vI, vS, Rep] at h0 h1 h2 h3 h4 h5 h6 h7 h8 h9 h10
  obtain ⟨a7, c7, _, _, h7, _⟩ := h7
  obtain ⟨a8, c8, _, _, h8, _⟩ := h8
  obtain ⟨a9, c9, _, _, h9, _⟩ := h9
  obtain ⟨a10, c10, _, _, h10, _⟩ := h10
  refine ⟨a7, a8, a9, a10, (b.fAttr.fClasses.map strAV).length, (b.fAttr.fPairs.map aPair).length, (b.fLine.map aInline).length, (b.fKids.map aBlock).length, c7, c8, c9, c10, ?_⟩
  congr 1
  apply Array.toList_inj.1
  rw [e0, e1, e2, e3, e4, e5, e6, e7, e8, e9, e10, e11, h0.1, h1.1, h2.1, h3.1, h4.1, h5.1, h6.1, h7, h8, h9, h10]
theorem own_blk {β : Type} (B k : Nat) (o : Obj) (ho : o.isCells = true) : OwnFrom B (fun (_ : β) (W : World) => W.heap[k]? = some o) := by
  intro s W W' row hs hg hr
  refine (hg.block k (Array.getElem?_eq_some_iff.1 hs).1 (fun e => ?_)).trans hs
  obtain ⟨_, o', h1, h2⟩ := hr k e.symm
  rw [hs] at h1; cases h1; rw [ho] at h2; cases h2
def tmp6 (d : DDoc) (w : World) (a b : Value) (t3 t11 : Value) : Array Value :=
  #[.agg #[a, b], pt w.heap.size 0, pt (w.heap.size + 1) 0, t3, undef, undef, undef, undef, pt w.heap.size 1, b, .func (.func 22) #[] #[pt (w.heap.size + 1 + 1) 0], t11, undef,
          undef, undef, undef, undef, undef, undef, undef, undef, undef, undef, undef, undef, undef, undef, undef,
          undef, undef, undef, undef, undef, undef, undef, undef, undef, undef, undef, undef, undef, undef, undef,
          undef, undef, undef, undef, undef]
theorem cell_put {W : World} {D : Nat} {o o' : Obj} (hl : W.heap[D]? = some o) (ho : o.isCells = false) (ho' : o'.isCells = false) (a : Addr) : (W.putObj D o').cell? a = W.cell? a := by
  by_cases e : a.block = D
  · have h1 : (W.putObj D o').heap[a.block]? = some o' := by rw [e]; exact World.putObj_heap_same (Array.getElem?_eq_some_iff.1 hl).1
    have h2 : W.heap[a.block]? = some o := by rw [e]; exact hl
    simp only [World.cell?, h1, h2]
    cases o <;> cases o' <;> simp_all [Obj.isCells]
  · exact World.cell?_of_block (World.putObj_heap_other e)
theorem rel_put {G : Gh} {W : World} {S : St} {a : Act} {D : Nat} {ds : Option (List Deferred)} (hr : Rel G W S a) (hD : W.heap[D]? = some (.deferred ds)) (hno : ∀ κ, G.ow κ ≠ some D) : Rel G (W.putObj D (.deferred none)) S a := by
  have hk : ∀ κ : Key, Keep G W G (W.putObj D (.deferred none)) κ := fun κ => ⟨rfl, fun b hb => ⟨World.putObj_heap_other (fun e => hno κ (e ▸ hb)), rfl⟩⟩
  refine hr.keep ⟨fun _ => Nat.le_refl _, ⟨fun b o _ => cell_put hD rfl rfl _, fun b ents clock _ hm => ?_⟩, by simp, rfl, rfl, rfl, fun _ _ => rfl, fun _ => Nat.le_refl _, fun κ _ _ => hk κ⟩ ⟨hr.wf.inj, fun κ b h => by simpa using hr.wf.lt κ b h, fun b h => hr.wf.zero b (by simpa using h)⟩ (fun κ _ => hk κ) rfl
  have : b ≠ D := by intro e; subst e; rw [hD] at hm; cases hm
  exact (World.putObj_heap_other this).trans hm
theorem fin6 {G : Gh} {W : World} {S : St} {a : Act} {D : Nat} {R : Ending → World → Prop} {q keep : Bool} (hr : Rel G W S a) (hD : W.heap[D]? = some (.deferred (some []))) (hno : ∀ κ, G.ow κ ≠ some D) (ha : aRes Tryz.prog Tryz.f6 S keep = some (jB q)) (hR : R (.returned (.bool q)) (W.putObj D (.deferred none))) :
    LeavesInM Fence.wide 1 Tryz.prog Tryz.f6 a.tmps R [{ target := .collected D, args := #[] }] .returning W := by
  obtain ⟨v, h1, h2⟩ := aRes_sound ha (rel_put hr hD hno)
  refine ⟨by simp, .inl ⟨D, _, rfl, run_takeDeferred hD, v, h1, ?_⟩⟩
  simp only [jB, RepS, Rep] at h2
  rw [h2.1]; exact hR
noncomputable def G6 (U : Nat → Nat) (n D : Nat) : Gh := { U := U, cp := fun _ => 0, ow := fun κ => if κ = (1, 0) then some n else if κ = (2, 0) then some (n + 1) else none, gen := fun _ => 0, df := [{ target := .collected D, args := #[] }] }
theorem G6_ow {U : Nat → Nat} {n D : Nat} {κ : Key} {b : Nat} (h : (G6 U n D).ow κ = some b) : (κ = (1, 0) ∧ b = n) ∨ (κ = (2, 0) ∧ b = n + 1) := by
  simp only [G6] at h
  split at h
  · rename_i e; exact .inl ⟨e, (Option.some.inj h).symm⟩
  · split at h
    · rename_i e; exact .inr ⟨e, (Option.some.inj h).symm⟩
    · cases h
theorem rel6 {d : DDoc} {U : Nat → Nat} {w W : World} {a b : Value} {D : Nat} (hU : ∀ k, 0 < U k → k < w.heap.size) (ha : Rep U w (.sl (d.fMeta.map aPair)) a) (hb : Rep U w (.sl (d.fBlocks.map aBlock)) b) (hw : Below w.heap.size w W)
    (q0 : W.heap[w.heap.size]? = some (.cells #[a, b] 25)) (q1 : W.heap[w.heap.size + 1]? = some (.cells #[Value.bool false] 4)) :
    Rel (G6 U w.heap.size D) W (S6 d) { tmps := tmp6 d w a b undef undef, defers := [{ target := .collected D, args := #[] }] } := by
  have himm : Imm U w W := ⟨fun k o ho => World.cell?_of_block (hw.block k (hU k (by omega))), fun k es c hk hm => (hw.block k (hU k (by omega))).trans hm⟩
  have ha' := Rep.mono (fun _ => Nat.le_refl _) himm _ _ ha
  have hb' := Rep.mono (fun _ => Nat.le_refl _) himm _ _ hb
  have o1 : a.oneCell' = true := by obtain ⟨_, _, _, _, rfl, _⟩ := id ha; rfl
  have o2 : b.oneCell' = true := by obtain ⟨_, _, _, _, rfl, _⟩ := id hb; rfl
  have u0 : U w.heap.size = 0 := by have := hU w.heap.size; omega
  have u1 : U (w.heap.size + 1) = 0 := by have := hU (w.heap.size + 1); omega
  have l1 := (Array.getElem?_eq_some_iff.1 q1).1
  refine ⟨⟨fun κ κ' k h1 h2 => ?_, fun κ k h => ?_, fun k hk => ?_⟩, by kernel_rfl, fun t s ht => ?_, fun p hp => ?_, fun k => rfl, rfl⟩
  · rcases G6_ow h1 with ⟨e1, e2⟩ | ⟨e1, e2⟩ <;> rcases G6_ow h2 with ⟨e3, e4⟩ | ⟨e3, e4⟩ <;> first | (rw [e1, e3]; done) | omega
  · rcases G6_ow h with ⟨_, e⟩ | ⟨_, e⟩ <;> omega
  · show U k = 0
    have := hU k; have := hw.size; omega
  · have hlt : t < 48 := by
      have := (List.getElem?_eq_some_iff.1 ht).1
      simpa [S6, sx, frOf] using this
    have hs : s = if t = 1 then .ptr 1 0 else if t = 2 then .ptr 2 0 else .junk := by
      simp only [S6, sx, frOf, List.getElem?_map, List.getElem?_range hlt, Option.map_some, Option.some.injEq] at ht
      rw [← ht]
      by_cases h1 : t = 1
      · subst h1; rfl
      · by_cases h2 : t = 2
        · subst h2; rfl
        · have e1 : (t == 1) = false := by simpa using h1
          have e2 : (t == 2) = false := by simpa using h2
          simp only [List.lookup, e1, e2]; rw [if_neg h1, if_neg h2]; rfl
    rw [hs]
    by_cases h1 : t = 1
    · subst h1; exact ⟨w.heap.size, rfl, rfl⟩
    · by_cases h2 : t = 2
      · subst h2; exact ⟨w.heap.size + 1, rfl, rfl⟩
      · rw [if_neg h1, if_neg h2]; trivial
  · simp only [S6, sx, List.mem_cons, List.not_mem_nil, or_false] at hp
    rcases hp with rfl | rfl
    · refine ⟨w.heap.size, #[a, b], rfl, q0, u0, ⟨a, [b], rfl, ha', b, [], rfl, hb', rfl⟩, ?_⟩
      intro x hx; simp only [List.mem_cons, List.not_mem_nil, or_false] at hx; rcases hx with rfl | rfl <;> assumption
    · refine ⟨w.heap.size + 1, #[.bool false], rfl, q1, u1, ⟨.bool false, [], rfl, ?_, rfl⟩, ?_⟩
      · simp [jB, RepS, Rep]; rfl
      · intro x hx; simp only [List.mem_cons, List.not_mem_nil, or_false] at hx; subst hx; rfl
set_option maxRecDepth 100000 in
set_option maxHeartbeats 4000000 in
theorem pln_calls (d : DDoc) (hd : wDoc d ≤ 1073741824) (U : Nat → Nat) (w : World) (m b : Value) (hU : ∀ k, 0 < U k → k < w.heap.size) (hm : Rep U w (.sl (d.fMeta.map aPair)) m) (hb : Rep U w (.sl (d.fBlocks.map aBlock)) b) :
    CallsIn Fence.wide 1 Tryz.prog 6 #[.agg #[m, b]] w fun e w' => e = .returned (.bool (plnP d)) ∧ Below w.heap.size w w' := by
  obtain ⟨ad1, c1, es1, z1, rfl, -⟩ := id hm
  obtain ⟨ad, c2, es2, z2, rfl, -⟩ := id hb
  rw [List.length_map] at hm hb ⊢
  rw [List.length_map]
  refine callsIn_of_wp_marks Tryz.func6 rfl trivial ?_ rfl
  simp only [Tryz.ntmps6, List.size_toArray, List.length_cons, List.length_nil, Nat.reduceAdd, Nat.reduceSub, Array.replicate_succ, Array.replicate_zero, List.push_toArray, List.append_toArray, List.nil_append, List.cons_append]
  gi_wp2
  refine ⟨trivial, (each_in _ ad _ c2 _ rfl).mono ?_⟩
  rintro e w' ⟨rfl, rfl⟩
  unfold pt
  gi_wp2
  obtain ⟨w3, hw3⟩ : ∃ w3, w3 = (((w.alloc (Obj.cells #[Value.slice ad1 d.fMeta.length c1, Value.slice ad d.fBlocks.length c2] 25)).alloc (Obj.cells #[Value.bool false] 4)).alloc (Obj.cells #[Value.slice ad d.fBlocks.length c2] 23)) := ⟨_, rfl⟩
  rw [← hw3]
  have z3 : w3.heap.size = w.heap.size + 3 := by rw [hw3]; simp
  have b3 : Below w.heap.size w w3 := by rw [hw3]; exact (((Below.refl _ w).alloc (Nat.le_refl _) _).alloc (by simp) _).alloc (by simp; omega) _
  have k0 : w3.heap[w.heap.size]? = some (.cells #[Value.slice ad1 d.fMeta.length c1, Value.slice ad d.fBlocks.length c2] 25) := by
    rw [hw3, Below.heap_alloc _ _ _ (by simp; omega), Below.heap_alloc _ _ _ (by simp)]; exact World.alloc_heap_new w _
  have k1 : w3.heap[w.heap.size + 1]? = some (.cells #[Value.bool false] 4) := by
    rw [hw3, Below.heap_alloc _ _ _ (by simp)]
    have := World.alloc_heap_new (w.alloc (Obj.cells #[Value.slice ad1 d.fMeta.length c1, Value.slice ad d.fBlocks.length c2] 25)) (Obj.cells #[Value.bool false] 4)
    rwa [World.size_alloc] at this
  have k2 : w3.cell? ⟨w.heap.size + 2, 0, none⟩ = some (Value.slice ad d.fBlocks.length c2) := by
    rw [hw3]
    have := (cell_new_k' ((w.alloc (Obj.cells #[Value.slice ad1 d.fMeta.length c1, Value.slice ad d.fBlocks.length c2] 25)).alloc (Obj.cells #[Value.bool false] 4)) (Value.slice ad d.fBlocks.length c2) 23).1
    rwa [World.size_alloc, World.size_alloc] at this
  have hwd := wDoc_eq d
  have hseq := each1_in (w.heap.size + 2) w.heap.size U w w3 d.fBlocks _ hU (by omega) hb b3 b3.size (by omega) k2
  clear hw3
  refine wpIn_rangeFunc_ownH (gf := 22) (lb := #[pt (w.heap.size + 2) 0]) rfl (Nat.le_refl 1) rfl trivial (enters_of Tryz.func22 (by kernel_rfl) rfl) hseq (fun h k => h.trans k) (fun W l o o' h1 h2 h3 _ => KC.put o' (by omega) h2 h3) (Below.refl _ _) (fun _ => rfl)
    (fun pre W => (W.heap[w.heap.size]? = some (.cells #[Value.slice ad1 d.fMeta.length c1, Value.slice ad d.fBlocks.length c2] 25) ∧ W.heap[w.heap.size + 1]? = some (.cells #[Value.bool false] 4)) ∧ Below w.heap.size w W ∧ ∀ x ∈ pre, badB (Al.b x) = false)
    (fun c pre W => (W.heap[w.heap.size]? = some (.cells #[Value.slice ad1 d.fMeta.length c1, Value.slice ad d.fBlocks.length c2] 25) ∧ W.heap[w.heap.size + 1]? = some (.cells #[Value.bool false] 4)) ∧ Below w.heap.size w W ∧ (c = .ret ∧ ∃ x ∈ pre, badB (Al.b x) = true))
    (((own_blk _ _ _ rfl).and (own_blk _ _ _ rfl)).and ((ownFrom_below (Nat.le_refl _) (by omega)).and (ownFrom_pure _ (fun pre => ∀ x ∈ pre, badB (Al.b x) = false))))
    (fun c => ((own_blk _ _ _ rfl).and (own_blk _ _ _ rfl)).and ((ownFrom_below (Nat.le_refl _) (by omega)).and (ownFrom_pure _ (fun pre => c = .ret ∧ ∃ x ∈ pre, badB (Al.b x) = true))))
    ⟨⟨k0, k1⟩, b3, by simp⟩
    (fun x a' W => ∃ B us, x.v = .agg us ∧ a' = { tmps := tmp6 d w (Value.slice ad1 d.fMeta.length c1) (Value.slice ad d.fBlocks.length c2) (pt B 0) x.v, defers := [] } ∧ W.heap[B]? = some (.cells us 43))
    (fun x a' s W W' row hs hg hr => by
      obtain ⟨B, us, h1, h3, h4⟩ := hs
      exact ⟨B, us, h1, h3, own_blk (β := Unit) _ _ _ rfl () W W' row h4 hg hr⟩) ?assign ?body ?done ?stop
  case assign =>
    rintro l pre x W K ⟨⟨q0, q1⟩, hbl, hall⟩ hK
    obtain ⟨a7, a8, a9, a10, n7, n8, n9, n10, c7, c8, c9, c10, hv⟩ := blk_vals x.2
    replace hv : x.v = _ := hv
    rw [hv] at hK ⊢
    have ha0 : ∀ (o : Obj) (k : Nat) (o' : Obj), W.heap[k]? = some o' → (W.alloc o).heap[k]? = some o' := fun o k o' h => (Below.heap_alloc W o k (Array.getElem?_eq_some_iff.1 h).1).trans h
    have hsz : w3.heap.size ≤ W.heap.size → True := fun _ => trivial
    have fin := hK _ _ ((KeepsOthers.alloc W _).from _) (KC.alloc W _ hbl.size) ⟨⟨ha0 _ _ _ q0, ha0 _ _ _ q1⟩, hbl.alloc hbl.size _, hall⟩ ⟨W.heap.size, _, rfl, rfl, World.alloc_heap_new W _⟩
    obtain ⟨F, hF⟩ : ∃ F : Prop, F = K { tmps := tmp6 d w (Value.slice ad1 d.fMeta.length c1) (Value.slice ad d.fBlocks.length c2) (pt W.heap.size 0) (.agg #[.int .i64 x.b.fKind, .int .i64 x.b.fLevel, .string x.b.fInfo, .string x.b.fText, .string x.b.fDest, .string x.b.fTitle, .string x.b.fAttr.fID, .slice a7 n7 c7, .slice a8 n8 c8, .slice a9 n9 c9, .slice a10 n10 c10]), defers := [] } (W.alloc (.cells #[.int .i64 x.b.fKind, .int .i64 x.b.fLevel, .string x.b.fInfo, .string x.b.fText, .string x.b.fDest, .string x.b.fTitle, .string x.b.fAttr.fID, .slice a7 n7 c7, .slice a8 n8 c8, .slice a9 n9 c9, .slice a10 n10 c10] 43)) := ⟨_, rfl⟩
    have hFt : Hid F := hF.symm ▸ fin
    rename_i Q6 K6 aK6
    clear fin hK hseq hb hm k0 k1 k2 hv q0 q1 hall hbl aK6 K6 Q6 b3 z3 hU hwd hd ha0 hsz
    gi_wp2
    have := hFt.out
    rw [hF] at this
    exact this
  case body =>
    rintro l pre x a' W - - ⟨⟨q0, q1⟩, hbl, hall⟩ ⟨B, us, hv', rfl, hblk⟩ hlen
    obtain ⟨a7, a8, a9, a10, n7, n8, n9, n10, c7, c8, c9, c10, hv⟩ := blk_vals x.2
    replace hv : x.v = _ := hv
    rw [hv] at hv'
    cases hv'
    have e0 : W.cell? ⟨B, 0, none⟩ = some (.int .i64 x.b.fKind) := by simp [World.cell?, hblk]; rfl
    have e2 : W.cell? ⟨B, 2, none⟩ = some (.string x.b.fInfo) := by simp [World.cell?, hblk]; rfl
    have er : W.cell? ⟨w.heap.size + 1, 0, none⟩ = some (.bool false) ∧ W.frozen? ⟨w.heap.size + 1, 0, none⟩ = false := by simp [World.cell?, World.frozen?, q1]
    refine wpIn_mono (Q := fun e _ W' => (e = .normal ∧ W' = W ∧ badB x.b = false) ∨ (e = .ret ∧ W' = W.setCell ⟨w.heap.size + 1, 0, none⟩ (.bool false) ∧ badB x.b = true)) ?_ ?_
    · rename_i Q6 K6 aK6
      clear hseq hb hm k0 k1 k2 hblk hv q0 q1 hall hbl aK6 K6 Q6 b3 z3 hU hwd hd
      unfold tmp6 pt
      gi_wp2
      all_goals first
        | exact badB_k (b := x.b) (by assumption)
        | (have hk13 := badB_n (b := x.b) (by assumption); rw [badB_l]; simp [*]; done)
        | (exfalso; simp_all; done)
    · rintro e a3 W' (⟨rfl, rfl, hx⟩ | ⟨rfl, rfl, hx⟩)
      · exact ⟨KeepsFrom.refl _ _, KC.refl _ _, ⟨q0, q1⟩, hbl, fun y hy => by
          rcases List.mem_append.1 hy with hy | hy
          · exact hall y hy
          · obtain rfl : y = x := by simpa using hy
            exact hx⟩
      · exact ⟨(KeepsOthers.setCell _ _ _).from _, ⟨(Below.heap_setCell _ _ _ _ (by simp)).trans q0, bxd_set (v := .bool false) q1⟩, hbl.setCell (p := ⟨w.heap.size + 1, 0, none⟩) (by simp) _, rfl, x, by simp, hx⟩
  case done =>
    rintro D xs W hD hS ⟨⟨q0, q1⟩, hbl, hall⟩ hDk
    rename_i Q6 K6 aK6
    refine aK6 _ _ (wp_code (c' := R6) (by kernel_rfl) (wpIn_wide.2 ?_))
    have hno : ∀ κ, (G6 U w.heap.size D).ow κ ≠ some D := fun κ h => by rcases G6_ow h with ⟨_, e⟩ | ⟨_, e⟩ <;> omega
    refine Code.wp_mono ?_ ((plnI_nx d hd).x (G6 U w.heap.size D) W _ (rel6 (D := D) hU hm hb hbl q0 q1))
    have fin : ∀ (S' : St) (G' : Gh) (a' : Act) (W' : World), (∃ keep, aRes Tryz.prog Tryz.f6 S' keep = some (jB (plnI d))) → Step (G6 U w.heap.size D) W G' W' → Rel G' W' S' a' →
        LeavesInM Fence.wide 1 Tryz.prog Tryz.f6 a'.tmps (fun e w' => e = .returned (.bool (plnP d)) ∧ Below w.heap.size w w') a'.defers .returning W' := by
      rintro S' G' a' W' ⟨keep, h1⟩ hst hr
      have hdf : a'.defers = [{ target := .collected D, args := #[] }] := by rw [hr.defers, hst.toExt.df]; rfl
      rw [hdf]
      have hDl : D < W.heap.size := (Array.getElem?_eq_some_iff.1 hDk).1
      refine fin6 hr ((hst.stay D hDl hno).1.trans hDk) (fun κ h => ?_) h1 ⟨?_, ?_⟩
      · rcases hst.rng κ D h with ⟨κ', h'⟩ | h'
        · exact hno κ' h'
        · omega
      · have : (lsB d.fBlocks).all (fun b => !badB b) = true := by
          rw [List.all_eq_true]
          intro y hy
          rw [← hS, bsA, List.mem_map] at hy
          obtain ⟨x, hx, rfl⟩ := hy
          rw [hall x hx]; rfl
        simp [plnP, this]
      · have hb2 : Below w.heap.size W W' := ⟨hst.os, hst.toExt.tp, hst.output, hst.size, fun k hk => (hst.stay k (Nat.lt_of_lt_of_le hk hbl.size) (fun κ h => by rcases G6_ow h with ⟨_, e⟩ | ⟨_, e⟩ <;> omega)).1⟩
        have := hst.size
        exact (hbl.trans hb2).grown (grownBy_putObj' W' D _) (Nat.le_trans hbl.size this) (fun k e => by cases e; omega)
    rintro e a' W' ⟨S', G', h1, hst, hr, _⟩
    cases e with
    | normal => exact fin S' G' a' W' h1.1 hst hr
    | ret => exact fin S' G' a' W' h1.1 hst hr
    | exit id => exact h1.elim
    | goto l => exact h1.elim
    | panic c => exact h1.elim
    | outgrown => exact h1.elim
  case stop =>
    rintro D c pre W hD hSp ⟨⟨q0, q1⟩, hbl, rfl, x, hx, hbad⟩ hDk
    have hno : ∀ κ, (G6 U w.heap.size D).ow κ ≠ some D := fun κ h => by rcases G6_ow h with ⟨_, e⟩ | ⟨_, e⟩ <;> omega
    refine wpIn_ret ?_
    have hr := rel6 (D := D) hU hm hb hbl q0 q1
    refine fin6 (keep := true) hr hDk hno (q := false) (by kernel_rfl) ⟨?_, ?_⟩
    · have : (lsB d.fBlocks).all (fun b => !badB b) = false := by
        rw [Bool.eq_false_iff]
        intro h
        rw [List.all_eq_true] at h
        have h2 := h x.b (hSp.subset (List.mem_map_of_mem hx))
        rw [hbad] at h2; cases h2
      simp [plnP, this]
    · exact hbl.grown (grownBy_putObj' W D _) hbl.size (fun k e => by cases e; omega)
end Go.Proofs.YtclkkkpkbpdmdaaGreatDoor
namespace Go.Proofs.YtclkkkpkbpdmdaaGreatDoor
open Go Go.Eng Go.RowKit Go.Shelf
theorem plnP_to (d : DDoc) (hd : wDoc d ≤ 1073741824) : CallTo Tryz.prog 6 [(.av (cDoc d))] [] [] (jB (plnP d)) [] [] := by
  refine ⟨⟨Tryz.f6, Tryz.func6, by kernel_rfl, by kernel_rfl⟩, ?_⟩
  intro G w vs hw hr _ _
  obtain ⟨u, l, rfl, hu, rfl⟩ := hr
  obtain ⟨us, rfl, hr, _⟩ := hu
  obtain ⟨a, l1, e1, ha, hr⟩ := hr
  obtain ⟨b, l2, rfl, hb, hr⟩ := hr
  have hr : l2 = [] := hr
  subst hr
  have hus : us = #[a, b] := Array.toList_inj.1 e1
  subst hus
  have hU : ∀ k, 0 < G.U k → k < w.heap.size := fun k hk => by
    rcases Nat.lt_or_ge k w.heap.size with h | h
    · exact h
    · rw [hw.zero k h] at hk; omega
  refine Calls.mono (callsIn_wide.1 (pln_calls d hd G.U w a b hU ha hb)) ?_
  rintro e w' ⟨rfl, hb⟩
  have hk : ∀ κ : Key, Keep G w G w' κ := fun κ => ⟨rfl, fun k h => ⟨hb.block k (hw.lt κ k h), rfl⟩⟩
  refine ⟨_, G, rfl, ⟨⟨fun _ => Nat.le_refl _, ⟨fun k o ho => World.cell?_of_block (hb.block k (hU k (by omega))), fun k es c h1 h2 => (hb.block k (hU k (by omega))).trans h2⟩, hb.size, hb.os, by rw [hb.tape], hb.output, fun _ _ => rfl, fun _ => Nat.le_refl _, fun κ _ _ => hk κ⟩, fun k h _ => ⟨hb.block k h, rfl⟩, fun κ k h => .inl ⟨κ, h⟩⟩,
    ⟨hw.inj, fun κ k h => Nat.lt_of_lt_of_le (hw.lt κ k h) hb.size, fun k h => hw.zero k (Nat.le_trans hb.size h)⟩, ⟨rfl, rfl⟩, by simp, fun i _ => hk _, fun _ => rfl, fun κ => by simp⟩
end Go.Proofs.YtclkkkpkbpdmdaaGreatDoor
