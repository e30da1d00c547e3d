/- Texts joined by a program (merge.py). -/
import Derived.Test.YtdaglbjgdakmcaaGreatMcb
import Derived.KernelRfl
set_option linter.unusedSimpArgs false
set_option linter.unusedVariables false
set_option maxRecDepth 100000
set_option maxHeartbeats 4000000
namespace Go.Eng
def QW (Q : Exit → St → Prop) (_ : Unit) : Exit → St → Prop := fun e S1 => ∃ S2, Weak S1 S2 ∧ Q e S2
theorem WN {P : Program} {c : Code} {Q : Exit → St → Prop} {S : St} (h : Nx P (QW Q) () (start c S)) : W P c Q S := W_end h.x
theorem LEAF {P : Program} {Q : Exit → St → Prop} {X : Cf} (e : Exit) {S2 : St} (hX : finOf X = some e) (hw : Weak (stOf X) S2) (hq : Q e S2) : Nx P (QW Q) () X := by
 unfold finOf at hX
 split at hX
 ·simp only [Option.some.injEq] at hX; subst hX; exact ⟨⟨S2, hw, hq⟩⟩
 ·simp at hX
theorem wtr {S S' S'' : St} (h : Weak S S') (k : Weak S' S'') : Weak S S'' := fun G w a hr => k G w a (h G w a hr)
theorem ib (s : ByteArray) (i : Int) (h : 0 ≤ i ∧ i < ((ByteArray.size s : Nat) : Int)) : 0 ≤ i ∧ i < ((ByteArray.size s : Nat) : Int) := h
end Go.Eng
namespace Go.Proofs.YtdaglbjgdakmcaaGreat
open Go Go.Eng
def vU (x : Int) : AV := .val (.int .u8 x)
def el {α : Type} [Inhabited α] (l : List α) (i : Nat) : α := (l[i]?).getD default
def lenM {α : Type} (f : α → AV) (l : List α) : Nat := (l.map f).length
theorem lenM_eq {α : Type} (f : α → AV) (l : List α) : lenM f l = l.length := by simp [lenM]
theorem el_some {α : Type} [Inhabited α] {l : List α} {i : Nat} (h : i < l.length) : l[i]? = some (el l i) := by simp [el, h]
theorem el_mem {α : Type} [Inhabited α] {l : List α} {i : Nat} (h : i < l.length) : el l i ∈ l := List.mem_of_getElem? (el_some h)
theorem elx {α : Type} [Inhabited α] {f : α → AV} {l : List AV} {xs : List α} {i : Nat} {y : AV} (e : l = xs.map f) (h : i < xs.length) (hy : f (el xs i) = y) : 0 ≤ ((i : Nat) : Int) ∧ l[i]? = some y := by
 subst e hy; exact ⟨by omega, by simp [el_some h]⟩
theorem elxI {α : Type} [Inhabited α] {f : α → AV} {l : List AV} {xs : List α} {i : Int} {y : AV} (e : l = xs.map f) (h0 : 0 ≤ i) (h : i < (xs.length : Int)) (hy : f (el xs i.toNat) = y) : 0 ≤ i ∧ l[i.toNat]? = some y := by
  subst e hy; exact ⟨h0, by have : i.toNat < xs.length := by omega
                            simp [el_some this]⟩
def w1 {α : Type} (_ : α) : Nat := 1
def wStr (s : ByteArray) : Nat := s.size + 1
def wl {α : Type} (w : α → Nat) : List α → Nat
 | [] => 0
 | x :: l => w x + wl w l
theorem wl_append {α : Type} (w : α → Nat) : ∀ a b : List α, wl w (a ++ b) = wl w a + wl w b
 | [], b => by simp [wl]
 | x :: a, b => by simp [wl, wl_append w a b]; omega
theorem wl_mem {α : Type} {w : α → Nat} : ∀ {l : List α} {x : α}, x ∈ l → w x ≤ wl w l
 | y :: l, x, h => by
  simp only [List.mem_cons] at h
  rcases h with rfl | h
  ·simp [wl]
  ·have := wl_mem (w := w) h; simp [wl]; omega
theorem wl_el {α : Type} [Inhabited α] {w : α → Nat} {l : List α} {i : Nat} (h : i < l.length) : w (el l i) ≤ wl w l := wl_mem (el_mem h)
theorem wl_len {α : Type} {w : α → Nat} (hw : ∀ x, 1 ≤ w x) : ∀ l : List α, l.length ≤ wl w l
 | [] => by simp
 | x :: l => by have := wl_len hw l; have := hw x; simp [wl]; omega
def quo (k : IntKind) (a b : Int) : Int := k.wrap (a.tdiv b)
theorem el_strAV (xs : List ByteArray) (i : Nat) (h : i < xs.length) : 0 ≤ ((i : Nat) : Int) ∧ (xs.map strAV)[i]? = some (strAV (el xs i)) := elx rfl h rfl
theorem el_vI (xs : List Int) (i : Nat) (h : i < xs.length) : 0 ≤ ((i : Nat) : Int) ∧ (xs.map vI)[i]? = some (vI (el xs i)) := elx rfl h rfl
theorem uni_strAV (l : List ByteArray) : Uni 1 (l.map strAV) := by intro y hy; simp only [List.mem_map] at hy; obtain ⟨x, _, rfl⟩ := hy; exact ⟨rfl, rfl⟩
theorem uni_vU (l : List Int) : Uni 1 (l.map vU) := by intro y hy; simp only [List.mem_map] at hy; obtain ⟨x, _, rfl⟩ := hy; exact ⟨rfl, rfl⟩
theorem size_eqs_t {s : ByteArray} (h : eqs s ⟨#[]⟩ = true) : s.size = 0 := by simp [eqs] at h; simp [ByteArray.size, h]
theorem size_eqs_f {s : ByteArray} (h : eqs s ⟨#[]⟩ = false) : 0 < s.size := by
 obtain ⟨⟨l⟩⟩ := s
 cases l with
 | nil => exact absurd h (by decide)
 | cons x l => show 0 < (x :: l).length; simp
theorem size_neqs_t {s : ByteArray} (h : (!eqs s ⟨#[]⟩) = true) : 0 < s.size := size_eqs_f (by simpa using h)
theorem size_neqs_f {s : ByteArray} (h : (!eqs s ⟨#[]⟩) = false) : s.size = 0 := size_eqs_t (by simpa using h)
theorem byt_lt (s : ByteArray) (i : Nat) : byt s i < 256 := by
 unfold byt; exact UInt8.toNat_lt _
theorem wrap_byt (s : ByteArray) (i : Nat) : IntKind.i64.wrap ((byt s i : Nat) : Int) = ((byt s i : Nat) : Int) := wrap_i64 (by omega) (by have := byt_lt s i; omega)
theorem quo_eq (a b : Int) (hb : 0 < b) (hb2 : b ≤ 1000000) : 0 ≤ a → a ≤ 4611686018427387904 → quo .i64 a b = a / b := by
 intro h1 h2
 have h3 : a / b ≤ a := Int.ediv_le_self _ h1
 have h4 : 0 ≤ a / b := Int.ediv_nonneg h1 (by omega)
 unfold quo; rw [Int.tdiv_eq_ediv_of_nonneg h1, wrap_i64 (by omega) (by omega)]
theorem tmod_eq (a b : Int) (hb : 0 < b) (hb2 : b ≤ 1000000) : 0 ≤ a → Int.tmod a b = a % b := fun h => Int.tmod_eq_emod_of_nonneg h
theorem ap1 {α : Type} (f : α → AV) (xs : List α) (y : α) : xs.map f ++ [f y] = (xs ++ [y]).map f := by simp
theorem apL {α : Type} (f : α → AV) (xs ys : List α) : xs.map f ++ ys.map f = (xs ++ ys).map f := by simp
theorem cutL {α : Type} (f : α → AV) (xs : List α) (i n : Nat) : (List.drop i (xs.map f)).take n = ((List.drop i xs).take n).map f := by simp [List.map_take, List.map_drop]
theorem wStr_pos (s : ByteArray) : 1 ≤ wStr s := by simp [wStr]
structure DPair where
 fKey : ByteArray
 fValue : ByteArray
instance : Inhabited DPair := ⟨⟨⟨#[]⟩, ⟨#[]⟩⟩⟩
def aPair (x : DPair) : AV := .agg [(vS x.fKey), (vS x.fValue)]
def wPair (x : DPair) : Nat := 1 + wStr x.fKey + wStr x.fValue
theorem aPair_eq (x : DPair) : aPair x = .agg [(vS x.fKey), (vS x.fValue)] := rfl
theorem wPair_eq (x : DPair) : wPair x = 1 + wStr x.fKey + wStr x.fValue := rfl
def cPair (x : DPair) : AV := .agg [(vS x.fKey), (vS x.fValue)]
def sPair (x : DPair) : List SV := [(jS x.fKey), (jS x.fValue)]
theorem el_aPair (xs : List DPair) (i : Nat) (h : i < xs.length) : 0 ≤ ((i : Nat) : Int) ∧ (xs.map aPair)[i]? = some (aPair (el xs i)) := elx rfl h rfl
theorem uni_aPair (l : List DPair) : Uni 2 (l.map aPair) := by intro y hy; simp only [List.mem_map] at hy; obtain ⟨x, _, rfl⟩ := hy; rw [aPair_eq]; exact ⟨rfl, rfl⟩
theorem wPair_pos (x : DPair) : 1 ≤ wPair x := by rw [wPair_eq]; omega
structure DAttr where
 fID : ByteArray
 fClasses : List ByteArray
 fPairs : List DPair
instance : Inhabited DAttr := ⟨⟨⟨#[]⟩, [], []⟩⟩
def aAttr (x : DAttr) : AV := .agg [(vS x.fID), (.sl ((x.fClasses).map strAV)), (.sl ((x.fPairs).map aPair))]
def wAttr (x : DAttr) : Nat := 1 + wStr x.fID + (wl wStr) x.fClasses + (wl wPair) x.fPairs
theorem aAttr_eq (x : DAttr) : aAttr x = .agg [(vS x.fID), (.sl ((x.fClasses).map strAV)), (.sl ((x.fPairs).map aPair))] := rfl
theorem wAttr_eq (x : DAttr) : wAttr x = 1 + wStr x.fID + (wl wStr) x.fClasses + (wl wPair) x.fPairs := rfl
def cAttr (x : DAttr) : AV := .agg [(vS x.fID), (.sl ((x.fClasses).map strAV)), (.sl ((x.fPairs).map aPair))]
def sAttr (x : DAttr) : List SV := [(jS x.fID), (jL ((x.fClasses).map strAV)), (jL ((x.fPairs).map aPair))]
structure DCited where
 fKey : ByteArray
 fPrefix : ByteArray
 fSuffix : ByteArray
 fBare : Bool
instance : Inhabited DCited := ⟨⟨⟨#[]⟩, ⟨#[]⟩, ⟨#[]⟩, false⟩⟩
def aCited (x : DCited) : AV := .agg [(vS x.fKey), (vS x.fPrefix), (vS x.fSuffix), (vB x.fBare)]
def wCited (x : DCited) : Nat := 1 + wStr x.fKey + wStr x.fPrefix + wStr x.fSuffix + w1 x.fBare
theorem aCited_eq (x : DCited) : aCited x = .agg [(vS x.fKey), (vS x.fPrefix), (vS x.fSuffix), (vB x.fBare)] := rfl
theorem wCited_eq (x : DCited) : wCited x = 1 + wStr x.fKey + wStr x.fPrefix + wStr x.fSuffix + w1 x.fBare := rfl
def cCited (x : DCited) : AV := .agg [(vS x.fKey), (vS x.fPrefix), (vS x.fSuffix), (vB x.fBare)]
theorem el_aCited (xs : List DCited) (i : Nat) (h : i < xs.length) : 0 ≤ ((i : Nat) : Int) ∧ (xs.map aCited)[i]? = some (aCited (el xs i)) := elx rfl h rfl
theorem uni_aCited (l : List DCited) : Uni 4 (l.map aCited) := by intro y hy; simp only [List.mem_map] at hy; obtain ⟨x, _, rfl⟩ := hy; rw [aCited_eq]; exact ⟨rfl, rfl⟩
theorem wCited_pos (x : DCited) : 1 ≤ wCited x := by rw [wCited_eq]; omega
structure DInline where
 fKind : Int
 fText : ByteArray
 fDest : ByteArray
 fTitle : ByteArray
 fAttr : DAttr
 fArgs : List ByteArray
 fCites : List DCited
 fKids : List DInline
instance : Inhabited DInline := ⟨⟨0, ⟨#[]⟩, ⟨#[]⟩, ⟨#[]⟩, ⟨⟨#[]⟩, [], []⟩, [], [], []⟩⟩
mutual
def aInline : DInline → AV
 | ⟨y0, y1, y2, y3, y4, y5, y6, y7⟩ => .agg [(vI y0), (vS y1), (vS y2), (vS y3), (vS ((y4).fID)), (.sl (((y4).fClasses).map strAV)), (.sl (((y4).fPairs).map aPair)), (.sl ((y5).map strAV)), (.sl ((y6).map aCited)), (.sl (aInlines y7))]
def aInlines : List DInline → List AV
 | [] => []
 | x :: l => aInline x :: aInlines l
end
mutual
def wInline : DInline → Nat
 | ⟨y0, y1, y2, y3, y4, y5, y6, y7⟩ => 1 + w1 y0 + wStr y1 + wStr y2 + wStr y3 + wAttr y4 + (wl wStr) y5 + (wl wCited) y6 + wInlines y7
def wInlines : List DInline → Nat
 | [] => 0
 | x :: l => wInline x + wInlines l
end
theorem aInlines_map : ∀ l, aInlines l = l.map aInline
 | [] => rfl
 | x :: l => by rw [aInlines, aInlines_map l]; rfl
theorem wInlines_wl : ∀ l, wInlines l = wl wInline l
 | [] => rfl
 | x :: l => by rw [wInlines, wInlines_wl l]; rfl
theorem aInline_eq (x : DInline) : aInline x = .agg [(vI x.fKind), (vS x.fText), (vS x.fDest), (vS x.fTitle), (vS ((x.fAttr).fID)), (.sl (((x.fAttr).fClasses).map strAV)), (.sl (((x.fAttr).fPairs).map aPair)), (.sl ((x.fArgs).map strAV)), (.sl ((x.fCites).map aCited)), (.sl ((x.fKids).map aInline))] := by cases x; rw [aInline, aInlines_map]
theorem wInline_eq (x : DInline) : wInline x = 1 + w1 x.fKind + wStr x.fText + wStr x.fDest + wStr x.fTitle + wAttr x.fAttr + (wl wStr) x.fArgs + (wl wCited) x.fCites + (wl wInline) x.fKids := by cases x; rw [wInline, wInlines_wl]
def cInline (x : DInline) : AV := .agg [(vI x.fKind), (vS x.fText), (vS x.fDest), (vS x.fTitle), (vS ((x.fAttr).fID)), (.sl (((x.fAttr).fClasses).map strAV)), (.sl (((x.fAttr).fPairs).map aPair)), (.sl ((x.fArgs).map strAV)), (.sl ((x.fCites).map aCited)), (.sl ((x.fKids).map aInline))]
def sInline (x : DInline) : List SV := [(jI x.fKind), (jS x.fText), (jS x.fDest), (jS x.fTitle), (jS ((x.fAttr).fID)), (jL (((x.fAttr).fClasses).map strAV)), (jL (((x.fAttr).fPairs).map aPair)), (jL ((x.fArgs).map strAV)), (jL ((x.fCites).map aCited)), (jL ((x.fKids).map aInline))]
theorem el_aInline (xs : List DInline) (i : Nat) (h : i < xs.length) : 0 ≤ ((i : Nat) : Int) ∧ (xs.map aInline)[i]? = some (cInline (el xs i)) := elx rfl h (aInline_eq _)
theorem elI_aInline (xs : List DInline) (i : Int) (h0 : 0 ≤ i) (h : i < (xs.length : Int)) : 0 ≤ i ∧ (xs.map aInline)[i.toNat]? = some (cInline (el xs i.toNat)) := elxI rfl h0 h (aInline_eq _)
theorem uni_aInline (l : List DInline) : Uni 10 (l.map aInline) := by intro y hy; simp only [List.mem_map] at hy; obtain ⟨x, _, rfl⟩ := hy; rw [aInline_eq]; exact ⟨rfl, rfl⟩
theorem ap1_aInline (xs : List DInline) (y : DInline) : xs.map aInline ++ [cInline y] = (xs ++ [y]).map aInline := by simp [aInline_eq y, cInline]
theorem wInline_pos (x : DInline) : 1 ≤ wInline x := by rw [wInline_eq]; omega
structure DBlock where
 fKind : Int
 fLevel : Int
 fInfo : ByteArray
 fText : ByteArray
 fDest : ByteArray
 fTitle : ByteArray
 fAttr : DAttr
 fLine : List DInline
 fKids : List DBlock
instance : Inhabited DBlock := ⟨⟨0, 0, ⟨#[]⟩, ⟨#[]⟩, ⟨#[]⟩, ⟨#[]⟩, ⟨⟨#[]⟩, [], []⟩, [], []⟩⟩
mutual
def aBlock : DBlock → AV
 | ⟨y0, y1, y2, y3, y4, y5, y6, y7, y8⟩ => .agg [(vI y0), (vI y1), (vS y2), (vS y3), (vS y4), (vS y5), (vS ((y6).fID)), (.sl (((y6).fClasses).map strAV)), (.sl (((y6).fPairs).map aPair)), (.sl ((y7).map aInline)), (.sl (aBlocks y8))]
def aBlocks : List DBlock → List AV
 | [] => []
 | x :: l => aBlock x :: aBlocks l
end
mutual
def wBlock : DBlock → Nat
 | ⟨y0, y1, y2, y3, y4, y5, y6, y7, y8⟩ => 1 + w1 y0 + w1 y1 + wStr y2 + wStr y3 + wStr y4 + wStr y5 + wAttr y6 + (wl wInline) y7 + wBlocks y8
def wBlocks : List DBlock → Nat
 | [] => 0
 | x :: l => wBlock x + wBlocks l
end
theorem aBlocks_map : ∀ l, aBlocks l = l.map aBlock
 | [] => rfl
 | x :: l => by rw [aBlocks, aBlocks_map l]; rfl
theorem wBlocks_wl : ∀ l, wBlocks l = wl wBlock l
 | [] => rfl
 | x :: l => by rw [wBlocks, wBlocks_wl l]; rfl
theorem aBlock_eq (x : DBlock) : aBlock x = .agg [(vI x.fKind), (vI x.fLevel), (vS x.fInfo), (vS x.fText), (vS x.fDest), (vS x.fTitle), (vS ((x.fAttr).fID)), (.sl (((x.fAttr).fClasses).map strAV)), (.sl (((x.fAttr).fPairs).map aPair)), (.sl ((x.fLine).map aInline)), (.sl ((x.fKids).map aBlock))] := by cases x; rw [aBlock, aBlocks_map]
theorem wBlock_eq (x : DBlock) : wBlock x = 1 + w1 x.fKind + w1 x.fLevel + wStr x.fInfo + wStr x.fText + wStr x.fDest + wStr x.fTitle + wAttr x.fAttr + (wl wInline) x.fLine + (wl wBlock) x.fKids := by cases x; rw [wBlock, wBlocks_wl]
def cBlock (x : DBlock) : AV := .agg [(vI x.fKind), (vI x.fLevel), (vS x.fInfo), (vS x.fText), (vS x.fDest), (vS x.fTitle), (vS ((x.fAttr).fID)), (.sl (((x.fAttr).fClasses).map strAV)), (.sl (((x.fAttr).fPairs).map aPair)), (.sl ((x.fLine).map aInline)), (.sl ((x.fKids).map aBlock))]
def sBlock (x : DBlock) : List SV := [(jI x.fKind), (jI x.fLevel), (jS x.fInfo), (jS x.fText), (jS x.fDest), (jS x.fTitle), (jS ((x.fAttr).fID)), (jL (((x.fAttr).fClasses).map strAV)), (jL (((x.fAttr).fPairs).map aPair)), (jL ((x.fLine).map aInline)), (jL ((x.fKids).map aBlock))]
theorem el_aBlock (xs : List DBlock) (i : Nat) (h : i < xs.length) : 0 ≤ ((i : Nat) : Int) ∧ (xs.map aBlock)[i]? = some (cBlock (el xs i)) := elx rfl h (aBlock_eq _)
theorem uni_aBlock (l : List DBlock) : Uni 11 (l.map aBlock) := by intro y hy; simp only [List.mem_map] at hy; obtain ⟨x, _, rfl⟩ := hy; rw [aBlock_eq]; exact ⟨rfl, rfl⟩
theorem ap1_aBlock (xs : List DBlock) (y : DBlock) : xs.map aBlock ++ [cBlock y] = (xs ++ [y]).map aBlock := by simp [aBlock_eq y, cBlock]
theorem wBlock_pos (x : DBlock) : 1 ≤ wBlock x := by rw [wBlock_eq]; omega
structure DDoc where
 fMeta : List DPair
 fBlocks : List DBlock
instance : Inhabited DDoc := ⟨⟨[], []⟩⟩
def aDoc (x : DDoc) : AV := .agg [(.sl ((x.fMeta).map aPair)), (.sl ((x.fBlocks).map aBlock))]
def wDoc (x : DDoc) : Nat := 1 + (wl wPair) x.fMeta + (wl wBlock) x.fBlocks
theorem aDoc_eq (x : DDoc) : aDoc x = .agg [(.sl ((x.fMeta).map aPair)), (.sl ((x.fBlocks).map aBlock))] := rfl
theorem wDoc_eq (x : DDoc) : wDoc x = 1 + (wl wPair) x.fMeta + (wl wBlock) x.fBlocks := rfl
def cDoc (x : DDoc) : AV := .agg [(.sl ((x.fMeta).map aPair)), (.sl ((x.fBlocks).map aBlock))]
def sDoc (x : DDoc) : List SV := [(jL ((x.fMeta).map aPair)), (jL ((x.fBlocks).map aBlock))]
structure DPoint where
 fC : Int
 fN : Int
instance : Inhabited DPoint := ⟨⟨0, 0⟩⟩
def aPoint (x : DPoint) : AV := .agg [(vI x.fC), (vI x.fN)]
theorem aPoint_eq (x : DPoint) : aPoint x = .agg [(vI x.fC), (vI x.fN)] := rfl
def cPoint (x : DPoint) : AV := .agg [(vI x.fC), (vI x.fN)]
theorem el_aPoint (xs : List DPoint) (i : Nat) (h : i < xs.length) : 0 ≤ ((i : Nat) : Int) ∧ (xs.map aPoint)[i]? = some (aPoint (el xs i)) := elx rfl h rfl
structure DRange where
 fFrom : Int
 fTo : Int
instance : Inhabited DRange := ⟨⟨0, 0⟩⟩
def aRange (x : DRange) : AV := .agg [(vI x.fFrom), (vI x.fTo)]
theorem aRange_eq (x : DRange) : aRange x = .agg [(vI x.fFrom), (vI x.fTo)] := rfl
def cRange (x : DRange) : AV := .agg [(vI x.fFrom), (vI x.fTo)]
theorem el_aRange (xs : List DRange) (i : Nat) (h : i < xs.length) : 0 ≤ ((i : Nat) : Int) ∧ (xs.map aRange)[i]? = some (aRange (el xs i)) := elx rfl h rfl
end Go.Proofs.YtdaglbjgdakmcaaGreat
namespace Go.Proofs.YtdaglbjgdakmcaaGreat
open Go Go.Eng
def trimB (s : ByteArray) : Bool := cond (eqs s (⟨#[]⟩)) true (cond (((byt s 0 : Nat) : Int) != 32) (((byt s (Int.toNat (((ByteArray.size s : Nat) : Int) - 1)) : Nat) : Int) != 32) false)
theorem trimB_to (s : ByteArray) (hs : s.size ≤ 1073741824) : CallTo Tryz.prog 18 [(jS s)] [] [] (jB (trimB s)) [] [] := by
 refine BEG (fun r : Bool => (jB r)) (trimB s) Tryz.func18 (by kernel_rfl) ?_
 refine UF (trimB.eq_1 ..) ?_
 refine GO (tn 4 (kj (eqs s (⟨#[]⟩)) z (tn 1 (hp (fun h => by have j0 := h.2; have j0z := size_eqs_f j0; exact (ib s 0 (by omega))) (tn 2 (kj (((byt s 0 : Nat) : Int) != 32) (tn 3 (hn (fun h => by have j0 := h.1.2; have j0z := size_eqs_f j0; have j1 := h.2; have j1p := bne_iff_ne.1 j1; exact (wrE (((ByteArray.size s : Nat) : Int) - 1) (((ByteArray.size s : Nat) : Int) - 1) (by omega))) (hp (fun h => by have j0 := h.1.2; have j0z := size_eqs_f j0; have j1 := h.2; have j1p := bne_iff_ne.1 j1; exact (ib s (((ByteArray.size s : Nat) : Int) - 1) (by omega))) (tn 1 z)))) z z)))) (tn 1 z))) (by kernel_rfl) ?_
 exact EN (by kernel_rfl)
def noAttr (a : DAttr) : Bool := cond (cond (eqs a.fID (⟨#[]⟩)) (((lenM strAV a.fClasses : Nat) : Int) == 0) false) (((lenM aPair a.fPairs : Nat) : Int) == 0) false
theorem noAttr_to (a : DAttr) : CallTo Tryz.prog 76 [(.av (cAttr a))] [] [] (jB (noAttr a)) [] [] := by
 refine BEG (fun r : Bool => (jB r)) (noAttr a) Tryz.func76 (by kernel_rfl) ?_
 refine UF (noAttr.eq_1 ..) ?_
 refine GO (tn 6 (kj (eqs a.fID (⟨#[]⟩)) (tn 4 z) z (tn 1 (kj (cond (eqs a.fID (⟨#[]⟩)) (((lenM strAV a.fClasses : Nat) : Int) == 0) false) (tn 4 z) z (tn 1 z))))) (by kernel_rfl) ?_
 exact EN (by kernel_rfl)
def hasB_L1 (s : ByteArray) (bs : ByteArray) (v5 : Nat) (k0 : Nat → Bool) : Nat → Nat → Bool
 | 0, _ => default
 | n1 + 1, w6 => cond (decide (((w6 : Nat) : Int) < ((ByteArray.size bs : Nat) : Int))) (cond (((byt s v5 : Nat) : Int) == ((byt bs w6 : Nat) : Int)) true (hasB_L1 s bs v5 k0 n1 (w6 + 1))) (k0 (v5 + 1))
def hasB_L0 (s : ByteArray) (bs : ByteArray) : Nat → Nat → Bool
 | 0, _ => default
 | n0 + 1, v5 => cond (decide (((v5 : Nat) : Int) < ((ByteArray.size s : Nat) : Int))) (hasB_L1 s bs v5 (hasB_L0 s bs n0) ((ByteArray.size bs - 0) + 1) 0) false
def hasB (s : ByteArray) (bs : ByteArray) : Bool := hasB_L0 s bs ((ByteArray.size s - 0) + 1) 0
theorem hasB_to (s : ByteArray) (bs : ByteArray) (hs : s.size ≤ 1073741824) (hbs : bs.size ≤ 1073741824) : CallTo Tryz.prog 102 [(jS s), (jS bs)] [] [] (jB (hasB s bs)) [] [] := by
 refine BEG (fun r : Bool => (jB r)) (hasB s bs) Tryz.func102 (by kernel_rfl) ?_
 refine UF (hasB.eq_1 ..) ?_
 refine GO (tn 2 z) (by kernel_rfl) ?_
 refine LP (fun N M S => ∃ v5 : Nat, (ByteArray.size s - v5 < N) ∧ M = hasB_L0 s bs N v5 ∧ S = (sx 26 [(0, (jS s)), (1, (jS bs)), (5, (jI ((v5 : Nat) : Int)))] [] [])) (by kernel_rfl) ⟨_, by omega, rfl, rfl⟩ (WK (by kernel_rfl)) ?_
 rintro n0 M S ⟨v5, hF0, rfl, rfl⟩
 obtain ⟨n0, rfl⟩ : ∃ k, n0 = k + 1 := ⟨n0 - 1, by omega⟩
 refine UF (hasB_L0.eq_2 ..) ?_
 refine GO (tn 4 z) (by kernel_rfl) ?_
 refine CSd (fun h1p h1 => ?_) (fun h1p h1 => ?_)
 ·refine GO (kb h1 (tn 1 z)) (by kernel_rfl) ?_
  refine LP (fun N M S => ∃ w6 : Nat, (ByteArray.size bs - w6 < N) ∧ M = hasB_L1 s bs v5 (hasB_L0 s bs n0) N w6 ∧ S = (sx 26 [(0, (jS s)), (1, (jS bs)), (5, (jI ((v5 : Nat) : Int))), (6, (jI ((w6 : Nat) : Int)))] [] [])) (by kernel_rfl) ⟨_, by omega, rfl, rfl⟩ (WK (by kernel_rfl)) ?_
  rintro n1 M S ⟨w6, hF1, rfl, rfl⟩
  obtain ⟨n1, rfl⟩ : ∃ k, n1 = k + 1 := ⟨n1 - 1, by omega⟩
  refine UF (hasB_L1.eq_2 ..) ?_
  refine GO (tn 4 z) (by kernel_rfl) ?_
  refine CSd (fun h2p h2 => ?_) (fun h2p h2 => ?_)
  ·refine GO (kb h2 z) (by kernel_rfl) ?_
   refine DR3 (tn 2 (kp (show 0 ≤ ((v5 : Nat) : Int) ∧ ((v5 : Nat) : Int) < ((ByteArray.size s : Nat) : Int) from (by omega)) (tn 2 (kp (show 0 ≤ ((w6 : Nat) : Int) ∧ ((w6 : Nat) : Int) < ((ByteArray.size bs : Nat) : Int) from (by omega)) (tn 1 z))))) (by kernel_rfl) (by kernel_rfl) (by kernel_rfl) ?_
   refine CSe (fun h3p h3 => ?_) (fun h3p h3 => ?_)
   ·refine GO (kb h3 (tn 1 z)) (by kernel_rfl) ?_
    refine OUT z (by kernel_rfl) ?_
    refine OUT z (by kernel_rfl) ?_
    exact EN (by kernel_rfl)
   ·refine GO (kb h3 (tn 1 (kn (wrE (((w6 : Nat) : Int) + 1) ((w6 + 1 : Nat) : Int) (by omega)) (tn 1 z)))) (by kernel_rfl) ?_
    exact AG ⟨_, by omega, rfl, rfl⟩ (WK (by kernel_rfl)) (by kernel_rfl) (Nat.lt_succ_self _)
  ·refine GO (kb h2 z) (by kernel_rfl) ?_
   refine OUT (tn 1 (kn (wrE (((v5 : Nat) : Int) + 1) ((v5 + 1 : Nat) : Int) (by omega)) (tn 1 z))) (by kernel_rfl) ?_
   exact AG ⟨_, by omega, rfl, rfl⟩ (WK (by kernel_rfl)) (by kernel_rfl) (Nat.lt_succ_self _)
 ·refine GO (kb h1 z) (by kernel_rfl) ?_
  refine OUT (tn 1 z) (by kernel_rfl) ?_
  exact EN (by kernel_rfl)
def inL_L0 (k : Int) (l : List Int) : Nat → Nat → Bool
 | 0, _ => default
 | n0 + 1, v5 => cond (decide (((v5 : Nat) : Int) < ((lenM vI l : Nat) : Int))) (cond ((el l v5 : Int) == k) true (inL_L0 k l n0 (v5 + 1))) false
def inL (k : Int) (l : List Int) : Bool := inL_L0 k l ((List.length l - 0) + 1) 0
theorem inL_to (k : Int) (l : List Int) (hl : l.length ≤ 1073741824) : CallTo Tryz.prog 75 [(jI k), (jL (l.map vI))] [] [] (jB (inL k l)) [] [] := by
 refine BEG (fun r : Bool => (jB r)) (inL k l) Tryz.func75 (by kernel_rfl) ?_
 refine UF (inL.eq_1 ..) ?_
 refine GO (tn 2 z) (by kernel_rfl) ?_
 refine LP (fun N M S => ∃ v5 : Nat, (List.length l - v5 < N) ∧ M = inL_L0 k l N v5 ∧ S = (sx 18 [(0, (jI k)), (1, (jL (l.map vI))), (5, (jI ((v5 : Nat) : Int)))] [] [])) (by kernel_rfl) ⟨_, by omega, rfl, rfl⟩ (WK (by kernel_rfl)) ?_
 rintro n0 M S ⟨v5, hF0, rfl, rfl⟩
 obtain ⟨n0, rfl⟩ : ∃ k, n0 = k + 1 := ⟨n0 - 1, by omega⟩
 refine UF (inL_L0.eq_2 ..) ?_
 refine GO (tn 4 z) (by kernel_rfl) ?_
 refine CSd (fun h1p h1 => ?_) (fun h1p h1 => ?_)
 ·have := lenM_eq vI l
  refine GO (kb h1 (tn 2 (ke (el_vI l v5 (by omega)) (tn 3 z)))) (by kernel_rfl) ?_
  refine CSe (fun h2p h2 => ?_) (fun h2p h2 => ?_)
  ·refine GO (kb h2 (tn 1 z)) (by kernel_rfl) ?_
   refine OUT z (by kernel_rfl) ?_
   exact EN (by kernel_rfl)
  ·refine GO (kb h2 (tn 1 (kn (wrE (((v5 : Nat) : Int) + 1) ((v5 + 1 : Nat) : Int) (by omega)) (tn 1 z)))) (by kernel_rfl) ?_
   exact AG ⟨_, by omega, rfl, rfl⟩ (WK (by kernel_rfl)) (by kernel_rfl) (Nat.lt_succ_self _)
 ·have := lenM_eq vI l
  refine GO (kb h1 z) (by kernel_rfl) ?_
  refine OUT (tn 1 z) (by kernel_rfl) ?_
  exact EN (by kernel_rfl)
def refK (k : Int) : Bool := inL k ([9, 16, 12, 14, 13])
theorem refK_to (k : Int) : CallTo Tryz.prog 113 [(jI k)] [] [] (jB (refK k)) [] [] := by
 refine BEG (fun r : Bool => (jB r)) (refK k) Tryz.func113 (by kernel_rfl) ?_
 refine UF (refK.eq_1 ..) ?_
 refine GO (tn 2 (kp (show Uni 1 [(vI 9), (vI 16), (vI 12), (vI 14), (vI 13)] from (by simp [Uni, AV.cells, AV.isTup])) (kc (inL_to k ([9, 16, 12, 14, 13]) (by decide)) (tn 1 z)))) (by kernel_rfl) ?_
 exact EN (by kernel_rfl)
def placeB (kind : Int) (inn : Int) : Bool := cond (cond ((inn : Int) == 7) ((inn : Int) == 7) ((inn : Int) == 8)) ((kind : Int) == 9) (cond ((inn : Int) == 10) ((kind : Int) == 11) (cond ((inn : Int) == 11) ((kind : Int) == 12) (cond (cond ((kind : Int) != 9) ((kind : Int) != 11) false) ((kind : Int) != 12) false)))
theorem placeB_to (kind : Int) (inn : Int) : CallTo Tryz.prog 58 [(jI kind), (jI inn)] [] [] (jB (placeB kind inn)) [] [] := by
 refine BEG (fun r : Bool => (jB r)) (placeB kind inn) Tryz.func58 (by kernel_rfl) ?_
 refine UF (placeB.eq_1 ..) ?_
 refine GO (tn 4 (ks ((inn : Int) == 7) [6] z (tn 2 z) z)) (by kernel_rfl) ?_
 refine CS (fun h1 => ?_) (fun h1 => ?_)
 ·refine GO (kb h1 (tn 3 z)) (by kernel_rfl) ?_
  exact EN (by kernel_rfl)
 ·refine GO (kb h1 (tn 2 z)) (by kernel_rfl) ?_
  refine CSe (fun h2p h2 => ?_) (fun h2p h2 => ?_)
  ·refine GO (kb h2 (tn 3 z)) (by kernel_rfl) ?_
   exact EN (by kernel_rfl)
  ·refine GO (kb h2 (tn 2 z)) (by kernel_rfl) ?_
   refine CSe (fun h3p h3 => ?_) (fun h3p h3 => ?_)
   ·refine GO (kb h3 (tn 3 z)) (by kernel_rfl) ?_
    exact EN (by kernel_rfl)
   ·refine GO (kb h3 (tn 3 (kj ((kind : Int) != 9) (tn 2 z) z (tn 1 (kj (cond ((kind : Int) != 9) ((kind : Int) != 11) false) (tn 2 z) z (tn 1 z)))))) (by kernel_rfl) ?_
    exact EN (by kernel_rfl)
def hasT_L0 (l : List ByteArray) (s : ByteArray) : Nat → Nat → Bool
 | 0, _ => default
 | n0 + 1, v5 => cond (decide (((v5 : Nat) : Int) < ((lenM strAV l : Nat) : Int))) (cond (eqs (el l v5) s) true (hasT_L0 l s n0 (v5 + 1))) false
def hasT (l : List ByteArray) (s : ByteArray) : Bool := hasT_L0 l s ((List.length l - 0) + 1) 0
theorem hasT_to (l : List ByteArray) (s : ByteArray) (hl : l.length ≤ 1073741824) : CallTo Tryz.prog 99 [(jL (l.map strAV)), (jS s)] [] [] (jB (hasT l s)) [] [] := by
 refine BEG (fun r : Bool => (jB r)) (hasT l s) Tryz.func99 (by kernel_rfl) ?_
 refine UF (hasT.eq_1 ..) ?_
 refine GO (tn 2 z) (by kernel_rfl) ?_
 refine LP (fun N M S => ∃ v5 : Nat, (List.length l - v5 < N) ∧ M = hasT_L0 l s N v5 ∧ S = (sx 18 [(0, (jL (l.map strAV))), (1, (jS s)), (5, (jI ((v5 : Nat) : Int)))] [] [])) (by kernel_rfl) ⟨_, by omega, rfl, rfl⟩ (WK (by kernel_rfl)) ?_
 rintro n0 M S ⟨v5, hF0, rfl, rfl⟩
 obtain ⟨n0, rfl⟩ : ∃ k, n0 = k + 1 := ⟨n0 - 1, by omega⟩
 refine UF (hasT_L0.eq_2 ..) ?_
 refine GO (tn 4 z) (by kernel_rfl) ?_
 refine CSd (fun h1p h1 => ?_) (fun h1p h1 => ?_)
 ·have := lenM_eq strAV l
  refine GO (kb h1 (tn 2 (ke (el_strAV l v5 (by omega)) (tn 3 z)))) (by kernel_rfl) ?_
  refine CS (fun h2 => ?_) (fun h2 => ?_)
  ·refine GO (kb h2 (tn 1 z)) (by kernel_rfl) ?_
   refine OUT z (by kernel_rfl) ?_
   exact EN (by kernel_rfl)
  ·refine GO (kb h2 (tn 1 (kn (wrE (((v5 : Nat) : Int) + 1) ((v5 + 1 : Nat) : Int) (by omega)) (tn 1 z)))) (by kernel_rfl) ?_
   exact AG ⟨_, by omega, rfl, rfl⟩ (WK (by kernel_rfl)) (by kernel_rfl) (Nat.lt_succ_self _)
 ·have := lenM_eq strAV l
  refine GO (kb h1 z) (by kernel_rfl) ?_
  refine OUT (tn 1 z) (by kernel_rfl) ?_
  exact EN (by kernel_rfl)
def hasK_L0 (l : List DPair) (s : ByteArray) : Nat → Nat → Bool
 | 0, _ => default
 | n0 + 1, v5 => cond (decide (((v5 : Nat) : Int) < ((lenM aPair l : Nat) : Int))) (cond (eqs ((el l v5).fKey) s) true (hasK_L0 l s n0 (v5 + 1))) false
def hasK (l : List DPair) (s : ByteArray) : Bool := hasK_L0 l s ((List.length l - 0) + 1) 0
theorem hasK_to (l : List DPair) (s : ByteArray) (hl : l.length ≤ 1073741824) : CallTo Tryz.prog 101 [(jL (l.map aPair)), (jS s)] [] [] (jB (hasK l s)) [] [] := by
 refine BEG (fun r : Bool => (jB r)) (hasK l s) Tryz.func101 (by kernel_rfl) ?_
 refine UF (hasK.eq_1 ..) ?_
 refine GO (tn 2 z) (by kernel_rfl) ?_
 refine LP (fun N M S => ∃ v5 : Nat, (List.length l - v5 < N) ∧ M = hasK_L0 l s N v5 ∧ S = (sx 19 [(0, (jL (l.map aPair))), (1, (jS s)), (5, (jI ((v5 : Nat) : Int)))] [] [])) (by kernel_rfl) ⟨_, by omega, rfl, rfl⟩ (WK (by kernel_rfl)) ?_
 rintro n0 M S ⟨v5, hF0, rfl, rfl⟩
 obtain ⟨n0, rfl⟩ : ∃ k, n0 = k + 1 := ⟨n0 - 1, by omega⟩
 refine UF (hasK_L0.eq_2 ..) ?_
 refine GO (tn 4 z) (by kernel_rfl) ?_
 refine CSd (fun h1p h1 => ?_) (fun h1p h1 => ?_)
 ·have := lenM_eq aPair l
  refine GO (kb h1 (tn 2 (ke (el_aPair l v5 (by omega)) (tn 4 z)))) (by kernel_rfl) ?_
  refine CS (fun h2 => ?_) (fun h2 => ?_)
  ·refine GO (kb h2 (tn 1 z)) (by kernel_rfl) ?_
   refine OUT z (by kernel_rfl) ?_
   exact EN (by kernel_rfl)
  ·refine GO (kb h2 (tn 1 (kn (wrE (((v5 : Nat) : Int) + 1) ((v5 + 1 : Nat) : Int) (by omega)) (tn 1 z)))) (by kernel_rfl) ?_
   exact AG ⟨_, by omega, rfl, rfl⟩ (WK (by kernel_rfl)) (by kernel_rfl) (Nat.lt_succ_self _)
 ·have := lenM_eq aPair l
  refine GO (kb h1 z) (by kernel_rfl) ?_
  refine OUT (tn 1 z) (by kernel_rfl) ?_
  exact EN (by kernel_rfl)
def getR_L0 (a : DAttr) (key : ByteArray) : Nat → Nat → (ByteArray × Bool)
 | 0, _ => default
 | n0 + 1, v6 => cond (decide (((v6 : Nat) : Int) < ((lenM aPair a.fPairs : Nat) : Int))) (cond (eqs ((el a.fPairs v6).fKey) key) ((el a.fPairs v6).fValue, true) (getR_L0 a key n0 (v6 + 1))) (⟨#[]⟩, false)
def getR (a : DAttr) (key : ByteArray) : (ByteArray × Bool) := getR_L0 a key ((List.length a.fPairs - 0) + 1) 0
theorem getR_to (a : DAttr) (key : ByteArray) (ha : a.fPairs.length ≤ 1073741824) : CallTo Tryz.prog 29 [(.av (cAttr a)), (jS key)] [] [] (.av (.tup [(vS ((getR a key).1)), (vB ((getR a key).2))])) [] [] := by
 refine BEG (fun r : (ByteArray × Bool) => (.av (.tup [(vS r.1), (vB r.2)]))) (getR a key) Tryz.func29 (by kernel_rfl) ?_
 refine UF (getR.eq_1 ..) ?_
 refine GO (tn 4 z) (by kernel_rfl) ?_
 refine LP (fun N M S => ∃ v6 : Nat, (List.length a.fPairs - v6 < N) ∧ M = getR_L0 a key N v6 ∧ S = (sx 28 [(1, (jS key)), (2, (.ptr 2 0)), (6, (jI ((v6 : Nat) : Int)))] [(2, (.cells 38 (sAttr a)))] [])) (by kernel_rfl) ⟨_, by omega, rfl, rfl⟩ (WK (by kernel_rfl)) ?_
 rintro n0 M S ⟨v6, hF0, rfl, rfl⟩
 obtain ⟨n0, rfl⟩ : ∃ k, n0 = k + 1 := ⟨n0 - 1, by omega⟩
 refine UF (getR_L0.eq_2 ..) ?_
 refine GO (tn 5 z) (by kernel_rfl) ?_
 refine CSd (fun h1p h1 => ?_) (fun h1p h1 => ?_)
 ·have := lenM_eq aPair a.fPairs
  refine GO (kb h1 (tn 3 (ke (el_aPair a.fPairs v6 (by omega)) (tn 4 z)))) (by kernel_rfl) ?_
  refine CS (fun h2 => ?_) (fun h2 => ?_)
  ·refine GO (kb h2 (tn 3 (ke (el_aPair a.fPairs v6 (by omega)) (tn 4 z)))) (by kernel_rfl) ?_
   refine OUT z (by kernel_rfl) ?_
   exact EN (by kernel_rfl)
  ·refine GO (kb h2 (tn 1 (kn (wrE (((v6 : Nat) : Int) + 1) ((v6 + 1 : Nat) : Int) (by omega)) (tn 1 z)))) (by kernel_rfl) ?_
   exact AG ⟨_, by omega, rfl, rfl⟩ (WK (by kernel_rfl)) (by kernel_rfl) (Nat.lt_succ_self _)
 ·have := lenM_eq aPair a.fPairs
  refine GO (kb h1 z) (by kernel_rfl) ?_
  refine OUT (tn 2 z) (by kernel_rfl) ?_
  exact EN (by kernel_rfl)
def getP_L0 (a : DAttr) (key : ByteArray) : Nat → Nat → (ByteArray × Bool)
 | 0, _ => default
 | n0 + 1, v11 => cond (decide (((v11 : Nat) : Int) < ((lenM aPair a.fPairs : Nat) : Int))) (cond (eqs ((el a.fPairs v11).fKey) key) ((el a.fPairs v11).fValue, true) (getP_L0 a key n0 (v11 + 1))) (⟨#[]⟩, false)
def getP (a : DAttr) (key : ByteArray) : (ByteArray × Bool) := getP_L0 a key ((List.length a.fPairs - 0) + 1) 0
theorem getP_to (a : DAttr) (key : ByteArray) (ha : a.fPairs.length ≤ 1073741824) : CallTo Tryz.prog 64 [(.av (cAttr a)), (jS key)] [] [] (.av (.tup [(vS ((getP a key).1)), (vB ((getP a key).2))])) [] [] := by
 refine BEG (fun r : (ByteArray × Bool) => (.av (.tup [(vS r.1), (vB r.2)]))) (getP a key) Tryz.func64 (by kernel_rfl) ?_
 refine UF (getP.eq_1 ..) ?_
 refine GO (tn 7 z) (by kernel_rfl) ?_
 refine LP (fun N M S => ∃ v11 : Nat, (List.length a.fPairs - v11 < N) ∧ M = getP_L0 a key N v11 ∧ S = (sx 22 [(1, (jS key)), (9, (jL (a.fPairs.map aPair))), (10, (jI ((lenM aPair a.fPairs : Nat) : Int))), (11, (jI ((v11 : Nat) : Int)))] [] [])) (by kernel_rfl) ⟨_, by omega, rfl, rfl⟩ (WK (by kernel_rfl)) ?_
 rintro n0 M S ⟨v11, hF0, rfl, rfl⟩
 obtain ⟨n0, rfl⟩ : ∃ k, n0 = k + 1 := ⟨n0 - 1, by omega⟩
 refine UF (getP_L0.eq_2 ..) ?_
 refine GO (tn 1 z) (by kernel_rfl) ?_
 refine CSd (fun h1p h1 => ?_) (fun h1p h1 => ?_)
 ·have := lenM_eq aPair a.fPairs
  refine GO (kb h1 (ke (el_aPair a.fPairs v11 (by omega)) (tn 7 z))) (by kernel_rfl) ?_
  refine CS (fun h2 => ?_) (fun h2 => ?_)
  ·refine GO (kb h2 (tn 4 z)) (by kernel_rfl) ?_
   refine OUT z (by kernel_rfl) ?_
   exact EN (by kernel_rfl)
  ·refine GO (kb h2 (kn (wrE (((v11 : Nat) : Int) + 1) ((v11 + 1 : Nat) : Int) (by omega)) (tn 1 z))) (by kernel_rfl) ?_
   exact AG ⟨_, by omega, rfl, rfl⟩ (WK (by kernel_rfl)) (by kernel_rfl) (Nat.lt_succ_self _)
 ·have := lenM_eq aPair a.fPairs
  refine GO (kb h1 z) (by kernel_rfl) ?_
  refine OUT (tn 2 z) (by kernel_rfl) ?_
  exact EN (by kernel_rfl)
def textsB_L0 (a : List ByteArray) (b : List ByteArray) : Nat → Nat → Bool
 | 0, _ => default
 | n0 + 1, v5 => cond (decide (((v5 : Nat) : Int) < ((lenM strAV a : Nat) : Int))) (cond (!eqs (el a v5) (el b v5)) false (textsB_L0 a b n0 (v5 + 1))) true
def textsB (a : List ByteArray) (b : List ByteArray) : Bool := cond (((lenM strAV a : Nat) : Int) != ((lenM strAV b : Nat) : Int)) false (textsB_L0 a b ((List.length a - 0) + 1) 0)
theorem textsB_to (a : List ByteArray) (b : List ByteArray) (ha : a.length ≤ 1073741824) (hb : b.length ≤ 1073741824) : CallTo Tryz.prog 73 [(jL (a.map strAV)), (jL (b.map strAV))] [] [] (jB (textsB a b)) [] [] := by
 refine BEG (fun r : Bool => (jB r)) (textsB a b) Tryz.func73 (by kernel_rfl) ?_
 refine UF (textsB.eq_1 ..) ?_
 refine GO (tn 6 z) (by kernel_rfl) ?_
 refine CSn (fun h1p h1 => ?_) (fun h1p h1 => ?_)
 ·have := lenM_eq strAV a
  have := lenM_eq strAV b
  refine GO (kb h1 (tn 1 z)) (by kernel_rfl) ?_
  exact EN (by kernel_rfl)
 ·have := lenM_eq strAV a
  have := lenM_eq strAV b
  refine GO (kb h1 (tn 1 z)) (by kernel_rfl) ?_
  refine LP (fun N M S => ∃ v5 : Nat, (List.length a - v5 < N) ∧ M = textsB_L0 a b N v5 ∧ S = (sx 26 [(0, (jL (a.map strAV))), (1, (jL (b.map strAV))), (5, (jI ((v5 : Nat) : Int)))] [] [])) (by kernel_rfl) ⟨_, by omega, rfl, rfl⟩ (WK (by kernel_rfl)) ?_
  rintro n0 M S ⟨v5, hF0, rfl, rfl⟩
  obtain ⟨n0, rfl⟩ : ∃ k, n0 = k + 1 := ⟨n0 - 1, by omega⟩
  refine UF (textsB_L0.eq_2 ..) ?_
  refine GO (tn 4 z) (by kernel_rfl) ?_
  refine CSd (fun h2p h2 => ?_) (fun h2p h2 => ?_)
  ·have := lenM_eq strAV a
   refine GO (kb h2 z) (by kernel_rfl) ?_
   have d3 := (el_strAV a v5 (by omega))
   have d4 := (el_strAV b v5 (by omega))
   refine DR3 (tn 2 (ko (eO d3) (kp d3 (tn 3 (ko (eO d4) (kp d4 (tn 2 z))))))) (by kernel_rfl) (by kernel_rfl) (by kernel_rfl) ?_
   refine CS (fun h5 => ?_) (fun h5 => ?_)
   ·have h5n := nott h5
    refine GO (kb h5 (tn 1 z)) (by kernel_rfl) ?_
    refine OUT z (by kernel_rfl) ?_
    exact EN (by kernel_rfl)
   ·have h5n := notf h5
    refine GO (kb h5 (tn 1 (kn (wrE (((v5 : Nat) : Int) + 1) ((v5 + 1 : Nat) : Int) (by omega)) (tn 1 z)))) (by kernel_rfl) ?_
    exact AG ⟨_, by omega, rfl, rfl⟩ (WK (by kernel_rfl)) (by kernel_rfl) (Nat.lt_succ_self _)
  ·have := lenM_eq strAV a
   refine GO (kb h2 z) (by kernel_rfl) ?_
   refine OUT (tn 1 z) (by kernel_rfl) ?_
   exact EN (by kernel_rfl)
def pairsB_L0 (a : List DPair) (b : List DPair) : Nat → Nat → Bool
 | 0, _ => default
 | n0 + 1, v5 => cond (decide (((v5 : Nat) : Int) < ((lenM aPair a : Nat) : Int))) (cond (!(eqs ((el a v5).fKey) ((el b v5).fKey) && (eqs ((el a v5).fValue) ((el b v5).fValue) && true))) false (pairsB_L0 a b n0 (v5 + 1))) true
def pairsB (a : List DPair) (b : List DPair) : Bool := cond (((lenM aPair a : Nat) : Int) != ((lenM aPair b : Nat) : Int)) false (pairsB_L0 a b ((List.length a - 0) + 1) 0)
theorem pairsB_to (a : List DPair) (b : List DPair) (ha : a.length ≤ 1073741824) (hb : b.length ≤ 1073741824) : CallTo Tryz.prog 26 [(jL (a.map aPair)), (jL (b.map aPair))] [] [] (jB (pairsB a b)) [] [] := by
 refine BEG (fun r : Bool => (jB r)) (pairsB a b) Tryz.func26 (by kernel_rfl) ?_
 refine UF (pairsB.eq_1 ..) ?_
 refine GO (tn 6 z) (by kernel_rfl) ?_
 refine CSn (fun h1p h1 => ?_) (fun h1p h1 => ?_)
 ·have := lenM_eq aPair a
  have := lenM_eq aPair b
  refine GO (kb h1 (tn 1 z)) (by kernel_rfl) ?_
  exact EN (by kernel_rfl)
 ·have := lenM_eq aPair a
  have := lenM_eq aPair b
  refine GO (kb h1 (tn 1 z)) (by kernel_rfl) ?_
  refine LP (fun N M S => ∃ v5 : Nat, (List.length a - v5 < N) ∧ M = pairsB_L0 a b N v5 ∧ S = (sx 26 [(0, (jL (a.map aPair))), (1, (jL (b.map aPair))), (5, (jI ((v5 : Nat) : Int)))] [] [])) (by kernel_rfl) ⟨_, by omega, rfl, rfl⟩ (WK (by kernel_rfl)) ?_
  rintro n0 M S ⟨v5, hF0, rfl, rfl⟩
  obtain ⟨n0, rfl⟩ : ∃ k, n0 = k + 1 := ⟨n0 - 1, by omega⟩
  refine UF (pairsB_L0.eq_2 ..) ?_
  refine GO (tn 4 z) (by kernel_rfl) ?_
  refine CSd (fun h2p h2 => ?_) (fun h2p h2 => ?_)
  ·have := lenM_eq aPair a
   refine GO (kb h2 z) (by kernel_rfl) ?_
   have d3 := (el_aPair a v5 (by omega))
   have d4 := (el_aPair b v5 (by omega))
   refine DR3 (tn 2 (ko (eO d3) (kp d3 (tn 3 (ko (eO d4) (kp d4 (tn 2 z))))))) (by kernel_rfl) (by kernel_rfl) (by kernel_rfl) ?_
   refine CS (fun h5 => ?_) (fun h5 => ?_)
   ·have h5n := nott h5
    refine GO (kb h5 (tn 1 z)) (by kernel_rfl) ?_
    refine OUT z (by kernel_rfl) ?_
    exact EN (by kernel_rfl)
   ·have h5n := notf h5
    refine GO (kb h5 (tn 1 (kn (wrE (((v5 : Nat) : Int) + 1) ((v5 + 1 : Nat) : Int) (by omega)) (tn 1 z)))) (by kernel_rfl) ?_
    exact AG ⟨_, by omega, rfl, rfl⟩ (WK (by kernel_rfl)) (by kernel_rfl) (Nat.lt_succ_self _)
  ·have := lenM_eq aPair a
   refine GO (kb h2 z) (by kernel_rfl) ?_
   refine OUT (tn 1 z) (by kernel_rfl) ?_
   exact EN (by kernel_rfl)
def moreI (s : ByteArray) (i : Int) (low : Int) (high : Int) : Int := cond (cond (cond (decide ((i : Int) ≥ ((ByteArray.size s : Nat) : Int))) true (decide ((IntKind.i64.wrap ((byt s (Int.toNat i) : Nat) : Int) : Int) < low))) true (decide ((IntKind.i64.wrap ((byt s (Int.toNat i) : Nat) : Int) : Int) > high))) (-1) ((IntKind.i64.wrap ((byt s (Int.toNat i) : Nat) : Int)) - 128)
theorem moreI_to (s : ByteArray) (i : Int) (low : Int) (high : Int) (hs : s.size ≤ 1073741824) (h0 : 0 ≤ i) : CallTo Tryz.prog 93 [(jS s), (jI i), (jI low), (jI high)] [] [] (jI (moreI s i low high)) [] [] := by
 refine BEG (fun r : Int => (jI r)) (moreI s i low high) Tryz.func93 (by kernel_rfl) ?_
 refine UF (moreI.eq_1 ..) ?_
 refine GO (tn 6 (kj (decide ((i : Int) ≥ ((ByteArray.size s : Nat) : Int))) z (tn 2 (hp (fun h => by have j0 := h.2; have j0p := of_decide_eq_false j0; exact (ib s i (by omega))) (tn 3 z))) (tn 1 (kj (cond (decide ((i : Int) ≥ ((ByteArray.size s : Nat) : Int))) true (decide ((IntKind.i64.wrap ((byt s (Int.toNat i) : Nat) : Int) : Int) < low))) z (tn 2 (hp (fun h => by have j0 := h.2; obtain ⟨j0a, j0o⟩ := cond_tt j0; have j0ap := of_decide_eq_false j0a; have j0op := of_decide_eq_false j0o; exact (ib s i (by omega))) (tn 3 z))) z)))) (by kernel_rfl) ?_
 refine CS (fun h1 => ?_) (fun h1 => ?_)
 ·refine GO (kb h1 (tn 1 z)) (by kernel_rfl) ?_
  exact EN (by kernel_rfl)
 ·obtain ⟨h1a, h1o⟩ := cond_tt h1
  obtain ⟨h1aa, h1ao⟩ := cond_tt h1a
  have h1aap := of_decide_eq_false h1aa
  have h1aop := of_decide_eq_false h1ao
  have h1op := of_decide_eq_false h1o
  have := wrap_byt s (Int.toNat i)
  have := byt_lt s (Int.toNat i)
  refine GO (kb h1 (tn 2 (kp (ib s i (by omega)) (tn 1 (kn (wrE ((IntKind.i64.wrap ((byt s (Int.toNat i) : Nat) : Int)) - 128) ((IntKind.i64.wrap ((byt s (Int.toNat i) : Nat) : Int)) - 128) (by omega)) (tn 1 z)))))) (by kernel_rfl) ?_
  exact EN (by kernel_rfl)
def cleanB (c : Int) : Bool := cond ((c : Int) == 10) true (cond (decide ((c : Int) ≥ 32)) ((c : Int) != 127) false)
theorem cleanB_to (c : Int) : CallTo Tryz.prog 56 [(jI c)] [] [] (jB (cleanB c)) [] [] := by
 refine BEG (fun r : Bool => (jB r)) (cleanB c) Tryz.func56 (by kernel_rfl) ?_
 refine UF (cleanB.eq_1 ..) ?_
 refine GO (tn 4 (kj ((c : Int) == 10) z (tn 3 (kj (decide ((c : Int) ≥ 32)) (tn 2 z) z z)) (tn 1 z))) (by kernel_rfl) ?_
 exact EN (by kernel_rfl)
def digB (c : Int) : Bool := cond (decide ((c : Int) ≥ 48)) (decide ((c : Int) ≤ 57)) false
theorem digB_to (c : Int) : CallTo Tryz.prog 106 [(jI c)] [] [] (jB (digB c)) [] [] := by
 refine BEG (fun r : Bool => (jB r)) (digB c) Tryz.func106 (by kernel_rfl) ?_
 refine UF (digB.eq_1 ..) ?_
 refine GO (tn 4 (kj (decide ((c : Int) ≥ 48)) (tn 2 z) z (tn 1 z))) (by kernel_rfl) ?_
 exact EN (by kernel_rfl)
def spB (c : Int) : Bool := cond ((c : Int) == 32) true ((c : Int) == 10)
theorem spB_to (c : Int) : CallTo Tryz.prog 116 [(jI c)] [] [] (jB (spB c)) [] [] := by
 refine BEG (fun r : Bool => (jB r)) (spB c) Tryz.func116 (by kernel_rfl) ?_
 refine UF (spB.eq_1 ..) ?_
 refine GO (tn 4 (kj ((c : Int) == 32) z (tn 2 z) (tn 1 z))) (by kernel_rfl) ?_
 exact EN (by kernel_rfl)
def lowI (c : Int) : Int := cond (cond (cond (decide ((c : Int) ≥ 65)) (decide ((c : Int) ≤ 90)) false) (cond (decide ((c : Int) ≥ 65)) (decide ((c : Int) ≤ 90)) false) (cond (cond (cond (decide ((c : Int) ≥ 192)) (decide ((c : Int) ≤ 222)) false) ((c : Int) != 215) false) (cond (cond (decide ((c : Int) ≥ 192)) (decide ((c : Int) ≤ 222)) false) ((c : Int) != 215) false) (cond (cond (cond (decide ((c : Int) ≥ 913)) (decide ((c : Int) ≤ 939)) false) ((c : Int) != 930) false) (cond (cond (decide ((c : Int) ≥ 913)) (decide ((c : Int) ≤ 939)) false) ((c : Int) != 930) false) (cond (decide ((c : Int) ≥ 1040)) (decide ((c : Int) ≤ 1071)) false)))) (c + 32) (cond (cond (decide ((c : Int) ≥ 1024)) (decide ((c : Int) ≤ 1039)) false) (c + 80) c)
theorem lowI_to (c : Int) (hc : -1073741824 ≤ c) (hc2 : c ≤ 1073741824) : CallTo Tryz.prog 117 [(jI c)] [] [] (jI (lowI c)) [] [] := by
 refine BEG (fun r : Int => (jI r)) (lowI c) Tryz.func117 (by kernel_rfl) ?_
 refine UF (lowI.eq_1 ..) ?_
 refine GO (tn 4 (kj (decide ((c : Int) ≥ 65)) (tn 2 z) z (tn 1 (ks (cond (decide ((c : Int) ≥ 65)) (decide ((c : Int) ≤ 90)) false) [3] z (tn 3 (kj (decide ((c : Int) ≥ 192)) (tn 2 z) z (tn 1 (kj (cond (decide ((c : Int) ≥ 192)) (decide ((c : Int) ≤ 222)) false) (tn 2 z) z (tn 1 (ks (cond (cond (decide ((c : Int) ≥ 192)) (decide ((c : Int) ≤ 222)) false) ((c : Int) != 215) false) [3] z (tn 3 (kj (decide ((c : Int) ≥ 913)) (tn 2 z) z (tn 1 (kj (cond (decide ((c : Int) ≥ 913)) (decide ((c : Int) ≤ 939)) false) (tn 2 z) z (tn 1 (ks (cond (cond (decide ((c : Int) ≥ 913)) (decide ((c : Int) ≤ 939)) false) ((c : Int) != 930) false) [3] z (tn 3 (kj (decide ((c : Int) ≥ 1040)) (tn 2 z) z (tn 1 z))) z)))))) z)))))) z)))) (by kernel_rfl) ?_
 refine CS (fun h1 => ?_) (fun h1 => ?_)
 ·refine GO (kb h1 (tn 1 (kn (wrE (c + 32) (c + 32) (by omega)) (tn 1 z)))) (by kernel_rfl) ?_
  exact EN (by kernel_rfl)
 ·refine GO (kb h1 (tn 3 (kj (decide ((c : Int) ≥ 1024)) (tn 2 z) z (tn 1 z)))) (by kernel_rfl) ?_
  refine CS (fun h2 => ?_) (fun h2 => ?_)
  ·obtain ⟨h2a, h2o⟩ := cond_ff h2
   have h2ap := of_decide_eq_true h2a
   have h2op := of_decide_eq_true h2o
   refine GO (kb h2 (tn 1 (kn (wrE (c + 80) (c + 80) (by omega)) (tn 1 z)))) (by kernel_rfl) ?_
   exact EN (by kernel_rfl)
  ·refine GO (kb h2 (tn 2 z)) (by kernel_rfl) ?_
   exact EN (by kernel_rfl)
def inR_L0 (c : Int) (l : List DRange) : Nat → Nat → Bool
 | 0, _ => default
 | n0 + 1, v9 => cond (decide (((v9 : Nat) : Int) < ((lenM aRange l : Nat) : Int))) (cond (cond (decide ((c : Int) ≥ (el l v9).fFrom)) (decide ((c : Int) ≤ (el l v9).fTo)) false) true (inR_L0 c l n0 (v9 + 1))) false
def inR (c : Int) (l : List DRange) : Bool := inR_L0 c l ((List.length l - 0) + 1) 0
theorem inR_to (c : Int) (l : List DRange) (hl : l.length ≤ 1073741824) : CallTo Tryz.prog 119 [(jI c), (jL (l.map aRange))] [] [] (jB (inR c l)) [] [] := by
 refine BEG (fun r : Bool => (jB r)) (inR c l) Tryz.func119 (by kernel_rfl) ?_
 refine UF (inR.eq_1 ..) ?_
 refine GO (tn 4 z) (by kernel_rfl) ?_
 refine LP (fun N M S => ∃ v9 : Nat, (List.length l - v9 < N) ∧ M = inR_L0 c l N v9 ∧ S = (sx 24 [(0, (jI c)), (7, (jL (l.map aRange))), (8, (jI ((lenM aRange l : Nat) : Int))), (9, (jI ((v9 : Nat) : Int)))] [] [])) (by kernel_rfl) ⟨_, by omega, rfl, rfl⟩ (WK (by kernel_rfl)) ?_
 rintro n0 M S ⟨v9, hF0, rfl, rfl⟩
 obtain ⟨n0, rfl⟩ : ∃ k, n0 = k + 1 := ⟨n0 - 1, by omega⟩
 refine UF (inR_L0.eq_2 ..) ?_
 refine GO (tn 1 z) (by kernel_rfl) ?_
 refine CSd (fun h1p h1 => ?_) (fun h1p h1 => ?_)
 ·have := lenM_eq aRange l
  refine GO (kb h1 (ke (el_aRange l v9 (by omega)) (tn 8 (kj (decide ((c : Int) ≥ (el l v9).fFrom)) (tn 4 z) z z)))) (by kernel_rfl) ?_
  refine CS (fun h2 => ?_) (fun h2 => ?_)
  ·obtain ⟨h2a, h2o⟩ := cond_ff h2
   have h2ap := of_decide_eq_true h2a
   have h2op := of_decide_eq_true h2o
   refine GO (kb h2 (tn 1 z)) (by kernel_rfl) ?_
   refine OUT z (by kernel_rfl) ?_
   exact EN (by kernel_rfl)
  ·refine GO (kb h2 (kn (wrE (((v9 : Nat) : Int) + 1) ((v9 + 1 : Nat) : Int) (by omega)) (tn 1 z))) (by kernel_rfl) ?_
   exact AG ⟨_, by omega, rfl, rfl⟩ (WK (by kernel_rfl)) (by kernel_rfl) (Nat.lt_succ_self _)
 ·have := lenM_eq aRange l
  refine GO (kb h1 z) (by kernel_rfl) ?_
  refine OUT (tn 1 z) (by kernel_rfl) ?_
  exact EN (by kernel_rfl)
def brk (k : Int) : Bool := cond ((k : Int) == 2) true ((k : Int) == 3)
theorem brk_to (k : Int) : CallTo Tryz.prog 72 [(jI k)] [] [] (jB (brk k)) [] [] := by
 refine BEG (fun r : Bool => (jB r)) (brk k) Tryz.func72 (by kernel_rfl) ?_
 refine UF (brk.eq_1 ..) ?_
 refine GO (tn 4 (kj ((k : Int) == 2) z (tn 2 z) (tn 1 z))) (by kernel_rfl) ?_
 exact EN (by kernel_rfl)
end Go.Proofs.YtdaglbjgdakmcaaGreat
namespace Go.Proofs.YtdaglbjgdakmcaaGreat
open Go Go.Eng
theorem moreI_bd (s : ByteArray) (i low high : Int) : -128 ≤ moreI s i low high ∧ moreI s i low high ≤ 127 := by
 have h1 := wrap_byt s i.toNat; have h2 := byt_lt s i.toNat
 unfold moreI; rw [Bool.cond_eq_ite]; split <;> omega
def threeP (s : ByteArray) (i : Int) : DPoint := cond (cond (decide ((moreI s (i + 1) (cond ((IntKind.i64.wrap ((byt s (Int.toNat i) : Nat) : Int) : Int) == 224) 160 128) (cond ((IntKind.i64.wrap ((byt s (Int.toNat i) : Nat) : Int) : Int) == 237) 159 191) : Int) < 0)) true (decide ((moreI s (i + 2) 128 191 : Int) < 0))) (DPoint.mk 65533 1) (DPoint.mk (((((IntKind.i64.wrap ((byt s (Int.toNat i) : Nat) : Int)) - 224) * 4096) + ((moreI s (i + 1) (cond ((IntKind.i64.wrap ((byt s (Int.toNat i) : Nat) : Int) : Int) == 224) 160 128) (cond ((IntKind.i64.wrap ((byt s (Int.toNat i) : Nat) : Int) : Int) == 237) 159 191)) * 64)) + (moreI s (i + 2) 128 191)) 3)
theorem threeP_to (s : ByteArray) (i : Int) (hs : s.size ≤ 1073741824) (h0 : 0 ≤ i) (h1 : i < s.size) : CallTo Tryz.prog 94 [(jS s), (jI i)] [] [] (.av (cPoint (threeP s i))) [] [] := by
 refine BEG (fun r : DPoint => (.av (cPoint r))) (threeP s i) Tryz.func94 (by kernel_rfl) ?_
 refine UF (threeP.eq_1 ..) ?_
 have := wrap_byt s (Int.toNat i)
 have := byt_lt s (Int.toNat i)
 have := cond_or ((IntKind.i64.wrap ((byt s (Int.toNat i) : Nat) : Int) : Int) == 224) 160 128
 have := cond_or ((IntKind.i64.wrap ((byt s (Int.toNat i) : Nat) : Int) : Int) == 237) 159 191
 have := moreI_bd s (i + 1) (cond ((IntKind.i64.wrap ((byt s (Int.toNat i) : Nat) : Int) : Int) == 224) 160 128) (cond ((IntKind.i64.wrap ((byt s (Int.toNat i) : Nat) : Int) : Int) == 237) 159 191)
 have := moreI_bd s (i + 2) 128 191
 refine GO (tn 3 (kp (ib s i (by omega)) (tn 6 (ks ((IntKind.i64.wrap ((byt s (Int.toNat i) : Nat) : Int) : Int) == 224) [6] (tn 1 z) z (tn 2 (ks ((IntKind.i64.wrap ((byt s (Int.toNat i) : Nat) : Int) : Int) == 237) [7] (tn 1 z) z (tn 2 (kn (wrE (i + 1) (i + 1) (by omega)) (tn 2 (kc (moreI_to s (i + 1) (cond ((IntKind.i64.wrap ((byt s (Int.toNat i) : Nat) : Int) : Int) == 224) 160 128) (cond ((IntKind.i64.wrap ((byt s (Int.toNat i) : Nat) : Int) : Int) == 237) 159 191) (by omega) (by omega)) (tn 3 (kn (wrE (i + 2) (i + 2) (by omega)) (kc (moreI_to s (i + 2) 128 191 (by omega) (by omega)) (tn 4 (kj (decide ((moreI s (i + 1) (cond ((IntKind.i64.wrap ((byt s (Int.toNat i) : Nat) : Int) : Int) == 224) 160 128) (cond ((IntKind.i64.wrap ((byt s (Int.toNat i) : Nat) : Int) : Int) == 237) 159 191) : Int) < 0)) z (tn 2 z) z))))))))))))))) (by kernel_rfl) ?_
 refine CS (fun h1 => ?_) (fun h1 => ?_)
 ·refine GO (kb h1 (tn 2 z)) (by kernel_rfl) ?_
  exact EN (by kernel_rfl)
 ·obtain ⟨h1a, h1o⟩ := cond_tt h1
  have h1ap := of_decide_eq_false h1a
  have h1op := of_decide_eq_false h1o
  refine GO (kb h1 (tn 1 (kn (wrE ((IntKind.i64.wrap ((byt s (Int.toNat i) : Nat) : Int)) - 224) ((IntKind.i64.wrap ((byt s (Int.toNat i) : Nat) : Int)) - 224) (by omega)) (kn (wrE (((IntKind.i64.wrap ((byt s (Int.toNat i) : Nat) : Int)) - 224) * 4096) (((IntKind.i64.wrap ((byt s (Int.toNat i) : Nat) : Int)) - 224) * 4096) (by omega)) (tn 1 (kn (wrE ((moreI s (i + 1) (cond ((IntKind.i64.wrap ((byt s (Int.toNat i) : Nat) : Int) : Int) == 224) 160 128) (cond ((IntKind.i64.wrap ((byt s (Int.toNat i) : Nat) : Int) : Int) == 237) 159 191)) * 64) ((moreI s (i + 1) (cond ((IntKind.i64.wrap ((byt s (Int.toNat i) : Nat) : Int) : Int) == 224) 160 128) (cond ((IntKind.i64.wrap ((byt s (Int.toNat i) : Nat) : Int) : Int) == 237) 159 191)) * 64) (by omega)) (kn (wrE ((((IntKind.i64.wrap ((byt s (Int.toNat i) : Nat) : Int)) - 224) * 4096) + ((moreI s (i + 1) (cond ((IntKind.i64.wrap ((byt s (Int.toNat i) : Nat) : Int) : Int) == 224) 160 128) (cond ((IntKind.i64.wrap ((byt s (Int.toNat i) : Nat) : Int) : Int) == 237) 159 191)) * 64)) ((((IntKind.i64.wrap ((byt s (Int.toNat i) : Nat) : Int)) - 224) * 4096) + ((moreI s (i + 1) (cond ((IntKind.i64.wrap ((byt s (Int.toNat i) : Nat) : Int) : Int) == 224) 160 128) (cond ((IntKind.i64.wrap ((byt s (Int.toNat i) : Nat) : Int) : Int) == 237) 159 191)) * 64)) (by omega)) (tn 1 (kn (wrE (((((IntKind.i64.wrap ((byt s (Int.toNat i) : Nat) : Int)) - 224) * 4096) + ((moreI s (i + 1) (cond ((IntKind.i64.wrap ((byt s (Int.toNat i) : Nat) : Int) : Int) == 224) 160 128) (cond ((IntKind.i64.wrap ((byt s (Int.toNat i) : Nat) : Int) : Int) == 237) 159 191)) * 64)) + (moreI s (i + 2) 128 191)) (((((IntKind.i64.wrap ((byt s (Int.toNat i) : Nat) : Int)) - 224) * 4096) + ((moreI s (i + 1) (cond ((IntKind.i64.wrap ((byt s (Int.toNat i) : Nat) : Int) : Int) == 224) 160 128) (cond ((IntKind.i64.wrap ((byt s (Int.toNat i) : Nat) : Int) : Int) == 237) 159 191)) * 64)) + (moreI s (i + 2) 128 191)) (by omega)) (tn 2 z)))))))))) (by kernel_rfl) ?_
  exact EN (by kernel_rfl)
def fourP (s : ByteArray) (i : Int) : DPoint := cond (cond (cond (decide ((moreI s (i + 1) (cond ((IntKind.i64.wrap ((byt s (Int.toNat i) : Nat) : Int) : Int) == 240) 144 128) (cond ((IntKind.i64.wrap ((byt s (Int.toNat i) : Nat) : Int) : Int) == 244) 143 191) : Int) < 0)) true (decide ((moreI s (i + 2) 128 191 : Int) < 0))) true (decide ((moreI s (i + 3) 128 191 : Int) < 0))) (DPoint.mk 65533 1) (DPoint.mk ((((((IntKind.i64.wrap ((byt s (Int.toNat i) : Nat) : Int)) - 240) * 262144) + ((moreI s (i + 1) (cond ((IntKind.i64.wrap ((byt s (Int.toNat i) : Nat) : Int) : Int) == 240) 144 128) (cond ((IntKind.i64.wrap ((byt s (Int.toNat i) : Nat) : Int) : Int) == 244) 143 191)) * 4096)) + ((moreI s (i + 2) 128 191) * 64)) + (moreI s (i + 3) 128 191)) 4)
theorem fourP_to (s : ByteArray) (i : Int) (hs : s.size ≤ 1073741824) (h0 : 0 ≤ i) (h1 : i < s.size) : CallTo Tryz.prog 95 [(jS s), (jI i)] [] [] (.av (cPoint (fourP s i))) [] [] := by
 refine BEG (fun r : DPoint => (.av (cPoint r))) (fourP s i) Tryz.func95 (by kernel_rfl) ?_
 refine UF (fourP.eq_1 ..) ?_
 have := wrap_byt s (Int.toNat i)
 have := byt_lt s (Int.toNat i)
 have := cond_or ((IntKind.i64.wrap ((byt s (Int.toNat i) : Nat) : Int) : Int) == 240) 144 128
 have := cond_or ((IntKind.i64.wrap ((byt s (Int.toNat i) : Nat) : Int) : Int) == 244) 143 191
 have := moreI_bd s (i + 1) (cond ((IntKind.i64.wrap ((byt s (Int.toNat i) : Nat) : Int) : Int) == 240) 144 128) (cond ((IntKind.i64.wrap ((byt s (Int.toNat i) : Nat) : Int) : Int) == 244) 143 191)
 have := moreI_bd s (i + 2) 128 191
 have := moreI_bd s (i + 3) 128 191
 refine GO (tn 3 (kp (ib s i (by omega)) (tn 6 (ks ((IntKind.i64.wrap ((byt s (Int.toNat i) : Nat) : Int) : Int) == 240) [6] (tn 1 z) z (tn 2 (ks ((IntKind.i64.wrap ((byt s (Int.toNat i) : Nat) : Int) : Int) == 244) [7] (tn 1 z) z (tn 2 (kn (wrE (i + 1) (i + 1) (by omega)) (tn 2 (kc (moreI_to s (i + 1) (cond ((IntKind.i64.wrap ((byt s (Int.toNat i) : Nat) : Int) : Int) == 240) 144 128) (cond ((IntKind.i64.wrap ((byt s (Int.toNat i) : Nat) : Int) : Int) == 244) 143 191) (by omega) (by omega)) (tn 3 (kn (wrE (i + 2) (i + 2) (by omega)) (kc (moreI_to s (i + 2) 128 191 (by omega) (by omega)) (tn 3 (kn (wrE (i + 3) (i + 3) (by omega)) (kc (moreI_to s (i + 3) 128 191 (by omega) (by omega)) (tn 4 (kj (decide ((moreI s (i + 1) (cond ((IntKind.i64.wrap ((byt s (Int.toNat i) : Nat) : Int) : Int) == 240) 144 128) (cond ((IntKind.i64.wrap ((byt s (Int.toNat i) : Nat) : Int) : Int) == 244) 143 191) : Int) < 0)) z (tn 2 z) (tn 1 (kj (cond (decide ((moreI s (i + 1) (cond ((IntKind.i64.wrap ((byt s (Int.toNat i) : Nat) : Int) : Int) == 240) 144 128) (cond ((IntKind.i64.wrap ((byt s (Int.toNat i) : Nat) : Int) : Int) == 244) 143 191) : Int) < 0)) true (decide ((moreI s (i + 2) 128 191 : Int) < 0))) z (tn 2 z) z)))))))))))))))))))) (by kernel_rfl) ?_
 refine CS (fun h1 => ?_) (fun h1 => ?_)
 ·refine GO (kb h1 (tn 2 z)) (by kernel_rfl) ?_
  exact EN (by kernel_rfl)
 ·obtain ⟨h1a, h1o⟩ := cond_tt h1
  obtain ⟨h1aa, h1ao⟩ := cond_tt h1a
  have h1aap := of_decide_eq_false h1aa
  have h1aop := of_decide_eq_false h1ao
  have h1op := of_decide_eq_false h1o
  refine GO (kb h1 (tn 1 (kn (wrE ((IntKind.i64.wrap ((byt s (Int.toNat i) : Nat) : Int)) - 240) ((IntKind.i64.wrap ((byt s (Int.toNat i) : Nat) : Int)) - 240) (by omega)) (kn (wrE (((IntKind.i64.wrap ((byt s (Int.toNat i) : Nat) : Int)) - 240) * 262144) (((IntKind.i64.wrap ((byt s (Int.toNat i) : Nat) : Int)) - 240) * 262144) (by omega)) (tn 1 (kn (wrE ((moreI s (i + 1) (cond ((IntKind.i64.wrap ((byt s (Int.toNat i) : Nat) : Int) : Int) == 240) 144 128) (cond ((IntKind.i64.wrap ((byt s (Int.toNat i) : Nat) : Int) : Int) == 244) 143 191)) * 4096) ((moreI s (i + 1) (cond ((IntKind.i64.wrap ((byt s (Int.toNat i) : Nat) : Int) : Int) == 240) 144 128) (cond ((IntKind.i64.wrap ((byt s (Int.toNat i) : Nat) : Int) : Int) == 244) 143 191)) * 4096) (by omega)) (kn (wrE ((((IntKind.i64.wrap ((byt s (Int.toNat i) : Nat) : Int)) - 240) * 262144) + ((moreI s (i + 1) (cond ((IntKind.i64.wrap ((byt s (Int.toNat i) : Nat) : Int) : Int) == 240) 144 128) (cond ((IntKind.i64.wrap ((byt s (Int.toNat i) : Nat) : Int) : Int) == 244) 143 191)) * 4096)) ((((IntKind.i64.wrap ((byt s (Int.toNat i) : Nat) : Int)) - 240) * 262144) + ((moreI s (i + 1) (cond ((IntKind.i64.wrap ((byt s (Int.toNat i) : Nat) : Int) : Int) == 240) 144 128) (cond ((IntKind.i64.wrap ((byt s (Int.toNat i) : Nat) : Int) : Int) == 244) 143 191)) * 4096)) (by omega)) (tn 1 (kn (wrE ((moreI s (i + 2) 128 191) * 64) ((moreI s (i + 2) 128 191) * 64) (by omega)) (kn (wrE (((((IntKind.i64.wrap ((byt s (Int.toNat i) : Nat) : Int)) - 240) * 262144) + ((moreI s (i + 1) (cond ((IntKind.i64.wrap ((byt s (Int.toNat i) : Nat) : Int) : Int) == 240) 144 128) (cond ((IntKind.i64.wrap ((byt s (Int.toNat i) : Nat) : Int) : Int) == 244) 143 191)) * 4096)) + ((moreI s (i + 2) 128 191) * 64)) (((((IntKind.i64.wrap ((byt s (Int.toNat i) : Nat) : Int)) - 240) * 262144) + ((moreI s (i + 1) (cond ((IntKind.i64.wrap ((byt s (Int.toNat i) : Nat) : Int) : Int) == 240) 144 128) (cond ((IntKind.i64.wrap ((byt s (Int.toNat i) : Nat) : Int) : Int) == 244) 143 191)) * 4096)) + ((moreI s (i + 2) 128 191) * 64)) (by omega)) (tn 1 (kn (wrE ((((((IntKind.i64.wrap ((byt s (Int.toNat i) : Nat) : Int)) - 240) * 262144) + ((moreI s (i + 1) (cond ((IntKind.i64.wrap ((byt s (Int.toNat i) : Nat) : Int) : Int) == 240) 144 128) (cond ((IntKind.i64.wrap ((byt s (Int.toNat i) : Nat) : Int) : Int) == 244) 143 191)) * 4096)) + ((moreI s (i + 2) 128 191) * 64)) + (moreI s (i + 3) 128 191)) ((((((IntKind.i64.wrap ((byt s (Int.toNat i) : Nat) : Int)) - 240) * 262144) + ((moreI s (i + 1) (cond ((IntKind.i64.wrap ((byt s (Int.toNat i) : Nat) : Int) : Int) == 240) 144 128) (cond ((IntKind.i64.wrap ((byt s (Int.toNat i) : Nat) : Int) : Int) == 244) 143 191)) * 4096)) + ((moreI s (i + 2) 128 191) * 64)) + (moreI s (i + 3) 128 191)) (by omega)) (tn 2 z))))))))))))) (by kernel_rfl) ?_
  exact EN (by kernel_rfl)
def atP (s : ByteArray) (i : Int) : DPoint := cond (decide ((IntKind.i64.wrap ((byt s (Int.toNat i) : Nat) : Int) : Int) < 128)) (DPoint.mk (IntKind.i64.wrap ((byt s (Int.toNat i) : Nat) : Int)) 1) (cond (cond (decide ((IntKind.i64.wrap ((byt s (Int.toNat i) : Nat) : Int) : Int) ≥ 194)) (decide ((IntKind.i64.wrap ((byt s (Int.toNat i) : Nat) : Int) : Int) ≤ 223)) false) (cond (decide ((moreI s (i + 1) 128 191 : Int) ≥ 0)) (DPoint.mk ((((IntKind.i64.wrap ((byt s (Int.toNat i) : Nat) : Int)) - 192) * 64) + (moreI s (i + 1) 128 191)) 2) (DPoint.mk 65533 1)) (cond (cond (decide ((IntKind.i64.wrap ((byt s (Int.toNat i) : Nat) : Int) : Int) ≥ 224)) (decide ((IntKind.i64.wrap ((byt s (Int.toNat i) : Nat) : Int) : Int) ≤ 239)) false) (threeP s i) (cond (cond (decide ((IntKind.i64.wrap ((byt s (Int.toNat i) : Nat) : Int) : Int) ≥ 240)) (decide ((IntKind.i64.wrap ((byt s (Int.toNat i) : Nat) : Int) : Int) ≤ 244)) false) (fourP s i) (DPoint.mk 65533 1))))
theorem atP_to (s : ByteArray) (i : Int) (hs : s.size ≤ 1073741824) (h0 : 0 ≤ i) (h1 : i < s.size) : CallTo Tryz.prog 74 [(jS s), (jI i)] [] [] (.av (cPoint (atP s i))) [] [] := by
 refine BEG (fun r : DPoint => (.av (cPoint r))) (atP s i) Tryz.func74 (by kernel_rfl) ?_
 refine UF (atP.eq_1 ..) ?_
 have := wrap_byt s (Int.toNat i)
 have := byt_lt s (Int.toNat i)
 refine GO (tn 3 (kp (ib s i (by omega)) (tn 5 z))) (by kernel_rfl) ?_
 refine CSd (fun h1p h1 => ?_) (fun h1p h1 => ?_)
 ·refine GO (kb h1 (tn 3 z)) (by kernel_rfl) ?_
  exact EN (by kernel_rfl)
 ·refine GO (kb h1 (tn 3 (kj (decide ((IntKind.i64.wrap ((byt s (Int.toNat i) : Nat) : Int) : Int) ≥ 194)) (tn 2 z) z (tn 1 z)))) (by kernel_rfl) ?_
  refine CS (fun h2 => ?_) (fun h2 => ?_)
  ·obtain ⟨h2a, h2o⟩ := cond_ff h2
   have h2ap := of_decide_eq_true h2a
   have h2op := of_decide_eq_true h2o
   have := moreI_bd s (i + 1) 128 191
   refine GO (kb h2 (tn 2 (kn (wrE (i + 1) (i + 1) (by omega)) (kc (moreI_to s (i + 1) 128 191 (by omega) (by omega)) (tn 3 z))))) (by kernel_rfl) ?_
   refine CSd (fun h3p h3 => ?_) (fun h3p h3 => ?_)
   ·refine GO (kb h3 (tn 1 (kn (wrE ((IntKind.i64.wrap ((byt s (Int.toNat i) : Nat) : Int)) - 192) ((IntKind.i64.wrap ((byt s (Int.toNat i) : Nat) : Int)) - 192) (by omega)) (kn (wrE (((IntKind.i64.wrap ((byt s (Int.toNat i) : Nat) : Int)) - 192) * 64) (((IntKind.i64.wrap ((byt s (Int.toNat i) : Nat) : Int)) - 192) * 64) (by omega)) (tn 1 (kn (wrE ((((IntKind.i64.wrap ((byt s (Int.toNat i) : Nat) : Int)) - 192) * 64) + (moreI s (i + 1) 128 191)) ((((IntKind.i64.wrap ((byt s (Int.toNat i) : Nat) : Int)) - 192) * 64) + (moreI s (i + 1) 128 191)) (by omega)) (tn 2 z))))))) (by kernel_rfl) ?_
    exact EN (by kernel_rfl)
   ·refine GO (kb h3 (tn 2 z)) (by kernel_rfl) ?_
    exact EN (by kernel_rfl)
  ·refine GO (kb h2 (tn 3 (kj (decide ((IntKind.i64.wrap ((byt s (Int.toNat i) : Nat) : Int) : Int) ≥ 224)) (tn 2 z) z (tn 1 z)))) (by kernel_rfl) ?_
   refine CS (fun h4 => ?_) (fun h4 => ?_)
   ·obtain ⟨h4a, h4o⟩ := cond_ff h4
    have h4ap := of_decide_eq_true h4a
    have h4op := of_decide_eq_true h4o
    refine GO (kb h4 (tn 2 (kc (threeP_to s i (by omega) (by omega) (by omega)) (tn 1 z)))) (by kernel_rfl) ?_
    exact EN (by kernel_rfl)
   ·refine GO (kb h4 (tn 3 (kj (decide ((IntKind.i64.wrap ((byt s (Int.toNat i) : Nat) : Int) : Int) ≥ 240)) (tn 2 z) z (tn 1 z)))) (by kernel_rfl) ?_
    refine CS (fun h5 => ?_) (fun h5 => ?_)
    ·obtain ⟨h5a, h5o⟩ := cond_ff h5
     have h5ap := of_decide_eq_true h5a
     have h5op := of_decide_eq_true h5o
     refine GO (kb h5 (tn 2 (kc (fourP_to s i (by omega) (by omega) (by omega)) (tn 1 z)))) (by kernel_rfl) ?_
     exact EN (by kernel_rfl)
    ·refine GO (kb h5 (tn 2 z)) (by kernel_rfl) ?_
     exact EN (by kernel_rfl)
end Go.Proofs.YtdaglbjgdakmcaaGreat
namespace Go.Proofs.YtdaglbjgdakmcaaGreat
open Go Go.Eng
theorem threeP_bd (s : ByteArray) (i : Int) : 1 ≤ (threeP s i).fN ∧ (threeP s i).fN ≤ 4 ∧ -500000000 ≤ (threeP s i).fC ∧ (threeP s i).fC ≤ 500000000 := by
 have h1 := wrap_byt s i.toNat; have h2 := byt_lt s i.toNat
 have := moreI_bd s (i + 1) (bif IntKind.i64.wrap ((byt s i.toNat : Nat) : Int) == 224 then 160 else 128) (bif IntKind.i64.wrap ((byt s i.toNat : Nat) : Int) == 237 then 159 else 191)
 have := moreI_bd s (i + 2) 128 191
 unfold threeP; rw [Bool.cond_eq_ite]; split <;> simp only <;> omega
theorem fourP_bd (s : ByteArray) (i : Int) : 1 ≤ (fourP s i).fN ∧ (fourP s i).fN ≤ 4 ∧ -500000000 ≤ (fourP s i).fC ∧ (fourP s i).fC ≤ 500000000 := by
 have h1 := wrap_byt s i.toNat; have h2 := byt_lt s i.toNat
 have := moreI_bd s (i + 1) (bif IntKind.i64.wrap ((byt s i.toNat : Nat) : Int) == 240 then 144 else 128) (bif IntKind.i64.wrap ((byt s i.toNat : Nat) : Int) == 244 then 143 else 191)
 have := moreI_bd s (i + 2) 128 191
 have := moreI_bd s (i + 3) 128 191
 unfold fourP; rw [Bool.cond_eq_ite]; split <;> simp only <;> omega
theorem atP_bd (s : ByteArray) (i : Int) : 1 ≤ (atP s i).fN ∧ (atP s i).fN ≤ 4 ∧ -500000000 ≤ (atP s i).fC ∧ (atP s i).fC ≤ 500000000 := by
 have h1 := wrap_byt s i.toNat; have h2 := byt_lt s i.toNat
 have := moreI_bd s (i + 1) 128 191
 have := threeP_bd s i; have := fourP_bd s i
 unfold atP; simp only [Bool.cond_eq_ite]; repeat' split
 all_goals first | (simp only; omega) | omega
def nextP (s : ByteArray) (i : Int) : (Int × Int) := cond (cond (decide ((i : Int) < 0)) true (decide ((i : Int) ≥ ((ByteArray.size s : Nat) : Int)))) ((-1), 0) ((atP s i).fC, (atP s i).fN)
theorem nextP_to (s : ByteArray) (i : Int) (hs : s.size ≤ 1073741824) : CallTo Tryz.prog 104 [(jS s), (jI i)] [] [] (.av (.tup [(vI ((nextP s i).1)), (vI ((nextP s i).2))])) [] [] := by
 refine BEG (fun r : (Int × Int) => (.av (.tup [(vI r.1), (vI r.2)]))) (nextP s i) Tryz.func104 (by kernel_rfl) ?_
 refine UF (nextP.eq_1 ..) ?_
 refine GO (tn 5 (kj (decide ((i : Int) < 0)) z (tn 4 z) z)) (by kernel_rfl) ?_
 refine CS (fun h1 => ?_) (fun h1 => ?_)
 ·refine GO (kb h1 (tn 2 z)) (by kernel_rfl) ?_
  exact EN (by kernel_rfl)
 ·obtain ⟨h1a, h1o⟩ := cond_tt h1
  have h1ap := of_decide_eq_false h1a
  have h1op := of_decide_eq_false h1o
  have := atP_bd s i
  refine GO (kb h1 (tn 2 (kc (atP_to s i (by omega) (by omega) (by omega)) (tn 2 z)))) (by kernel_rfl) ?_
  refine DR3 (tn 6 z) (by kernel_rfl) (by kernel_rfl) (by kernel_rfl) ?_
  exact EN (by kernel_rfl)
theorem nextP_bd (s : ByteArray) (i : Int) : 0 ≤ (nextP s i).2 ∧ (nextP s i).2 ≤ 4 := by
 have := atP_bd s i
 unfold nextP; rw [Bool.cond_eq_ite]; split
 ·simp
 ·omega
def points_L0 (s : ByteArray) : Nat → (List DPoint) → Int → List DPoint
 | 0, _, _ => default
 | n0 + 1, v3, v4 => cond (decide ((v4 : Int) < ((ByteArray.size s : Nat) : Int))) (points_L0 s n0 (v3 ++ ([atP s v4])) (v4 + ((atP s v4).fN))) v3
def points (s : ByteArray) : List DPoint := points_L0 s ((s.size - Int.toNat 0) + 1) ([]) 0
theorem points_to (s : ByteArray) (hs : s.size ≤ 1073741824) : CallTo Tryz.prog 55 [(jS s)] [] [] (jL ((points s).map aPoint)) [] [] := by
 refine BEG (fun r : List DPoint => (jL (r.map aPoint))) (points s) Tryz.func55 (by kernel_rfl) ?_
 refine UF (points.eq_1 ..) ?_
 refine GO (tn 3 z) (by kernel_rfl) ?_
 refine LP (fun N M S => ∃ gv3 : Nat, ∃ v3 : List DPoint, ∃ v4 : Int, (0 ≤ v4) ∧ ((v3.length : Int) ≤ v4) ∧ (s.size - Int.toNat v4 < N) ∧ M = points_L0 s N v3 v4 ∧ S = (sx 22 [(0, (jS s)), (3, (.own (203, 102) gv3 2 (v3.map aPoint))), (4, (jI v4))] [] [((203, 102), gv3)])) (by kernel_rfl) ⟨0, _, _, by first | omega | assumption | (simp only [lenM_eq]; omega) | (simp; done) | (simp; omega), by first | omega | assumption | (simp only [lenM_eq]; omega) | (simp; done) | (simp; omega), by omega, rfl, rfl⟩ (WKf [(3, (.own (203, 102) 0 2 (([]).map aPoint)))] (ac (show ((([]).map aPoint) : List AV) = [] ∧ 0 < 102 ∧ (0 : Nat) = 0 from ⟨rfl, by decide, rfl⟩) an) (by kernel_rfl)) ?_
 rintro n0 M S ⟨gv3, v3, v4, hv, hl, hF0, rfl, rfl⟩
 obtain ⟨n0, rfl⟩ : ∃ k, n0 = k + 1 := ⟨n0 - 1, by omega⟩
 refine UF (points_L0.eq_2 ..) ?_
 refine GO (tn 4 z) (by kernel_rfl) ?_
 refine CSd (fun h1p h1 => ?_) (fun h1p h1 => ?_)
 ·have := atP_bd s v4
  refine GO (kb h1 (tn 2 (kc (atP_to s v4 (by omega) (by omega) (by omega)) (tn 4 (kp (show Uni 2 [(cPoint (atP s v4))] from (uni_one rfl rfl)) (kp (show (gv3 : Nat) = gv3 ∧ Uni 2 [(cPoint (atP s v4))] ∧ (((v3.map aPoint) : List AV).length + ([(cPoint (atP s v4))] : List AV).length) * 16 ≤ 140737488355328 from ⟨rfl, uni_one rfl rfl, by first | omega | (simp; done) | (simp; omega)⟩) (kw (ap1 aPoint v3 (atP s v4)) (tn 4 (kn (wrE (v4 + ((atP s v4).fN)) (v4 + ((atP s v4).fN)) (by omega)) (tn 1 z)))))))))) (by kernel_rfl) ?_
  exact AG ⟨gv3 + 1, _, _, by first | omega | assumption | (simp only [lenM_eq]; omega) | (simp; done) | (simp; omega), by first | omega | assumption | (simp only [lenM_eq]; omega) | (simp; done) | (simp; omega), by omega, rfl, rfl⟩ (WK (by kernel_rfl)) (by kernel_rfl) (Nat.lt_succ_self _)
 ·refine GO (kb h1 z) (by kernel_rfl) ?_
  refine OUT (tn 2 z) (by kernel_rfl) ?_
  exact EN (by kernel_rfl)
end Go.Proofs.YtdaglbjgdakmcaaGreat
namespace Go.Proofs.YtdaglbjgdakmcaaGreat
open Go Go.Eng
theorem points_L0_len (s : ByteArray) : ∀ (n : Nat) (acc : List DPoint) (i : Int), (acc.length : Int) ≤ i → i ≤ s.size + 4 → ((points_L0 s n acc i).length : Int) ≤ s.size + 4
 | 0, acc, i, _, _ => by simp only [points_L0]; show ((([] : List DPoint).length : Nat) : Int) ≤ _; simp; omega
 | n + 1, acc, i, h1, h2 => by
  have hb := atP_bd s i
  rw [points_L0, Bool.cond_eq_ite]; split
  ·rename_i h; simp only [decide_eq_true_eq] at h; exact points_L0_len s n _ _ (by simp; omega) (by omega)
  ·omega
theorem points_L0_bd (s : ByteArray) : ∀ (n : Nat) (acc : List DPoint) (i : Int), (∀ p ∈ acc, -500000000 ≤ p.fC ∧ p.fC ≤ 500000000) → ∀ p ∈ points_L0 s n acc i, -500000000 ≤ p.fC ∧ p.fC ≤ 500000000
 | 0, acc, i, h => by intro p hp; simp only [points_L0] at hp; exact absurd hp List.not_mem_nil
 | n + 1, acc, i, h => by
  have hb := atP_bd s i
  rw [points_L0, Bool.cond_eq_ite]; split
  ·refine points_L0_bd s n _ _ (fun p hp => ?_)
   simp only [List.mem_append, List.mem_singleton] at hp
   rcases hp with hp | rfl
   ·exact h p hp
   ·omega
  ·exact h
theorem points_bd (s : ByteArray) : ∀ p ∈ points s, -500000000 ≤ p.fC ∧ p.fC ≤ 500000000 := points_L0_bd s _ [] 0 (by simp)
theorem points_len2 (s : ByteArray) : (points s).length ≤ s.size + 4 := by
 have := points_L0_len s ((s.size - Int.toNat 0) + 1) [] 0 (by simp) (by omega)
 unfold points; omega
theorem points_len (s : ByteArray) (hs : s.size ≤ 1073741824) : (points s).length ≤ 1073741828 := by
 have := points_L0_len s ((s.size - Int.toNat 0) + 1) [] 0 (by simp) (by omega)
 unfold points; omega
def validB_L0 (s : ByteArray) : Nat → Nat → Bool
 | 0, _ => default
 | n0 + 1, v8 => cond (decide (((v8 : Nat) : Int) < ((lenM aPoint (points s) : Nat) : Int))) (cond (cond (!cleanB ((el (points s) v8).fC)) true (cond (((el (points s) v8).fC : Int) == 65533) (((el (points s) v8).fN : Int) == 1) false)) false (validB_L0 s n0 (v8 + 1))) true
def validB (s : ByteArray) : Bool := validB_L0 s ((List.length (points s) - 0) + 1) 0
theorem validB_to (s : ByteArray) (hs : s.size ≤ 1073741824) : CallTo Tryz.prog 36 [(jS s)] [] [] (jB (validB s)) [] [] := by
 have hpl := points_len s hs
 refine BEG (fun r : Bool => (jB r)) (validB s) Tryz.func36 (by kernel_rfl) ?_
 refine UF (validB.eq_1 ..) ?_
 refine GO (tn 2 (kc (points_to s (by omega)) (tn 2 z))) (by kernel_rfl) ?_
 refine LP (fun N M S => ∃ v8 : Nat, (List.length (points s) - v8 < N) ∧ M = validB_L0 s N v8 ∧ S = (sx 27 [(6, (jL ((points s).map aPoint))), (7, (jI ((lenM aPoint (points s) : Nat) : Int))), (8, (jI ((v8 : Nat) : Int)))] [] [])) (by kernel_rfl) ⟨_, by omega, rfl, rfl⟩ (WK (by kernel_rfl)) ?_
 rintro n0 M S ⟨v8, hF0, rfl, rfl⟩
 obtain ⟨n0, rfl⟩ : ∃ k, n0 = k + 1 := ⟨n0 - 1, by omega⟩
 refine UF (validB_L0.eq_2 ..) ?_
 refine GO (tn 1 z) (by kernel_rfl) ?_
 refine CSd (fun h1p h1 => ?_) (fun h1p h1 => ?_)
 ·have := lenM_eq aPoint (points s)
  refine GO (kb h1 (ke (el_aPoint (points s) v8 (by omega)) (tn 5 (kc (cleanB_to ((el (points s) v8).fC)) (tn 2 (kj (!cleanB ((el (points s) v8).fC)) z (tn 4 (kj (((el (points s) v8).fC : Int) == 65533) (tn 3 z) z z)) z)))))) (by kernel_rfl) ?_
  refine CS (fun h2 => ?_) (fun h2 => ?_)
  ·refine GO (kb h2 (tn 1 z)) (by kernel_rfl) ?_
   refine OUT z (by kernel_rfl) ?_
   exact EN (by kernel_rfl)
  ·obtain ⟨h2a, h2o⟩ := cond_tt h2
   have h2an := notf h2a
   refine GO (kb h2 (kn (wrE (((v8 : Nat) : Int) + 1) ((v8 + 1 : Nat) : Int) (by omega)) (tn 1 z))) (by kernel_rfl) ?_
   exact AG ⟨_, by omega, rfl, rfl⟩ (WK (by kernel_rfl)) (by kernel_rfl) (Nat.lt_succ_self _)
 ·have := lenM_eq aPoint (points s)
  refine GO (kb h1 z) (by kernel_rfl) ?_
  refine OUT (tn 1 z) (by kernel_rfl) ?_
  exact EN (by kernel_rfl)
end Go.Proofs.YtdaglbjgdakmcaaGreat
namespace Go.Proofs.YtdaglbjgdakmcaaGreat
open Go Go.Eng
def bwt (c : Int) : Nat := if c = 65533 then 0 else 1
def bytesPS (rec : Int → List Int) (c : Int) : List Int := cond (cond (cond (decide ((c : Int) < 0)) true (decide ((c : Int) > 1114111))) true (cond (decide ((c : Int) ≥ 55296)) (decide ((c : Int) ≤ 57343)) false)) (rec 65533) (cond (decide ((c : Int) < 128)) ([IntKind.u8.wrap c]) (cond (decide ((c : Int) < 2048)) ([IntKind.u8.wrap (192 + (quo .i64 c 64)), IntKind.u8.wrap (128 + (Int.tmod c 64))]) (cond (decide ((c : Int) < 65536)) ([IntKind.u8.wrap (224 + (quo .i64 c 4096)), IntKind.u8.wrap (128 + (Int.tmod (quo .i64 c 64) 64)), IntKind.u8.wrap (128 + (Int.tmod c 64))]) ([IntKind.u8.wrap (240 + (quo .i64 c 262144)), IntKind.u8.wrap (128 + (Int.tmod (quo .i64 c 4096) 64)), IntKind.u8.wrap (128 + (Int.tmod (quo .i64 c 64) 64)), IntKind.u8.wrap (128 + (Int.tmod c 64))]))))
theorem bytesP_st (rec : Int → List Int) (c : Int) (hc : -1073741824 ≤ c) (hc2 : c ≤ 1073741824) (hrec : ∀ (c' : Int), bwt c' < bwt c → -1073741824 ≤ c' → c' ≤ 1073741824 → CallTo Tryz.prog 122 [(jI c')] [] [] (jL ((rec c').map vU)) [] []) : CallTo Tryz.prog 122 [(jI c)] [] [] (jL ((bytesPS rec c).map vU)) [] [] := by
 refine BEG (fun r : List Int => (jL (r.map vU))) (bytesPS rec c) Tryz.func122 (by kernel_rfl) ?_
 refine UF (bytesPS.eq_1 ..) ?_
 refine GO (tn 4 (kj (decide ((c : Int) < 0)) z (tn 2 z) (tn 1 (kj (cond (decide ((c : Int) < 0)) true (decide ((c : Int) > 1114111))) z (tn 3 (kj (decide ((c : Int) ≥ 55296)) (tn 2 z) z z)) (tn 1 z))))) (by kernel_rfl) ?_
 refine CS (fun h1 => ?_) (fun h1 => ?_)
 ·refine GO (kb h1 (kc (hrec 65533 (by by_cases h65 : c = 65533; (subst h65; simp at *); (simp [bwt, h65])) (by omega) (by omega)) (tn 1 z))) (by kernel_rfl) ?_
  exact EN (by kernel_rfl)
 ·obtain ⟨h1a, h1o⟩ := cond_tt h1
  obtain ⟨h1aa, h1ao⟩ := cond_tt h1a
  have h1aap := of_decide_eq_false h1aa
  have h1aop := of_decide_eq_false h1ao
  refine GO (kb h1 (tn 3 z)) (by kernel_rfl) ?_
  refine CSd (fun h2p h2 => ?_) (fun h2p h2 => ?_)
  ·refine GO (kb h2 (tn 2 (kp (show Uni 1 [(.val (.int .u8 (IntKind.u8.wrap c)))] from (uni_one rfl rfl)) (tn 1 z)))) (by kernel_rfl) ?_
   exact EN (by kernel_rfl)
  ·refine GO (kb h2 (tn 3 z)) (by kernel_rfl) ?_
   refine CSd (fun h3p h3 => ?_) (fun h3p h3 => ?_)
   ·have := quo_eq c 64 (by decide) (by decide)
    have := tmod_eq c 64 (by decide) (by decide)
    refine GO (kb h3 (tn 1 (kp (show (64 : Int) ≠ 0 from (by decide)) (kn (wrE (192 + (quo .i64 c 64)) (192 + (quo .i64 c 64)) (by omega)) (tn 2 (kp (show (64 : Int) ≠ 0 from (by decide)) (kn (wrE (128 + (Int.tmod c 64)) (128 + (Int.tmod c 64)) (by omega)) (tn 1 (kp (show Uni 1 [(.val (.int .u8 (IntKind.u8.wrap (192 + (quo .i64 c 64))))), (.val (.int .u8 (IntKind.u8.wrap (128 + (Int.tmod c 64)))))] from (by simp [Uni, AV.cells, AV.isTup])) (tn 1 z)))))))))) (by kernel_rfl) ?_
    exact EN (by kernel_rfl)
   ·refine GO (kb h3 (tn 3 z)) (by kernel_rfl) ?_
    refine CSd (fun h4p h4 => ?_) (fun h4p h4 => ?_)
    ·have := quo_eq c 4096 (by decide) (by decide)
     have := quo_eq c 64 (by decide) (by decide)
     have := tmod_eq (quo .i64 c 64) 64 (by decide) (by decide)
     have := tmod_eq c 64 (by decide) (by decide)
     refine GO (kb h4 (tn 1 (kp (show (4096 : Int) ≠ 0 from (by decide)) (kn (wrE (224 + (quo .i64 c 4096)) (224 + (quo .i64 c 4096)) (by omega)) (tn 2 (kp (show (64 : Int) ≠ 0 from (by decide)) (kp (show (64 : Int) ≠ 0 from (by decide)) (kn (wrE (128 + (Int.tmod (quo .i64 c 64) 64)) (128 + (Int.tmod (quo .i64 c 64) 64)) (by omega)) (tn 2 (kp (show (64 : Int) ≠ 0 from (by decide)) (kn (wrE (128 + (Int.tmod c 64)) (128 + (Int.tmod c 64)) (by omega)) (tn 1 (kp (show Uni 1 [(.val (.int .u8 (IntKind.u8.wrap (224 + (quo .i64 c 4096))))), (.val (.int .u8 (IntKind.u8.wrap (128 + (Int.tmod (quo .i64 c 64) 64))))), (.val (.int .u8 (IntKind.u8.wrap (128 + (Int.tmod c 64)))))] from (by simp [Uni, AV.cells, AV.isTup])) (tn 1 z)))))))))))))) (by kernel_rfl) ?_
     exact EN (by kernel_rfl)
    ·have := quo_eq c 262144 (by decide) (by decide)
     have := quo_eq c 4096 (by decide) (by decide)
     have := tmod_eq (quo .i64 c 4096) 64 (by decide) (by decide)
     have := quo_eq c 64 (by decide) (by decide)
     have := tmod_eq (quo .i64 c 64) 64 (by decide) (by decide)
     have := tmod_eq c 64 (by decide) (by decide)
     refine GO (kb h4 (tn 1 (kp (show (262144 : Int) ≠ 0 from (by decide)) (kn (wrE (240 + (quo .i64 c 262144)) (240 + (quo .i64 c 262144)) (by omega)) (tn 2 (kp (show (4096 : Int) ≠ 0 from (by decide)) (kp (show (64 : Int) ≠ 0 from (by decide)) (kn (wrE (128 + (Int.tmod (quo .i64 c 4096) 64)) (128 + (Int.tmod (quo .i64 c 4096) 64)) (by omega)) (tn 2 (kp (show (64 : Int) ≠ 0 from (by decide)) (kp (show (64 : Int) ≠ 0 from (by decide)) (kn (wrE (128 + (Int.tmod (quo .i64 c 64) 64)) (128 + (Int.tmod (quo .i64 c 64) 64)) (by omega)) (tn 2 (kp (show (64 : Int) ≠ 0 from (by decide)) (kn (wrE (128 + (Int.tmod c 64)) (128 + (Int.tmod c 64)) (by omega)) (tn 1 (kp (show Uni 1 [(.val (.int .u8 (IntKind.u8.wrap (240 + (quo .i64 c 262144))))), (.val (.int .u8 (IntKind.u8.wrap (128 + (Int.tmod (quo .i64 c 4096) 64))))), (.val (.int .u8 (IntKind.u8.wrap (128 + (Int.tmod (quo .i64 c 64) 64))))), (.val (.int .u8 (IntKind.u8.wrap (128 + (Int.tmod c 64)))))] from (by simp [Uni, AV.cells, AV.isTup])) (tn 1 z)))))))))))))))))) (by kernel_rfl) ?_
     exact EN (by kernel_rfl)
def bytesPN : Nat → Int → List Int
 | 0, _ => default
 | n + 1, c => bytesPS (bytesPN n) c
theorem bytesPN_to : ∀ (n : Nat) (c : Int), bwt c < n → -1073741824 ≤ c → c ≤ 1073741824 → CallTo Tryz.prog 122 [(jI c)] [] [] (jL ((bytesPN n c).map vU)) [] []
 | 0, c, h0, _, _ => absurd h0 (Nat.not_lt_zero _)
 | n + 1, c, h0, hc, hc2 => by
  exact bytesP_st (bytesPN n) c hc hc2 (fun c' q1 hc' hc2' => bytesPN_to n c' (by omega) hc' hc2')
def bytesP (c : Int) : List Int := bytesPN (bwt c + 1) c
theorem bytesP_to (c : Int) (hc : -1073741824 ≤ c) (hc2 : c ≤ 1073741824) : CallTo Tryz.prog 122 [(jI c)] [] [] (jL ((bytesP c).map vU)) [] [] := bytesPN_to _ c (Nat.lt_succ_self _) hc hc2
theorem bytesPS_len (r : Int → List Int) (c : Int) (h : (r 65533).length ≤ 4) : (bytesPS r c).length ≤ 4 := by
 unfold bytesPS; simp only [Bool.cond_eq_ite]; repeat' split
 all_goals first | exact h | simp
theorem bytesPN_len : ∀ (n : Nat) (c : Int), (bytesPN n c).length ≤ 4
 | 0, c => by simp only [bytesPN]; show ([] : List Int).length ≤ 4; simp
 | n + 1, c => by rw [bytesPN]; exact bytesPS_len _ c (bytesPN_len n 65533)
theorem bytesP_len (c : Int) : (bytesP c).length ≤ 4 := bytesPN_len _ c
def textP_L0 (l : List Int) : Nat → (List Int) → Nat → ByteArray
 | 0, _, _ => default
 | n0 + 1, v3, v8 => cond (decide (((v8 : Nat) : Int) < ((lenM vI l : Nat) : Int))) (textP_L0 l n0 (v3 ++ (bytesP (el l v8))) (v8 + 1)) (bytesOf (v3.map vU))
def textP (l : List Int) : ByteArray := textP_L0 l ((List.length l - 0) + 1) ([]) 0
theorem textP_to (l : List Int) (hl : l.length ≤ 1073741824) (hc : ∀ x ∈ l, -1073741824 ≤ x ∧ x ≤ 1073741824) : CallTo Tryz.prog 118 [(jL (l.map vI))] [] [] (jS (textP l)) [] [] := by
 refine BEG (fun r : ByteArray => (jS r)) (textP l) Tryz.func118 (by kernel_rfl) ?_
 refine UF (textP.eq_1 ..) ?_
 refine GO (tn 5 z) (by kernel_rfl) ?_
 refine LP (fun N M S => ∃ gv3 : Nat, ∃ v3 : List Int, ∃ v8 : Nat, (v3.length ≤ 4 * v8) ∧ (List.length l - v8 < N) ∧ M = textP_L0 l N v3 v8 ∧ S = (sx 19 [(3, (.own (203, 6) gv3 1 (v3.map vU))), (6, (jL (l.map vI))), (7, (jI ((lenM vI l : Nat) : Int))), (8, (jI ((v8 : Nat) : Int)))] [] [((203, 6), gv3)])) (by kernel_rfl) ⟨0, _, _, by first | omega | assumption | (simp only [lenM_eq]; omega) | (simp; done) | (simp; omega), by omega, rfl, rfl⟩ (WKf [(3, (.own (203, 6) 0 1 (([]).map vU)))] (ac (show ((([]).map vU) : List AV) = [] ∧ 0 < 6 ∧ (0 : Nat) = 0 from ⟨rfl, by decide, rfl⟩) an) (by kernel_rfl)) ?_
 rintro n0 M S ⟨gv3, v3, v8, hv, hF0, rfl, rfl⟩
 obtain ⟨n0, rfl⟩ : ∃ k, n0 = k + 1 := ⟨n0 - 1, by omega⟩
 refine UF (textP_L0.eq_2 ..) ?_
 refine GO (tn 1 z) (by kernel_rfl) ?_
 refine CSd (fun h1p h1 => ?_) (fun h1p h1 => ?_)
 ·have := lenM_eq vI l
  have hce := hc _ (el_mem (l := l) (i := v8) (by omega))
  have := bytesP_len (el l v8)
  refine GO (kb h1 (ke (el_vI l v8 (by omega)) (tn 4 (kc (show CallTo Tryz.prog 122 [(jI (el l v8))] [] [] (jL ((bytesP (el l v8)).map vU)) [] [] from (bytesP_to (el l v8) (by omega) (by omega))) (kp (show (gv3 : Nat) = gv3 ∧ Uni 1 ((bytesP (el l v8)).map vU) ∧ (((v3.map vU) : List AV).length + (((bytesP (el l v8)).map vU) : List AV).length) * 1 ≤ 140737488355328 from ⟨rfl, uni_vU _, by first | omega | (simp; done) | (simp; omega)⟩) (kw (apL vU v3 (bytesP (el l v8))) (tn 1 (kn (wrE (((v8 : Nat) : Int) + 1) ((v8 + 1 : Nat) : Int) (by omega)) (tn 1 z))))))))) (by kernel_rfl) ?_
  exact AG ⟨gv3 + 1, _, _, by first | omega | assumption | (simp only [lenM_eq]; omega) | (simp; done) | (simp; omega), by omega, rfl, rfl⟩ (WK (by kernel_rfl)) (by kernel_rfl) (Nat.lt_succ_self _)
 ·have := lenM_eq vI l
  refine GO (kb h1 z) (by kernel_rfl) ?_
  refine OUT (tn 1 (kp (show List.all ((v3.map vU) : List AV) AV.isByte = true from (by simp [List.all_map, AV.isByte, vU])) (tn 1 z))) (by kernel_rfl) ?_
  exact EN (by kernel_rfl)
end Go.Proofs.YtdaglbjgdakmcaaGreat
namespace Go.Proofs.YtdaglbjgdakmcaaGreat
open Go Go.Eng
theorem lowI_bd (c : Int) : c ≤ lowI c ∧ lowI c ≤ c + 80 := by
 unfold lowI; simp only [Bool.cond_eq_ite]; repeat' split
 all_goals omega
def foldP_L0 (s : ByteArray) : Nat → (List Int) → Bool → Nat → ByteArray
 | 0, _, _, _ => default
 | n0 + 1, v3, v4, v10 => cond (decide (((v10 : Nat) : Int) < ((lenM aPoint (points s) : Nat) : Int))) (cond (spB ((el (points s) v10).fC)) (foldP_L0 s n0 v3 true (v10 + 1)) (cond (cond v4 (decide (((lenM vI v3 : Nat) : Int) > 0)) false) (foldP_L0 s n0 ((v3 ++ ([32])) ++ ([lowI ((el (points s) v10).fC)])) false (v10 + 1)) (foldP_L0 s n0 (v3 ++ ([lowI ((el (points s) v10).fC)])) false (v10 + 1)))) (textP v3)
def foldP (s : ByteArray) : ByteArray := foldP_L0 s ((List.length (points s) - 0) + 1) ([]) false 0
theorem foldP_to (s : ByteArray) (hs : s.size ≤ 1000) : CallTo Tryz.prog 103 [(jS s)] [] [] (jS (foldP s)) [] [] := by
 have hpl := points_len2 s
 have hpb := points_bd s
 refine BEG (fun r : ByteArray => (jS r)) (foldP s) Tryz.func103 (by kernel_rfl) ?_
 refine UF (foldP.eq_1 ..) ?_
 refine GO (tn 4 (kc (points_to s (by omega)) (tn 2 z))) (by kernel_rfl) ?_
 refine LP (fun N M S => ∃ gv3 : Nat, ∃ v3 : List Int, ∃ v4 : Bool, ∃ v10 : Nat, (v3.length ≤ 2 * v10) ∧ (v10 ≤ (points s).length) ∧ (∀ x ∈ v3, -1073741824 ≤ x ∧ x ≤ 1073741824) ∧ (List.length (points s) - v10 < N) ∧ M = foldP_L0 s N v3 v4 v10 ∧ S = (sx 35 [(3, (.own (203, 4) gv3 1 (v3.map vI))), (4, (jB v4)), (8, (jL ((points s).map aPoint))), (9, (jI ((lenM aPoint (points s) : Nat) : Int))), (10, (jI ((v10 : Nat) : Int)))] [] [((203, 4), gv3)])) (by kernel_rfl) ⟨0, _, _, _, by first | omega | assumption | (simp only [lenM_eq]; omega) | (simp; done) | (simp; omega), by first | omega | assumption | (simp only [lenM_eq]; omega) | (simp; done) | (simp; omega), by simp, by omega, rfl, rfl⟩ (WKf [(3, (.own (203, 4) 0 1 (([]).map vI)))] (ac (show ((([]).map vI) : List AV) = [] ∧ 0 < 4 ∧ (0 : Nat) = 0 from ⟨rfl, by decide, rfl⟩) an) (by kernel_rfl)) ?_
 rintro n0 M S ⟨gv3, v3, v4, v10, hv, hi, hq, hF0, rfl, rfl⟩
 obtain ⟨n0, rfl⟩ : ∃ k, n0 = k + 1 := ⟨n0 - 1, by omega⟩
 refine UF (foldP_L0.eq_2 ..) ?_
 refine GO (tn 1 z) (by kernel_rfl) ?_
 refine CSd (fun h1p h1 => ?_) (fun h1p h1 => ?_)
 ·have := lenM_eq aPoint (points s)
  have hce := hpb _ (el_mem (l := points s) (i := v10) (by omega))
  refine GO (kb h1 (ke (el_aPoint (points s) v10 (by omega)) (tn 5 (kc (spB_to ((el (points s) v10).fC)) z)))) (by kernel_rfl) ?_
  refine CS (fun h2 => ?_) (fun h2 => ?_)
  ·refine GO (kb h2 (tn 1 (kn (wrE (((v10 : Nat) : Int) + 1) ((v10 + 1 : Nat) : Int) (by omega)) (tn 1 z)))) (by kernel_rfl) ?_
   exact AG ⟨gv3, _, _, _, by first | omega | assumption | (simp only [lenM_eq]; omega) | (simp; done) | (simp; omega), by first | omega | assumption | (simp only [lenM_eq]; omega) | (simp; done) | (simp; omega), by first | assumption | (intro x hx; simp at hx; rcases hx with hx | hx <;> first | exact hq x hx | (subst hx; omega)) | (intro x hx; simp at hx; rcases hx with hx | hx | hx <;> first | exact hq x hx | (subst hx; omega)), by omega, rfl, rfl⟩ (WK (by kernel_rfl)) (by kernel_rfl) (Nat.lt_succ_self _)
  ·refine GO (kb h2 (tn 2 (kj v4 (tn 3 z) z z))) (by kernel_rfl) ?_
   refine CS (fun h3 => ?_) (fun h3 => ?_)
   ·have := lenM_eq vI v3
    obtain ⟨h3a, h3o⟩ := cond_ff h3
    have := lenM_eq vI v3
    have h3op := of_decide_eq_true h3o
    have := lowI_bd ((el (points s) v10).fC)
    refine GO (kb h3 (tn 1 (kp (show Uni 1 [(vI 32)] from (uni_one rfl rfl)) (kp (show (gv3 : Nat) = gv3 ∧ Uni 1 [(vI 32)] ∧ (((v3.map vI) : List AV).length + ([(vI 32)] : List AV).length) * 8 ≤ 140737488355328 from ⟨rfl, uni_one rfl rfl, by first | omega | (simp; done) | (simp; omega)⟩) (kw (ap1 vI v3 32) (tn 5 (kc (lowI_to ((el (points s) v10).fC) (by omega) (by omega)) (kp (show Uni 1 [(vI (lowI ((el (points s) v10).fC)))] from (uni_one rfl rfl)) (kp (show (gv3 + 1 : Nat) = gv3 + 1 ∧ Uni 1 [(vI (lowI ((el (points s) v10).fC)))] ∧ ((((v3 ++ ([32])).map vI) : List AV).length + ([(vI (lowI ((el (points s) v10).fC)))] : List AV).length) * 8 ≤ 140737488355328 from ⟨rfl, uni_one rfl rfl, by first | omega | (simp; done) | (simp; omega)⟩) (kw (ap1 vI (v3 ++ ([32])) (lowI ((el (points s) v10).fC))) (tn 1 (kn (wrE (((v10 : Nat) : Int) + 1) ((v10 + 1 : Nat) : Int) (by omega)) (tn 1 z))))))))))))) (by kernel_rfl) ?_
    exact AG ⟨gv3 + 1 + 1, _, _, _, by first | omega | assumption | (simp only [lenM_eq]; omega) | (simp; done) | (simp; omega), by first | omega | assumption | (simp only [lenM_eq]; omega) | (simp; done) | (simp; omega), by first | assumption | (intro x hx; simp at hx; rcases hx with hx | hx <;> first | exact hq x hx | (subst hx; omega)) | (intro x hx; simp at hx; rcases hx with hx | hx | hx <;> first | exact hq x hx | (subst hx; omega)), by omega, rfl, rfl⟩ (WK (by kernel_rfl)) (by kernel_rfl) (Nat.lt_succ_self _)
   ·have := lenM_eq vI v3
    have := lowI_bd ((el (points s) v10).fC)
    refine GO (kb h3 (tn 4 (kc (lowI_to ((el (points s) v10).fC) (by omega) (by omega)) (kp (show Uni 1 [(vI (lowI ((el (points s) v10).fC)))] from (uni_one rfl rfl)) (kp (show (gv3 : Nat) = gv3 ∧ Uni 1 [(vI (lowI ((el (points s) v10).fC)))] ∧ (((v3.map vI) : List AV).length + ([(vI (lowI ((el (points s) v10).fC)))] : List AV).length) * 8 ≤ 140737488355328 from ⟨rfl, uni_one rfl rfl, by first | omega | (simp; done) | (simp; omega)⟩) (kw (ap1 vI v3 (lowI ((el (points s) v10).fC))) (tn 1 (kn (wrE (((v10 : Nat) : Int) + 1) ((v10 + 1 : Nat) : Int) (by omega)) (tn 1 z))))))))) (by kernel_rfl) ?_
    exact AG ⟨gv3 + 1, _, _, _, by first | omega | assumption | (simp only [lenM_eq]; omega) | (simp; done) | (simp; omega), by first | omega | assumption | (simp only [lenM_eq]; omega) | (simp; done) | (simp; omega), by first | assumption | (intro x hx; simp at hx; rcases hx with hx | hx <;> first | exact hq x hx | (subst hx; omega)) | (intro x hx; simp at hx; rcases hx with hx | hx | hx <;> first | exact hq x hx | (subst hx; omega)), by omega, rfl, rfl⟩ (WK (by kernel_rfl)) (by kernel_rfl) (Nat.lt_succ_self _)
 ·have := lenM_eq aPoint (points s)
  refine GO (kb h1 z) (by kernel_rfl) ?_
  refine OUT (tn 1 (kc (textP_to v3 (by omega) (by omega)) (tn 1 z))) (by kernel_rfl) ?_
  exact EN (by kernel_rfl)
def letR (c : Int) : Bool := inR c ([DRange.mk 65 90, DRange.mk 97 122, DRange.mk 170 170, DRange.mk 181 181, DRange.mk 186 186, DRange.mk 192 214, DRange.mk 216 246, DRange.mk 248 687, DRange.mk 880 1327, DRange.mk 4256 4351, DRange.mk 7680 8191, DRange.mk 12353 12538, DRange.mk 19968 40959, DRange.mk 44032 55203])
theorem letR_to (c : Int) : CallTo Tryz.prog 105 [(jI c)] [] [] (jB (letR c)) [] [] := by
 refine BEG (fun r : Bool => (jB r)) (letR c) Tryz.func105 (by kernel_rfl) ?_
 refine UF (letR.eq_1 ..) ?_
 refine GO (tn 16 (kp (show Uni 2 [(.agg [(vI 65), (vI 90)]), (.agg [(vI 97), (vI 122)]), (.agg [(vI 170), (vI 170)]), (.agg [(vI 181), (vI 181)]), (.agg [(vI 186), (vI 186)]), (.agg [(vI 192), (vI 214)]), (.agg [(vI 216), (vI 246)]), (.agg [(vI 248), (vI 687)]), (.agg [(vI 880), (vI 1327)]), (.agg [(vI 4256), (vI 4351)]), (.agg [(vI 7680), (vI 8191)]), (.agg [(vI 12353), (vI 12538)]), (.agg [(vI 19968), (vI 40959)]), (.agg [(vI 44032), (vI 55203)])] from (by simp [Uni, AV.cells, AV.isTup])) (kc (inR_to c ([DRange.mk 65 90, DRange.mk 97 122, DRange.mk 170 170, DRange.mk 181 181, DRange.mk 186 186, DRange.mk 192 214, DRange.mk 216 246, DRange.mk 248 687, DRange.mk 880 1327, DRange.mk 4256 4351, DRange.mk 7680 8191, DRange.mk 12353 12538, DRange.mk 19968 40959, DRange.mk 44032 55203]) (by decide)) (tn 1 z)))) (by kernel_rfl) ?_
 exact EN (by kernel_rfl)
def labelB_L0 (s : ByteArray) : Nat → Int → Bool
 | 0, _ => default
 | n0 + 1, v3 => cond (decide ((v3 : Int) < ((ByteArray.size s : Nat) : Int))) (cond (cond (decide (((nextP s v3).2 : Int) < 1)) true (cond (cond (!letR ((nextP s v3).1)) (!digB ((nextP s v3).1)) false) (!hasB (ByteArray.extract s (Int.toNat v3) (Int.toNat (v3 + 1))) (⟨#[32, 45, 95, 46, 58]⟩)) false)) false (labelB_L0 s n0 (v3 + ((nextP s v3).2)))) true
def labelB (s : ByteArray) : Bool := cond (cond (cond (decide (((ByteArray.size s : Nat) : Int) < 1)) true (decide (((ByteArray.size s : Nat) : Int) > 60))) true (!eqs (foldP s) s)) false (labelB_L0 s ((s.size - Int.toNat 0) + 1) 0)
theorem labelB_to (s : ByteArray) (hs : s.size ≤ 1073741824) : CallTo Tryz.prog 82 [(jS s)] [] [] (jB (labelB s)) [] [] := by
 refine BEG (fun r : Bool => (jB r)) (labelB s) Tryz.func82 (by kernel_rfl) ?_
 refine UF (labelB.eq_1 ..) ?_
 refine GO (tn 5 (kj (decide (((ByteArray.size s : Nat) : Int) < 1)) z (tn 3 z) (tn 1 (kj (cond (decide (((ByteArray.size s : Nat) : Int) < 1)) true (decide (((ByteArray.size s : Nat) : Int) > 60))) z (tn 1 (hc (fun h => by have j0 := h.2; obtain ⟨j0a, j0o⟩ := cond_tt j0; have j0ap := of_decide_eq_false j0a; have j0op := of_decide_eq_false j0o; exact (foldP_to s (by omega))) (tn 2 z))) z)))) (by kernel_rfl) ?_
 refine CS (fun h1 => ?_) (fun h1 => ?_)
 ·refine GO (kb h1 (tn 1 z)) (by kernel_rfl) ?_
  exact EN (by kernel_rfl)
 ·obtain ⟨h1a, h1o⟩ := cond_tt h1
  obtain ⟨h1aa, h1ao⟩ := cond_tt h1a
  have h1aap := of_decide_eq_false h1aa
  have h1aop := of_decide_eq_false h1ao
  have h1on := notf h1o
  refine GO (kb h1 (tn 1 z)) (by kernel_rfl) ?_
  refine LP (fun N M S => ∃ v3 : Int, (0 ≤ v3) ∧ (s.size - Int.toNat v3 < N) ∧ M = labelB_L0 s N v3 ∧ S = (sx 54 [(0, (jS s)), (3, (jI v3))] [] [])) (by kernel_rfl) ⟨_, by first | omega | assumption | (simp only [lenM_eq]; omega) | (simp; done) | (simp; omega), by omega, rfl, rfl⟩ (WK (by kernel_rfl)) ?_
  rintro n0 M S ⟨v3, hv, hF0, rfl, rfl⟩
  obtain ⟨n0, rfl⟩ : ∃ k, n0 = k + 1 := ⟨n0 - 1, by omega⟩
  refine UF (labelB_L0.eq_2 ..) ?_
  refine GO (tn 4 z) (by kernel_rfl) ?_
  refine CSd (fun h2p h2 => ?_) (fun h2p h2 => ?_)
  ·have := nextP_bd s v3
   refine GO (kb h2 (tn 2 (kc (nextP_to s v3 (by omega)) (tn 8 (kj (decide (((nextP s v3).2 : Int) < 1)) z (tn 1 (kc (letR_to ((nextP s v3).1)) (tn 2 (kj (!letR ((nextP s v3).1)) (tn 1 (kc (digB_to ((nextP s v3).1)) (tn 1 z))) z (tn 1 (kj (cond (!letR ((nextP s v3).1)) (!digB ((nextP s v3).1)) false) (tn 3 (hn (fun h => by have j0 := h.1.2; have j0p := of_decide_eq_false j0; have j1 := h.2; obtain ⟨j1a, j1o⟩ := cond_ff j1; have j1an := nott j1a; have j1on := nott j1o; exact (wrE (v3 + 1) (v3 + 1) (by omega))) (hp (fun h => by have j0 := h.1.2; have j0p := of_decide_eq_false j0; have j1 := h.2; obtain ⟨j1a, j1o⟩ := cond_ff j1; have j1an := nott j1a; have j1on := nott j1o; exact (show 0 ≤ (v3 : Int) ∧ (v3 : Int) ≤ v3 + 1 ∧ v3 + 1 ≤ ((ByteArray.size s : Nat) : Int) from (by omega))) (hc (fun h => by have j0 := h.1.2; have j0p := of_decide_eq_false j0; have j1 := h.2; obtain ⟨j1a, j1o⟩ := cond_ff j1; have j1an := nott j1a; have j1on := nott j1o; exact (hasB_to (ByteArray.extract s (Int.toNat v3) (Int.toNat (v3 + 1))) (⟨#[32, 45, 95, 46, 58]⟩) (by simp; omega) (by decide))) (tn 1 z))))) z z)))))) z))))) (by kernel_rfl) ?_
   refine CS (fun h3 => ?_) (fun h3 => ?_)
   ·refine GO (kb h3 (tn 1 z)) (by kernel_rfl) ?_
    refine OUT z (by kernel_rfl) ?_
    exact EN (by kernel_rfl)
   ·obtain ⟨h3a, h3o⟩ := cond_tt h3
    have h3ap := of_decide_eq_false h3a
    refine GO (kb h3 (tn 2 (kn (wrE (v3 + ((nextP s v3).2)) (v3 + ((nextP s v3).2)) (by omega)) (tn 1 z)))) (by kernel_rfl) ?_
    exact AG ⟨_, by first | omega | assumption | (simp only [lenM_eq]; omega) | (simp; done) | (simp; omega), by omega, rfl, rfl⟩ (WK (by kernel_rfl)) (by kernel_rfl) (Nat.lt_succ_self _)
  ·refine GO (kb h2 z) (by kernel_rfl) ?_
   refine OUT (tn 1 z) (by kernel_rfl) ?_
   exact EN (by kernel_rfl)
def lineB_L0 (s : ByteArray) : Nat → Nat → Bool
 | 0, _ => default
 | n0 + 1, v3 => cond (decide (((v3 : Nat) : Int) < ((ByteArray.size s : Nat) : Int))) (cond (((byt s v3 : Nat) : Int) == 10) false (lineB_L0 s n0 (v3 + 1))) true
def lineB (s : ByteArray) : Bool := cond (!validB s) false (lineB_L0 s ((ByteArray.size s - 0) + 1) 0)
theorem lineB_to (s : ByteArray) (hs : s.size ≤ 1073741824) : CallTo Tryz.prog 17 [(jS s)] [] [] (jB (lineB s)) [] [] := by
 refine BEG (fun r : Bool => (jB r)) (lineB s) Tryz.func17 (by kernel_rfl) ?_
 refine UF (lineB.eq_1 ..) ?_
 refine GO (tn 2 (kc (validB_to s (by omega)) (tn 1 z))) (by kernel_rfl) ?_
 refine CS (fun h1 => ?_) (fun h1 => ?_)
 ·have h1n := nott h1
  refine GO (kb h1 (tn 1 z)) (by kernel_rfl) ?_
  exact EN (by kernel_rfl)
 ·have h1n := notf h1
  refine GO (kb h1 (tn 1 z)) (by kernel_rfl) ?_
  refine LP (fun N M S => ∃ v3 : Nat, (ByteArray.size s - v3 < N) ∧ M = lineB_L0 s N v3 ∧ S = (sx 17 [(0, (jS s)), (3, (jI ((v3 : Nat) : Int)))] [] [])) (by kernel_rfl) ⟨_, by omega, rfl, rfl⟩ (WK (by kernel_rfl)) ?_
  rintro n0 M S ⟨v3, hF0, rfl, rfl⟩
  obtain ⟨n0, rfl⟩ : ∃ k, n0 = k + 1 := ⟨n0 - 1, by omega⟩
  refine UF (lineB_L0.eq_2 ..) ?_
  refine GO (tn 4 z) (by kernel_rfl) ?_
  refine CSd (fun h2p h2 => ?_) (fun h2p h2 => ?_)
  ·refine GO (kb h2 (tn 2 (kp (ib s ((v3 : Nat) : Int) (by omega)) (tn 1 z)))) (by kernel_rfl) ?_
   refine CSe (fun h3p h3 => ?_) (fun h3p h3 => ?_)
   ·refine GO (kb h3 (tn 1 z)) (by kernel_rfl) ?_
    refine OUT z (by kernel_rfl) ?_
    exact EN (by kernel_rfl)
   ·refine GO (kb h3 (tn 1 (kn (wrE (((v3 : Nat) : Int) + 1) ((v3 + 1 : Nat) : Int) (by omega)) (tn 1 z)))) (by kernel_rfl) ?_
    exact AG ⟨_, by omega, rfl, rfl⟩ (WK (by kernel_rfl)) (by kernel_rfl) (Nat.lt_succ_self _)
  ·refine GO (kb h2 z) (by kernel_rfl) ?_
   refine OUT (tn 1 z) (by kernel_rfl) ?_
   exact EN (by kernel_rfl)
def lineC_L0 (s : ByteArray) : Nat → Nat → Bool
 | 0, _ => default
 | n0 + 1, v3 => cond (decide (((v3 : Nat) : Int) < ((ByteArray.size s : Nat) : Int))) (cond (((byt s v3 : Nat) : Int) == 10) false (lineC_L0 s n0 (v3 + 1))) true
def lineC (s : ByteArray) : Bool := cond (!validB s) false (lineC_L0 s ((ByteArray.size s - 0) + 1) 0)
theorem lineC_to (s : ByteArray) (hs : s.size ≤ 1073741824) : CallTo Tryz.prog 100 [(jS s)] [] [] (jB (lineC s)) [] [] := by
 refine BEG (fun r : Bool => (jB r)) (lineC s) Tryz.func100 (by kernel_rfl) ?_
 refine UF (lineC.eq_1 ..) ?_
 refine GO (tn 2 (kc (validB_to s (by omega)) (tn 1 z))) (by kernel_rfl) ?_
 refine CS (fun h1 => ?_) (fun h1 => ?_)
 ·have h1n := nott h1
  refine GO (kb h1 (tn 1 z)) (by kernel_rfl) ?_
  exact EN (by kernel_rfl)
 ·have h1n := notf h1
  refine GO (kb h1 (tn 1 z)) (by kernel_rfl) ?_
  refine LP (fun N M S => ∃ v3 : Nat, (ByteArray.size s - v3 < N) ∧ M = lineC_L0 s N v3 ∧ S = (sx 17 [(0, (jS s)), (3, (jI ((v3 : Nat) : Int)))] [] [])) (by kernel_rfl) ⟨_, by omega, rfl, rfl⟩ (WK (by kernel_rfl)) ?_
  rintro n0 M S ⟨v3, hF0, rfl, rfl⟩
  obtain ⟨n0, rfl⟩ : ∃ k, n0 = k + 1 := ⟨n0 - 1, by omega⟩
  refine UF (lineC_L0.eq_2 ..) ?_
  refine GO (tn 4 z) (by kernel_rfl) ?_
  refine CSd (fun h2p h2 => ?_) (fun h2p h2 => ?_)
  ·refine GO (kb h2 (tn 2 (kp (ib s ((v3 : Nat) : Int) (by omega)) (tn 1 z)))) (by kernel_rfl) ?_
   refine CSe (fun h3p h3 => ?_) (fun h3p h3 => ?_)
   ·refine GO (kb h3 (tn 1 z)) (by kernel_rfl) ?_
    refine OUT z (by kernel_rfl) ?_
    exact EN (by kernel_rfl)
   ·refine GO (kb h3 (tn 1 (kn (wrE (((v3 : Nat) : Int) + 1) ((v3 + 1 : Nat) : Int) (by omega)) (tn 1 z)))) (by kernel_rfl) ?_
    exact AG ⟨_, by omega, rfl, rfl⟩ (WK (by kernel_rfl)) (by kernel_rfl) (Nat.lt_succ_self _)
  ·refine GO (kb h2 z) (by kernel_rfl) ?_
   refine OUT (tn 1 z) (by kernel_rfl) ?_
   exact EN (by kernel_rfl)
def autoB_L0 (s : ByteArray) : Nat → Nat → Bool
 | 0, _ => default
 | n0 + 1, v3 => cond (cond (decide (((v3 : Nat) : Int) < ((ByteArray.size s : Nat) : Int))) (cond (cond (decide (((byt s v3 : Nat) : Int) ≥ 97)) (decide (((byt s v3 : Nat) : Int) ≤ 122)) false) true (cond (decide (((byt s v3 : Nat) : Int) ≥ 65)) (decide (((byt s v3 : Nat) : Int) ≤ 90)) false)) false) (autoB_L0 s n0 (v3 + 1)) (cond (cond (cond (cond (cond (decide (((v3 : Nat) : Int) ≥ 2)) (decide (((v3 : Nat) : Int) ≤ 20)) false) (decide (((v3 : Nat) : Int) < ((ByteArray.size s : Nat) : Int))) false) (((byt s v3 : Nat) : Int) == 58) false) (lineB s) false) (!hasB s (⟨#[32, 60, 62]⟩)) false)
def autoB (s : ByteArray) : Bool := autoB_L0 s ((ByteArray.size s - 0) + 1) 0
theorem autoB_to (s : ByteArray) (hs : s.size ≤ 1073741824) : CallTo Tryz.prog 127 [(jS s)] [] [] (jB (autoB s)) [] [] := by
 refine BEG (fun r : Bool => (jB r)) (autoB s) Tryz.func127 (by kernel_rfl) ?_
 refine UF (autoB.eq_1 ..) ?_
 refine GO (tn 2 z) (by kernel_rfl) ?_
 refine LP (fun N M S => ∃ v3 : Nat, (ByteArray.size s - v3 < N) ∧ M = autoB_L0 s N v3 ∧ S = (sx 61 [(0, (jS s)), (3, (jI ((v3 : Nat) : Int)))] [] [])) (by kernel_rfl) ⟨_, by omega, rfl, rfl⟩ (WK (by kernel_rfl)) ?_
 rintro n0 M S ⟨v3, hF0, rfl, rfl⟩
 obtain ⟨n0, rfl⟩ : ∃ k, n0 = k + 1 := ⟨n0 - 1, by omega⟩
 refine UF (autoB_L0.eq_2 ..) ?_
 refine GO (tn 5 (kj (decide (((v3 : Nat) : Int) < ((ByteArray.size s : Nat) : Int))) (tn 2 (hp (fun h => by have j0 := h.2; have j0p := of_decide_eq_true j0; exact (ib s ((v3 : Nat) : Int) (by omega))) (tn 2 (kj (decide (((byt s v3 : Nat) : Int) ≥ 97)) (tn 2 (hp (fun h => by have j0 := h.1.2; have j0p := of_decide_eq_true j0; have j1 := h.2; have j1p := of_decide_eq_true j1; exact (ib s ((v3 : Nat) : Int) (by omega))) (tn 1 z))) z (tn 1 (kj (cond (decide (((byt s v3 : Nat) : Int) ≥ 97)) (decide (((byt s v3 : Nat) : Int) ≤ 122)) false) z (tn 2 (hp (fun h => by have j0 := h.1.2; have j0p := of_decide_eq_true j0; have j1 := h.2; exact (ib s ((v3 : Nat) : Int) (by omega))) (tn 2 (kj (decide (((byt s v3 : Nat) : Int) ≥ 65)) (tn 2 (hp (fun h => by have j0 := h.1.1.2; have j0p := of_decide_eq_true j0; have j1 := h.1.2; have j2 := h.2; have j2p := of_decide_eq_true j2; exact (ib s ((v3 : Nat) : Int) (by omega))) (tn 1 z))) z z)))) z)))))) z z)) (by kernel_rfl) ?_
 refine CS (fun h1 => ?_) (fun h1 => ?_)
 ·obtain ⟨h1a, h1o⟩ := cond_ff h1
  have h1ap := of_decide_eq_true h1a
  refine GO (kb h1 (tn 1 (kn (wrE (((v3 : Nat) : Int) + 1) ((v3 + 1 : Nat) : Int) (by omega)) (tn 1 z)))) (by kernel_rfl) ?_
  exact AG ⟨_, by omega, rfl, rfl⟩ (WK (by kernel_rfl)) (by kernel_rfl) (Nat.lt_succ_self _)
 ·refine GO (kb h1 z) (by kernel_rfl) ?_
  refine OUT (tn 3 (kj (decide (((v3 : Nat) : Int) ≥ 2)) (tn 2 z) z (tn 1 (kj (cond (decide (((v3 : Nat) : Int) ≥ 2)) (decide (((v3 : Nat) : Int) ≤ 20)) false) (tn 4 z) z (tn 1 (kj (cond (cond (decide (((v3 : Nat) : Int) ≥ 2)) (decide (((v3 : Nat) : Int) ≤ 20)) false) (decide (((v3 : Nat) : Int) < ((ByteArray.size s : Nat) : Int))) false) (tn 2 (hp (fun h => by have j0 := h.2; obtain ⟨j0a, j0o⟩ := cond_ff j0; obtain ⟨j0aa, j0ao⟩ := cond_ff j0a; have j0aap := of_decide_eq_true j0aa; have j0aop := of_decide_eq_true j0ao; have j0op := of_decide_eq_true j0o; exact (ib s ((v3 : Nat) : Int) (by omega))) (tn 1 z))) z (tn 1 (kj (cond (cond (cond (decide (((v3 : Nat) : Int) ≥ 2)) (decide (((v3 : Nat) : Int) ≤ 20)) false) (decide (((v3 : Nat) : Int) < ((ByteArray.size s : Nat) : Int))) false) (((byt s v3 : Nat) : Int) == 58) false) (tn 1 (hc (fun h => by have j0 := h.2; obtain ⟨j0a, j0o⟩ := cond_ff j0; obtain ⟨j0aa, j0ao⟩ := cond_ff j0a; obtain ⟨j0aaa, j0aao⟩ := cond_ff j0aa; have j0aaap := of_decide_eq_true j0aaa; have j0aaop := of_decide_eq_true j0aao; have j0aop := of_decide_eq_true j0ao; have j0op := eq_of_beq j0o; exact (lineB_to s (by omega))) z)) z (tn 1 (kj (cond (cond (cond (cond (decide (((v3 : Nat) : Int) ≥ 2)) (decide (((v3 : Nat) : Int) ≤ 20)) false) (decide (((v3 : Nat) : Int) < ((ByteArray.size s : Nat) : Int))) false) (((byt s v3 : Nat) : Int) == 58) false) (lineB s) false) (tn 1 (hc (fun h => by have j0 := h.2; obtain ⟨j0a, j0o⟩ := cond_ff j0; obtain ⟨j0aa, j0ao⟩ := cond_ff j0a; obtain ⟨j0aaa, j0aao⟩ := cond_ff j0aa; obtain ⟨j0aaaa, j0aaao⟩ := cond_ff j0aaa; have j0aaaap := of_decide_eq_true j0aaaa; have j0aaaop := of_decide_eq_true j0aaao; have j0aaop := of_decide_eq_true j0aao; have j0aop := eq_of_beq j0ao; exact (hasB_to s (⟨#[32, 60, 62]⟩) (by omega) (by decide))) (tn 1 z))) z (tn 1 z))))))))))) (by kernel_rfl) ?_
  exact EN (by kernel_rfl)
def bodyB (s : ByteArray) : Bool := cond (eqs s (⟨#[]⟩)) true (cond (validB s) (((byt s (Int.toNat (((ByteArray.size s : Nat) : Int) - 1)) : Nat) : Int) == 10) false)
theorem bodyB_to (s : ByteArray) (hs : s.size ≤ 1073741824) : CallTo Tryz.prog 78 [(jS s)] [] [] (jB (bodyB s)) [] [] := by
 refine BEG (fun r : Bool => (jB r)) (bodyB s) Tryz.func78 (by kernel_rfl) ?_
 refine UF (bodyB.eq_1 ..) ?_
 refine GO (tn 4 (kj (eqs s (⟨#[]⟩)) z (tn 1 (hc (fun h => by have j0 := h.2; have j0z := size_eqs_f j0; exact (validB_to s (by omega))) (tn 1 (kj (validB s) (tn 3 (hn (fun h => by have j0 := h.1.2; have j0z := size_eqs_f j0; have j1 := h.2; exact (wrE (((ByteArray.size s : Nat) : Int) - 1) (((ByteArray.size s : Nat) : Int) - 1) (by omega))) (hp (fun h => by have j0 := h.1.2; have j0z := size_eqs_f j0; have j1 := h.2; exact (ib s (((ByteArray.size s : Nat) : Int) - 1) (by omega))) (tn 1 z)))) z z)))) (tn 1 z))) (by kernel_rfl) ?_
 exact EN (by kernel_rfl)
end Go.Proofs.YtdaglbjgdakmcaaGreat
namespace Go.Proofs.YtdaglbjgdakmcaaGreat
open Go Go.Eng
set_option maxHeartbeats 2000000 in
theorem letter_to (c : Int) : CallTo Tryz.prog 83 [(.av (.val (.int .u8 c)))] [] [] (.av (.val (.bool (letB c)))) [] [] := by
 refine CallTo_of_body (n := 17) Tryz.func83 rfl (by kernel_rfl) Tryz.ntmps83 (by simp) (by simp) (by simp) (by simp [OkSV, SV.keys, ABox.svs, PV.keys]) (by simp [OkSV, SV.keys, ABox.svs, PV.keys]) (by simp [OkSV, SV.keys, ABox.svs, PV.keys]) (by simp [OkSV, SV.keys, ABox.svs, PV.keys]) rfl rfl ?_
 refine W_eq (sx 17 [(0, (.av (.val (.int .u8 c))))] [] []) (by kernel_rfl) ?_
 refine WN ?_
 rcases Bool.eq_false_or_eq_true (decide ((c : Int) ≥ 97)) with hb1 | hb1
 ·have hb1p := of_decide_eq_true hb1
  rcases Bool.eq_false_or_eq_true (decide ((c : Int) ≤ 122)) with hb2 | hb2
  ·have hb2p := of_decide_eq_true hb2
   refine GO (tn 4 (kb hb1 (tn 1 (kb hb1 (tn 1 (kb hb1 (tn 1 (kb hb2 (kb hb2 (kb hb2 (kb hb2 (kb hb2 (tn 1 z))))))))))))) (by kernel_rfl) ?_
   exact LEAF .ret (S2 := (sx 17 [(2, (jB true))] [] [])) (by kernel_rfl) (WK (by kernel_rfl)) (ends (r := (jB true)) (by simp) (by kernel_rfl) (bres (by simp_all [letB]; done)) (by simp) (by simp))
  ·have hb2p := of_decide_eq_false hb2
   rcases Bool.eq_false_or_eq_true (decide ((c : Int) ≥ 65)) with hb3 | hb3
   ·have hb3p := of_decide_eq_true hb3
    refine GO (tn 4 (kb hb1 (tn 1 (kb hb1 (tn 1 (kb hb1 (tn 1 (kb hb2 (tn 1 (kb hb2 (tn 1 (kb hb2 (tn 1 (kb hb3 (tn 1 (kb hb3 (tn 1 (kb hb2 (kb hb3 (kb hb2 (tn 1 z))))))))))))))))))))) (by kernel_rfl) ?_
    exact LEAF .ret (S2 := (sx 17 [(2, (jB (decide ((c : Int) ≤ 90))))] [] [])) (by kernel_rfl) (WK (by kernel_rfl)) (ends (r := (jB (decide ((c : Int) ≤ 90)))) (by simp) (by kernel_rfl) (bres (by simp_all [letB] <;> omega)) (by simp) (by simp))
   ·have hb3p := of_decide_eq_false hb3
    refine GO (tn 4 (kb hb1 (tn 1 (kb hb1 (tn 1 (kb hb1 (tn 1 (kb hb2 (tn 1 (kb hb2 (tn 1 (kb hb2 (tn 1 (kb hb3 (kb hb3 (kb hb2 (kb hb3 (kb hb2 (tn 1 z))))))))))))))))))) (by kernel_rfl) ?_
    exact LEAF .ret (S2 := (sx 17 [(2, (jB false))] [] [])) (by kernel_rfl) (WK (by kernel_rfl)) (ends (r := (jB false)) (by simp) (by kernel_rfl) (bres (by simp_all [letB] <;> omega)) (by simp) (by simp))
 ·have hb1p := of_decide_eq_false hb1
  rcases Bool.eq_false_or_eq_true (decide ((c : Int) ≥ 65)) with hb4 | hb4
  ·have hb4p := of_decide_eq_true hb4
   refine GO (tn 4 (kb hb1 (kb hb1 (kb hb1 (tn 1 (kb ff (tn 1 (kb ff (tn 1 (kb ff (tn 1 (kb hb4 (tn 1 (kb hb4 (tn 1 (kb ff (kb hb4 (kb ff (tn 1 z))))))))))))))))))) (by kernel_rfl) ?_
   exact LEAF .ret (S2 := (sx 17 [(2, (jB (decide ((c : Int) ≤ 90))))] [] [])) (by kernel_rfl) (WK (by kernel_rfl)) (ends (r := (jB (decide ((c : Int) ≤ 90)))) (by simp) (by kernel_rfl) (bres (by simp_all [letB] <;> omega)) (by simp) (by simp))
  ·have hb4p := of_decide_eq_false hb4
   refine GO (tn 4 (kb hb1 (kb hb1 (kb hb1 (tn 1 (kb ff (tn 1 (kb ff (tn 1 (kb ff (tn 1 (kb hb4 (kb hb4 (kb ff (kb hb4 (kb ff (tn 1 z))))))))))))))))) (by kernel_rfl) ?_
   exact LEAF .ret (S2 := (sx 17 [(2, (jB false))] [] [])) (by kernel_rfl) (WK (by kernel_rfl)) (ends (r := (jB false)) (by simp) (by kernel_rfl) (bres (by simp_all [letB] <;> omega)) (by simp) (by simp))
set_option maxHeartbeats 2000000 in
theorem rletter_to (c : Int) : CallTo Tryz.prog 34 [(.av (.val (.int .u8 c)))] [] [] (.av (.val (.bool (letB c)))) [] [] := by
 refine CallTo_of_body (n := 17) Tryz.func34 rfl (by kernel_rfl) Tryz.ntmps34 (by simp) (by simp) (by simp) (by simp [OkSV, SV.keys, ABox.svs, PV.keys]) (by simp [OkSV, SV.keys, ABox.svs, PV.keys]) (by simp [OkSV, SV.keys, ABox.svs, PV.keys]) (by simp [OkSV, SV.keys, ABox.svs, PV.keys]) rfl rfl ?_
 refine W_eq (sx 17 [(0, (.av (.val (.int .u8 c))))] [] []) (by kernel_rfl) ?_
 refine WN ?_
 rcases Bool.eq_false_or_eq_true (decide ((c : Int) ≥ 97)) with hb1 | hb1
 ·have hb1p := of_decide_eq_true hb1
  rcases Bool.eq_false_or_eq_true (decide ((c : Int) ≤ 122)) with hb2 | hb2
  ·have hb2p := of_decide_eq_true hb2
   refine GO (tn 4 (kb hb1 (tn 1 (kb hb1 (tn 1 (kb hb1 (tn 1 (kb hb2 (kb hb2 (kb hb2 (kb hb2 (kb hb2 (tn 1 z))))))))))))) (by kernel_rfl) ?_
   exact LEAF .ret (S2 := (sx 17 [(2, (jB true))] [] [])) (by kernel_rfl) (WK (by kernel_rfl)) (ends (r := (jB true)) (by simp) (by kernel_rfl) (bres (by simp_all [letB]; done)) (by simp) (by simp))
  ·have hb2p := of_decide_eq_false hb2
   rcases Bool.eq_false_or_eq_true (decide ((c : Int) ≥ 65)) with hb3 | hb3
   ·have hb3p := of_decide_eq_true hb3
    refine GO (tn 4 (kb hb1 (tn 1 (kb hb1 (tn 1 (kb hb1 (tn 1 (kb hb2 (tn 1 (kb hb2 (tn 1 (kb hb2 (tn 1 (kb hb3 (tn 1 (kb hb3 (tn 1 (kb hb2 (kb hb3 (kb hb2 (tn 1 z))))))))))))))))))))) (by kernel_rfl) ?_
    exact LEAF .ret (S2 := (sx 17 [(2, (jB (decide ((c : Int) ≤ 90))))] [] [])) (by kernel_rfl) (WK (by kernel_rfl)) (ends (r := (jB (decide ((c : Int) ≤ 90)))) (by simp) (by kernel_rfl) (bres (by simp_all [letB] <;> omega)) (by simp) (by simp))
   ·have hb3p := of_decide_eq_false hb3
    refine GO (tn 4 (kb hb1 (tn 1 (kb hb1 (tn 1 (kb hb1 (tn 1 (kb hb2 (tn 1 (kb hb2 (tn 1 (kb hb2 (tn 1 (kb hb3 (kb hb3 (kb hb2 (kb hb3 (kb hb2 (tn 1 z))))))))))))))))))) (by kernel_rfl) ?_
    exact LEAF .ret (S2 := (sx 17 [(2, (jB false))] [] [])) (by kernel_rfl) (WK (by kernel_rfl)) (ends (r := (jB false)) (by simp) (by kernel_rfl) (bres (by simp_all [letB] <;> omega)) (by simp) (by simp))
 ·have hb1p := of_decide_eq_false hb1
  rcases Bool.eq_false_or_eq_true (decide ((c : Int) ≥ 65)) with hb4 | hb4
  ·have hb4p := of_decide_eq_true hb4
   refine GO (tn 4 (kb hb1 (kb hb1 (kb hb1 (tn 1 (kb ff (tn 1 (kb ff (tn 1 (kb ff (tn 1 (kb hb4 (tn 1 (kb hb4 (tn 1 (kb ff (kb hb4 (kb ff (tn 1 z))))))))))))))))))) (by kernel_rfl) ?_
   exact LEAF .ret (S2 := (sx 17 [(2, (jB (decide ((c : Int) ≤ 90))))] [] [])) (by kernel_rfl) (WK (by kernel_rfl)) (ends (r := (jB (decide ((c : Int) ≤ 90)))) (by simp) (by kernel_rfl) (bres (by simp_all [letB] <;> omega)) (by simp) (by simp))
  ·have hb4p := of_decide_eq_false hb4
   refine GO (tn 4 (kb hb1 (kb hb1 (kb hb1 (tn 1 (kb ff (tn 1 (kb ff (tn 1 (kb ff (tn 1 (kb hb4 (kb hb4 (kb ff (kb hb4 (kb ff (tn 1 z))))))))))))))))) (by kernel_rfl) ?_
   exact LEAF .ret (S2 := (sx 17 [(2, (jB false))] [] [])) (by kernel_rfl) (WK (by kernel_rfl)) (ends (r := (jB false)) (by simp) (by kernel_rfl) (bres (by simp_all [letB] <;> omega)) (by simp) (by simp))
set_option maxHeartbeats 2000000 in
theorem inName_to (c : Int) : CallTo Tryz.prog 107 [(.av (.val (.int .u8 c)))] [] [] (.av (.val (.bool (inB c)))) [] [] := by
 refine CallTo_of_body (n := 19) Tryz.func107 rfl (by kernel_rfl) Tryz.ntmps107 (by simp) (by simp) (by simp) (by simp [OkSV, SV.keys, ABox.svs, PV.keys]) (by simp [OkSV, SV.keys, ABox.svs, PV.keys]) (by simp [OkSV, SV.keys, ABox.svs, PV.keys]) (by simp [OkSV, SV.keys, ABox.svs, PV.keys]) rfl rfl ?_
 refine W_eq (sx 19 [(0, (.av (.val (.int .u8 c))))] [] []) (by kernel_rfl) ?_
 refine WN ?_
 refine GO (tn 4 z) (by kernel_rfl) ?_
 rcases Bool.eq_false_or_eq_true ((c : Int) == 45) with hb1 | hb1
 ·have hb1p := eq_of_beq hb1
  refine GO (kb hb1 (kb hb1 (tn 1 z))) (by kernel_rfl) ?_
  exact LEAF .ret (S2 := (sx 19 [(2, (jB true))] [] [])) (by kernel_rfl) (WK (by kernel_rfl)) (ends (r := (jB true)) (by simp) (by kernel_rfl) (bres (by simp_all [inB]; done)) (by simp) (by simp))
 ·have hb1p := ne_of_beq_false hb1
  refine GO (kb hb1 (tn 2 z)) (by kernel_rfl) ?_
  rcases Bool.eq_false_or_eq_true ((c : Int) == 95) with hb2 | hb2
  ·have hb2p := eq_of_beq hb2
   refine GO (kb hb2 (kb hb2 (tn 1 z))) (by kernel_rfl) ?_
   exact LEAF .ret (S2 := (sx 19 [(2, (jB true))] [] [])) (by kernel_rfl) (WK (by kernel_rfl)) (ends (r := (jB true)) (by simp) (by kernel_rfl) (bres (by simp_all [inB]; done)) (by simp) (by simp))
  ·have hb2p := ne_of_beq_false hb2
   refine GO (kb hb2 (tn 2 z)) (by kernel_rfl) ?_
   rcases Bool.eq_false_or_eq_true ((c : Int) == 46) with hb3 | hb3
   ·have hb3p := eq_of_beq hb3
    refine GO (kb hb3 (kb hb3 (tn 1 z))) (by kernel_rfl) ?_
    exact LEAF .ret (S2 := (sx 19 [(2, (jB true))] [] [])) (by kernel_rfl) (WK (by kernel_rfl)) (ends (r := (jB true)) (by simp) (by kernel_rfl) (bres (by simp_all [inB]; done)) (by simp) (by simp))
   ·have hb3p := ne_of_beq_false hb3
    refine GO (kb hb3 (tn 2 z)) (by kernel_rfl) ?_
    rcases Bool.eq_false_or_eq_true ((c : Int) == 58) with hb4 | hb4
    ·have hb4p := eq_of_beq hb4
     refine GO (kb hb4 (tn 1 z)) (by kernel_rfl) ?_
     exact LEAF .ret (S2 := (sx 19 [(2, (jB true))] [] [])) (by kernel_rfl) (WK (by kernel_rfl)) (ends (r := (jB true)) (by simp) (by kernel_rfl) (bres (by simp_all [inB]; done)) (by simp) (by simp))
    ·have hb4p := ne_of_beq_false hb4
     rcases Bool.eq_false_or_eq_true (letB c) with hb5 | hb5
     ·refine GO (kb hb4 (tn 1 (kg (letter_to c) trivial (tn 1 (kb hb5 (kb hb5 (kb hb5 (kb hb5 (kb hb5 (tn 1 z)))))))))) (by kernel_rfl) ?_
      exact LEAF .ret (S2 := (sx 19 [(2, (jB true))] [] [])) (by kernel_rfl) (WK (by kernel_rfl)) (ends (r := (jB true)) (by simp) (by kernel_rfl) (bres (by simp_all [inB]; done)) (by simp) (by simp))
     ·rcases Bool.eq_false_or_eq_true (decide ((c : Int) ≥ 48)) with hb6 | hb6
      ·have hb6p := of_decide_eq_true hb6
       refine GO (kb hb4 (tn 1 (kg (letter_to c) trivial (tn 1 (kb hb5 (tn 1 (kb hb5 (tn 1 (kb hb5 (tn 1 (kb hb6 (tn 1 (kb hb6 (tn 1 (kb hb5 (kb hb6 (kb hb5 (tn 1 z)))))))))))))))))) (by kernel_rfl) ?_
       exact LEAF .ret (S2 := (sx 19 [(2, (jB (decide ((c : Int) ≤ 57))))] [] [])) (by kernel_rfl) (WK (by kernel_rfl)) (ends (r := (jB (decide ((c : Int) ≤ 57)))) (by simp) (by kernel_rfl) (bres (by simp only [inB, ge_iff_le] at *; simp [*])) (by simp) (by simp))
      ·have hb6p := of_decide_eq_false hb6
       refine GO (kb hb4 (tn 1 (kg (letter_to c) trivial (tn 1 (kb hb5 (tn 1 (kb hb5 (tn 1 (kb hb5 (tn 1 (kb hb6 (kb hb6 (kb hb5 (kb hb6 (kb hb5 (tn 1 z)))))))))))))))) (by kernel_rfl) ?_
       exact LEAF .ret (S2 := (sx 19 [(2, (jB false))] [] [])) (by kernel_rfl) (WK (by kernel_rfl)) (ends (r := (jB false)) (by simp) (by kernel_rfl) (bres (by simp_all [inB] <;> omega)) (by simp) (by simp))
set_option maxHeartbeats 2000000 in
theorem part_to (c : Int) : CallTo Tryz.prog 54 [(.av (.val (.int .u8 c)))] [] [] (.av (.val (.bool (inB c)))) [] [] := by
 refine CallTo_of_body (n := 29) Tryz.func54 rfl (by kernel_rfl) Tryz.ntmps54 (by simp) (by simp) (by simp) (by simp [OkSV, SV.keys, ABox.svs, PV.keys]) (by simp [OkSV, SV.keys, ABox.svs, PV.keys]) (by simp [OkSV, SV.keys, ABox.svs, PV.keys]) (by simp [OkSV, SV.keys, ABox.svs, PV.keys]) rfl rfl ?_
 refine W_eq (sx 29 [(0, (.av (.val (.int .u8 c))))] [] []) (by kernel_rfl) ?_
 refine WN ?_
 rcases Bool.eq_false_or_eq_true (letB c) with hb1 | hb1
 ·refine GO (tn 2 (kg (rletter_to c) trivial (tn 1 (kb hb1 (kb hb1 (kb hb1 (kb hb1 (kb hb1 (tn 1 (kb tt (kb tt (kb tt (tn 1 (kb tt (kb tt (kb tt (tn 1 (kb tt (kb tt (kb tt (tn 1 (kb tt (kb tt (kb tt (tn 1 z))))))))))))))))))))))))) (by kernel_rfl) ?_
  exact LEAF .ret (S2 := (sx 29 [(2, (jB true))] [] [])) (by kernel_rfl) (WK (by kernel_rfl)) (ends (r := (jB true)) (by simp) (by kernel_rfl) (bres (by simp_all [inB]; done)) (by simp) (by simp))
 ·rcases Bool.eq_false_or_eq_true (decide ((c : Int) ≥ 48)) with hb2 | hb2
  ·have hb2p := of_decide_eq_true hb2
   rcases Bool.eq_false_or_eq_true (decide ((c : Int) ≤ 57)) with hb3 | hb3
   ·have hb3p := of_decide_eq_true hb3
    refine GO (tn 2 (kg (rletter_to c) trivial (tn 1 (kb hb1 (tn 1 (kb hb1 (tn 1 (kb hb1 (tn 1 (kb hb2 (tn 1 (kb hb2 (tn 1 (kb hb1 (kb hb2 (kb hb1 (tn 1 (kb hb3 (kb hb3 (kb hb3 (tn 1 (kb tt (kb tt (kb tt (tn 1 (kb tt (kb tt (kb tt (tn 1 (kb tt (kb tt (kb tt (tn 1 z))))))))))))))))))))))))))))))))) (by kernel_rfl) ?_
    exact LEAF .ret (S2 := (sx 29 [(2, (jB true))] [] [])) (by kernel_rfl) (WK (by kernel_rfl)) (ends (r := (jB true)) (by simp) (by kernel_rfl) (bres (by simp_all [inB]; done)) (by simp) (by simp))
   ·have hb3p := of_decide_eq_false hb3
    rcases Bool.eq_false_or_eq_true ((c : Int) == 45) with hb4 | hb4
    ·have hb4p := eq_of_beq hb4
     refine GO (tn 2 (kg (rletter_to c) trivial (tn 1 (kb hb1 (tn 1 (kb hb1 (tn 1 (kb hb1 (tn 1 (kb hb2 (tn 1 (kb hb2 (tn 1 (kb hb1 (kb hb2 (kb hb1 (tn 1 (kb hb3 (tn 1 (kb hb3 (tn 1 (kb hb3 (tn 1 (kb hb4 (kb hb4 (kb hb4 (tn 1 (kb tt (kb tt (kb tt (tn 1 (kb tt (kb tt (kb tt (tn 1 z))))))))))))))))))))))))))))))))))) (by kernel_rfl) ?_
     exact LEAF .ret (S2 := (sx 29 [(2, (jB true))] [] [])) (by kernel_rfl) (WK (by kernel_rfl)) (ends (r := (jB true)) (by simp) (by kernel_rfl) (bres (by simp_all [inB]; done)) (by simp) (by simp))
    ·have hb4p := ne_of_beq_false hb4
     rcases Bool.eq_false_or_eq_true ((c : Int) == 95) with hb5 | hb5
     ·have hb5p := eq_of_beq hb5
      refine GO (tn 2 (kg (rletter_to c) trivial (tn 1 (kb hb1 (tn 1 (kb hb1 (tn 1 (kb hb1 (tn 1 (kb hb2 (tn 1 (kb hb2 (tn 1 (kb hb1 (kb hb2 (kb hb1 (tn 1 (kb hb3 (tn 1 (kb hb3 (tn 1 (kb hb3 (tn 1 (kb hb4 (tn 1 (kb hb4 (tn 1 (kb hb4 (tn 1 (kb hb5 (kb hb5 (kb hb5 (tn 1 (kb tt (kb tt (kb tt (tn 1 z))))))))))))))))))))))))))))))))))))) (by kernel_rfl) ?_
      exact LEAF .ret (S2 := (sx 29 [(2, (jB true))] [] [])) (by kernel_rfl) (WK (by kernel_rfl)) (ends (r := (jB true)) (by simp) (by kernel_rfl) (bres (by simp_all [inB]; done)) (by simp) (by simp))
     ·have hb5p := ne_of_beq_false hb5
      rcases Bool.eq_false_or_eq_true ((c : Int) == 46) with hb6 | hb6
      ·have hb6p := eq_of_beq hb6
       refine GO (tn 2 (kg (rletter_to c) trivial (tn 1 (kb hb1 (tn 1 (kb hb1 (tn 1 (kb hb1 (tn 1 (kb hb2 (tn 1 (kb hb2 (tn 1 (kb hb1 (kb hb2 (kb hb1 (tn 1 (kb hb3 (tn 1 (kb hb3 (tn 1 (kb hb3 (tn 1 (kb hb4 (tn 1 (kb hb4 (tn 1 (kb hb4 (tn 1 (kb hb5 (tn 1 (kb hb5 (tn 1 (kb hb5 (tn 1 (kb hb6 (kb hb6 (kb hb6 (tn 1 z))))))))))))))))))))))))))))))))))))))) (by kernel_rfl) ?_
       exact LEAF .ret (S2 := (sx 29 [(2, (jB true))] [] [])) (by kernel_rfl) (WK (by kernel_rfl)) (ends (r := (jB true)) (by simp) (by kernel_rfl) (bres (by simp_all [inB]; done)) (by simp) (by simp))
      ·have hb6p := ne_of_beq_false hb6
       refine GO (tn 2 (kg (rletter_to c) trivial (tn 1 (kb hb1 (tn 1 (kb hb1 (tn 1 (kb hb1 (tn 1 (kb hb2 (tn 1 (kb hb2 (tn 1 (kb hb1 (kb hb2 (kb hb1 (tn 1 (kb hb3 (tn 1 (kb hb3 (tn 1 (kb hb3 (tn 1 (kb hb4 (tn 1 (kb hb4 (tn 1 (kb hb4 (tn 1 (kb hb5 (tn 1 (kb hb5 (tn 1 (kb hb5 (tn 1 (kb hb6 (tn 1 (kb hb6 (tn 1 (kb hb6 (tn 1 z))))))))))))))))))))))))))))))))))))))))) (by kernel_rfl) ?_
       exact LEAF .ret (S2 := (sx 29 [(2, (jB ((c : Int) == 58)))] [] [])) (by kernel_rfl) (WK (by kernel_rfl)) (ends (r := (jB ((c : Int) == 58))) (by simp) (by kernel_rfl) (bres (by simp_all [inB] <;> omega)) (by simp) (by simp))
  ·have hb2p := of_decide_eq_false hb2
   rcases Bool.eq_false_or_eq_true ((c : Int) == 45) with hb7 | hb7
   ·have hb7p := eq_of_beq hb7
    refine GO (tn 2 (kg (rletter_to c) trivial (tn 1 (kb hb1 (tn 1 (kb hb1 (tn 1 (kb hb1 (tn 1 (kb hb2 (kb hb2 (kb hb1 (kb hb2 (kb hb1 (tn 1 (kb ff (tn 1 (kb ff (tn 1 (kb ff (tn 1 (kb hb7 (kb hb7 (kb hb7 (tn 1 (kb tt (kb tt (kb tt (tn 1 (kb tt (kb tt (kb tt (tn 1 z))))))))))))))))))))))))))))))))) (by kernel_rfl) ?_
    exact LEAF .ret (S2 := (sx 29 [(2, (jB true))] [] [])) (by kernel_rfl) (WK (by kernel_rfl)) (ends (r := (jB true)) (by simp) (by kernel_rfl) (bres (by simp_all [inB]; done)) (by simp) (by simp))
   ·have hb7p := ne_of_beq_false hb7
    rcases Bool.eq_false_or_eq_true ((c : Int) == 95) with hb8 | hb8
    ·have hb8p := eq_of_beq hb8
     refine GO (tn 2 (kg (rletter_to c) trivial (tn 1 (kb hb1 (tn 1 (kb hb1 (tn 1 (kb hb1 (tn 1 (kb hb2 (kb hb2 (kb hb1 (kb hb2 (kb hb1 (tn 1 (kb ff (tn 1 (kb ff (tn 1 (kb ff (tn 1 (kb hb7 (tn 1 (kb hb7 (tn 1 (kb hb7 (tn 1 (kb hb8 (kb hb8 (kb hb8 (tn 1 (kb tt (kb tt (kb tt (tn 1 z))))))))))))))))))))))))))))))))))) (by kernel_rfl) ?_
     exact LEAF .ret (S2 := (sx 29 [(2, (jB true))] [] [])) (by kernel_rfl) (WK (by kernel_rfl)) (ends (r := (jB true)) (by simp) (by kernel_rfl) (bres (by simp_all [inB]; done)) (by simp) (by simp))
    ·have hb8p := ne_of_beq_false hb8
     rcases Bool.eq_false_or_eq_true ((c : Int) == 46) with hb9 | hb9
     ·have hb9p := eq_of_beq hb9
      refine GO (tn 2 (kg (rletter_to c) trivial (tn 1 (kb hb1 (tn 1 (kb hb1 (tn 1 (kb hb1 (tn 1 (kb hb2 (kb hb2 (kb hb1 (kb hb2 (kb hb1 (tn 1 (kb ff (tn 1 (kb ff (tn 1 (kb ff (tn 1 (kb hb7 (tn 1 (kb hb7 (tn 1 (kb hb7 (tn 1 (kb hb8 (tn 1 (kb hb8 (tn 1 (kb hb8 (tn 1 (kb hb9 (kb hb9 (kb hb9 (tn 1 z))))))))))))))))))))))))))))))))))))) (by kernel_rfl) ?_
      exact LEAF .ret (S2 := (sx 29 [(2, (jB true))] [] [])) (by kernel_rfl) (WK (by kernel_rfl)) (ends (r := (jB true)) (by simp) (by kernel_rfl) (bres (by simp_all [inB]; done)) (by simp) (by simp))
     ·have hb9p := ne_of_beq_false hb9
      refine GO (tn 2 (kg (rletter_to c) trivial (tn 1 (kb hb1 (tn 1 (kb hb1 (tn 1 (kb hb1 (tn 1 (kb hb2 (kb hb2 (kb hb1 (kb hb2 (kb hb1 (tn 1 (kb ff (tn 1 (kb ff (tn 1 (kb ff (tn 1 (kb hb7 (tn 1 (kb hb7 (tn 1 (kb hb7 (tn 1 (kb hb8 (tn 1 (kb hb8 (tn 1 (kb hb8 (tn 1 (kb hb9 (tn 1 (kb hb9 (tn 1 (kb hb9 (tn 1 z))))))))))))))))))))))))))))))))))))))) (by kernel_rfl) ?_
      exact LEAF .ret (S2 := (sx 29 [(2, (jB ((c : Int) == 58)))] [] [])) (by kernel_rfl) (WK (by kernel_rfl)) (ends (r := (jB ((c : Int) == 58))) (by simp) (by kernel_rfl) (bres (by simp_all [inB] <;> omega)) (by simp) (by simp))
set_option maxHeartbeats 2000000 in
theorem wordEnd_to (s : ByteArray) (k0 : Nat) (hs : s.size ≤ maxLen) : CallTo Tryz.prog 84 [(jS s), (jI ((k0 : Nat) : Int))] [] [] (.av (.val (.int .i64 ((scanE s (s.size - k0) k0 : Nat) : Int)))) [] [] := by
 unfold maxLen at hs
 refine CallTo_of_body (n := 18) Tryz.func84 rfl (by kernel_rfl) Tryz.ntmps84 (by simp) (by simp) (by simp) (by simp [OkSV, SV.keys, ABox.svs, PV.keys]) (by simp [OkSV, SV.keys, ABox.svs, PV.keys]) (by simp [OkSV, SV.keys, ABox.svs, PV.keys]) (by simp [OkSV, SV.keys, ABox.svs, PV.keys]) rfl rfl ?_
 refine W_eq (sx 18 [(0, (jS s)), (1, (jI ((k0 : Nat) : Int)))] [] []) (by kernel_rfl) ?_
 refine WN ?_
 refine GO (tn 1 z) (by kernel_rfl) ?_
 refine LP (I := fun N M S => ∃ k : Nat, (scanE s (s.size - k) k = scanE s (s.size - k0) k0) ∧ N = s.size - k ∧ M = () ∧ S = (sx 18 [(0, (jS s)), (1, (jI ((k : Nat) : Int)))] [] [])) (n := s.size - k0) (by kernel_rfl) ⟨k0, rfl, rfl, rfl, rfl⟩ (wtr (S' := (sx 18 [(0, (jS s)), (1, (jI ((k0 : Nat) : Int)))] [] [])) (WK (by kernel_rfl)) (weak_sx (show WkX _ _ _ from ⟨rfl, (by rfl), trivial⟩) (show WkBx _ _ from trivial) (show WkG _ _ _ from trivial))) ?_
 rintro N M S ⟨k, hE, rfl, rfl, rfl⟩
 rcases Bool.eq_false_or_eq_true (decide (((k : Nat) : Int) < ((ByteArray.size s : Nat) : Int))) with hb1 | hb1
 ·have hb1p := of_decide_eq_true hb1
  refine GO (tn 5 (kb hb1 (tn 1 (kb hb1 (tn 1 (kb hb1 (kp (ib s ((k : Nat) : Int) (by omega)) (kb hb1 (kg (inName_to ((byt s k : Nat) : Int)) trivial (kb hb1 z)))))))))) (by kernel_rfl) ?_
  rcases Bool.eq_false_or_eq_true (inB ((byt s k : Nat) : Int)) with hb2 | hb2
  ·refine GO (kb hb2 (tn 1 (kn (wrE (((k : Nat) : Int) + 1) ((k + 1 : Nat) : Int) (by omega)) (tn 1 z)))) (by kernel_rfl) ?_
   exact AG (m := s.size - (k + 1)) ⟨k + 1, by rw [← hE]; exact (scanE_step s k (by omega) (by assumption)).symm, rfl, rfl, rfl⟩ (wtr (S' := (sx 18 [(0, (jS s)), (1, (jI ((k + 1 : Nat) : Int)))] [] [])) (WK (by kernel_rfl)) (weak_sx (show WkX _ _ _ from ⟨rfl, (by rfl), trivial⟩) (show WkBx _ _ from trivial) (show WkG _ _ _ from trivial))) (by kernel_rfl) (by omega)
  ·refine GO (kb hb2 z) (by kernel_rfl) ?_
   refine OUT (tn 2 z) (by kernel_rfl) ?_
   exact LEAF .ret (S2 := (sx 18 [(4, (jI ((k : Nat) : Int)))] [] [])) (by kernel_rfl) (WK (by kernel_rfl)) (ends (r := (jI ((k : Nat) : Int))) (by simp) (by kernel_rfl) (by rw [← hE]; first | rw [scanE_stop s k (by omega)] | rw [scanE_no s k (by assumption)]) (by simp) (by simp))
 ·have hb1p := of_decide_eq_false hb1
  refine GO (tn 5 (kb hb1 (kb hb1 (kb hb1 (kb hb1 (kb hb1 (kb ff z))))))) (by kernel_rfl) ?_
  refine OUT (tn 2 z) (by kernel_rfl) ?_
  exact LEAF .ret (S2 := (sx 18 [(4, (jI ((k : Nat) : Int)))] [] [])) (by kernel_rfl) (WK (by kernel_rfl)) (ends (r := (jI ((k : Nat) : Int))) (by simp) (by kernel_rfl) (by rw [← hE]; first | rw [scanE_stop s k (by omega)] | rw [scanE_no s k (by assumption)]) (by simp) (by simp))
set_option maxHeartbeats 2000000 in
theorem word_to (s : ByteArray) (k0 : Nat) (hs : s.size ≤ maxLen) : CallTo Tryz.prog 35 [(jS s), (jI ((k0 : Nat) : Int))] [] [] (.av (.val (.int .i64 ((scanE s (s.size - k0) k0 : Nat) : Int)))) [] [] := by
 unfold maxLen at hs
 refine CallTo_of_body (n := 18) Tryz.func35 rfl (by kernel_rfl) Tryz.ntmps35 (by simp) (by simp) (by simp) (by simp [OkSV, SV.keys, ABox.svs, PV.keys]) (by simp [OkSV, SV.keys, ABox.svs, PV.keys]) (by simp [OkSV, SV.keys, ABox.svs, PV.keys]) (by simp [OkSV, SV.keys, ABox.svs, PV.keys]) rfl rfl ?_
 refine W_eq (sx 18 [(0, (jS s)), (1, (jI ((k0 : Nat) : Int)))] [] []) (by kernel_rfl) ?_
 refine WN ?_
 refine GO (tn 1 z) (by kernel_rfl) ?_
 refine LP (I := fun N M S => ∃ k : Nat, (scanE s (s.size - k) k = scanE s (s.size - k0) k0) ∧ N = s.size - k ∧ M = () ∧ S = (sx 18 [(0, (jS s)), (1, (jI ((k : Nat) : Int)))] [] [])) (n := s.size - k0) (by kernel_rfl) ⟨k0, rfl, rfl, rfl, rfl⟩ (wtr (S' := (sx 18 [(0, (jS s)), (1, (jI ((k0 : Nat) : Int)))] [] [])) (WK (by kernel_rfl)) (weak_sx (show WkX _ _ _ from ⟨rfl, (by rfl), trivial⟩) (show WkBx _ _ from trivial) (show WkG _ _ _ from trivial))) ?_
 rintro N M S ⟨k, hE, rfl, rfl, rfl⟩
 rcases Bool.eq_false_or_eq_true (decide (((k : Nat) : Int) < ((ByteArray.size s : Nat) : Int))) with hb1 | hb1
 ·have hb1p := of_decide_eq_true hb1
  refine GO (tn 5 (kb hb1 (tn 1 (kb hb1 (tn 1 (kb hb1 (kp (ib s ((k : Nat) : Int) (by omega)) (kb hb1 (kg (part_to ((byt s k : Nat) : Int)) trivial (kb hb1 z)))))))))) (by kernel_rfl) ?_
  rcases Bool.eq_false_or_eq_true (inB ((byt s k : Nat) : Int)) with hb2 | hb2
  ·refine GO (kb hb2 (tn 1 (kn (wrE (((k : Nat) : Int) + 1) ((k + 1 : Nat) : Int) (by omega)) (tn 1 z)))) (by kernel_rfl) ?_
   exact AG (m := s.size - (k + 1)) ⟨k + 1, by rw [← hE]; exact (scanE_step s k (by omega) (by assumption)).symm, rfl, rfl, rfl⟩ (wtr (S' := (sx 18 [(0, (jS s)), (1, (jI ((k + 1 : Nat) : Int)))] [] [])) (WK (by kernel_rfl)) (weak_sx (show WkX _ _ _ from ⟨rfl, (by rfl), trivial⟩) (show WkBx _ _ from trivial) (show WkG _ _ _ from trivial))) (by kernel_rfl) (by omega)
  ·refine GO (kb hb2 z) (by kernel_rfl) ?_
   refine OUT (tn 2 z) (by kernel_rfl) ?_
   exact LEAF .ret (S2 := (sx 18 [(4, (jI ((k : Nat) : Int)))] [] [])) (by kernel_rfl) (WK (by kernel_rfl)) (ends (r := (jI ((k : Nat) : Int))) (by simp) (by kernel_rfl) (by rw [← hE]; first | rw [scanE_stop s k (by omega)] | rw [scanE_no s k (by assumption)]) (by simp) (by simp))
 ·have hb1p := of_decide_eq_false hb1
  refine GO (tn 5 (kb hb1 (kb hb1 (kb hb1 (kb hb1 (kb hb1 (kb ff z))))))) (by kernel_rfl) ?_
  refine OUT (tn 2 z) (by kernel_rfl) ?_
  exact LEAF .ret (S2 := (sx 18 [(4, (jI ((k : Nat) : Int)))] [] [])) (by kernel_rfl) (WK (by kernel_rfl)) (ends (r := (jI ((k : Nat) : Int))) (by simp) (by kernel_rfl) (by rw [← hE]; first | rw [scanE_stop s k (by omega)] | rw [scanE_no s k (by assumption)]) (by simp) (by simp))
set_option maxHeartbeats 2000000 in
theorem Name_to (s : ByteArray) (hs : s.size ≤ maxLen) : CallTo Tryz.prog 60 [(jS s)] [] [] (.av (.val (.bool (nameB s)))) [] [] := by
 refine CallTo_of_body (n := 22) Tryz.func60 rfl (by kernel_rfl) Tryz.ntmps60 (by simp) (by simp) (by simp) (by simp [OkSV, SV.keys, ABox.svs, PV.keys]) (by simp [OkSV, SV.keys, ABox.svs, PV.keys]) (by simp [OkSV, SV.keys, ABox.svs, PV.keys]) (by simp [OkSV, SV.keys, ABox.svs, PV.keys]) rfl rfl ?_
 refine W_eq (sx 22 [(0, (jS s))] [] []) (by kernel_rfl) ?_
 refine WN ?_
 rcases Bool.eq_false_or_eq_true (((ByteArray.size s : Nat) : Int) == 0) with hb1 | hb1
 ·have hb1p := eq_of_beq hb1
  refine GO (tn 5 (kb hb1 (kb hb1 (kb hb1 (kb hb1 (tn 1 (kb tt (kb tt (kb tt (kb tt (kb tt (kb tt (tn 1 z))))))))))))) (by kernel_rfl) ?_
  exact LEAF .ret (S2 := (sx 22 [(2, (jB false))] [] [])) (by kernel_rfl) (WK (by kernel_rfl)) (ends (r := (jB false)) (by simp) (by kernel_rfl) (bres (by simp_all [nameB]; done)) (by simp) (by simp))
 ·have hb1p := ne_of_beq_false hb1
  rcases Bool.eq_false_or_eq_true (decide (((ByteArray.size s : Nat) : Int) > 60)) with hb2 | hb2
  ·have hb2p := of_decide_eq_true hb2
   refine GO (tn 5 (kb hb1 (tn 1 (kb hb1 (tn 1 (kb hb1 (tn 1 (kb hb1 (tn 1 (kb hb2 (kb hb2 (kb hb2 (kb hb2 (kb hb2 (kb tt (tn 1 z)))))))))))))))) (by kernel_rfl) ?_
   exact LEAF .ret (S2 := (sx 22 [(2, (jB false))] [] [])) (by kernel_rfl) (WK (by kernel_rfl)) (ends (r := (jB false)) (by simp) (by kernel_rfl) (bres (by simp [nameB]; omega)) (by simp) (by simp))
  ·have hb2p := of_decide_eq_false hb2
   refine GO (tn 5 (kb hb1 (tn 1 (kb hb1 (tn 1 (kb hb1 (tn 1 (kb hb1 (tn 1 (kb hb2 (tn 1 (kb hb2 (kp (ib s 0 (by omega)) (kb hb2 (kg (letter_to ((byt s 0 : Nat) : Int)) trivial (kb hb2 (tn 1 (kb hb2 z)))))))))))))))))) (by kernel_rfl) ?_
   rcases Bool.eq_false_or_eq_true (!letB ((byt s 0 : Nat) : Int)) with hb3 | hb3
   ·have hb3n : letB ((byt s 0 : Nat) : Int) = false := by simpa using hb3
    refine GO (kb hb3 (tn 1 z)) (by kernel_rfl) ?_
    exact LEAF .ret (S2 := (sx 22 [(2, (jB false))] [] [])) (by kernel_rfl) (WK (by kernel_rfl)) (ends (r := (jB false)) (by simp) (by kernel_rfl) (bres (by simp_all [nameB]; done)) (by simp) (by simp))
   ·have hb3n : letB ((byt s 0 : Nat) : Int) = true := by simpa using hb3
    refine GO (kb hb3 (tn 1 (kg (wordEnd_to s 0 (by assumption)) trivial (tn 4 z)))) (by kernel_rfl) ?_
    exact LEAF .ret (S2 := (sx 22 [(2, (jB (((scanE s ((s).size - 0) 0 : Nat) : Int) == ((ByteArray.size s : Nat) : Int))))] [] [])) (by kernel_rfl) (WK (by kernel_rfl)) (ends (r := (jB (((scanE s ((s).size - 0) 0 : Nat) : Int) == ((ByteArray.size s : Nat) : Int)))) (by simp) (by kernel_rfl) (bres (by exact nameB_last s (by omega) (by omega) (by assumption))) (by simp) (by simp))
set_option maxHeartbeats 2000000 in
theorem rName_to (s : ByteArray) (hs : s.size ≤ maxLen) : CallTo Tryz.prog 16 [(jS s)] [] [] (.av (.val (.bool (nameB s)))) [] [] := by
 refine CallTo_of_body (n := 23) Tryz.func16 rfl (by kernel_rfl) Tryz.ntmps16 (by simp) (by simp) (by simp) (by simp [OkSV, SV.keys, ABox.svs, PV.keys]) (by simp [OkSV, SV.keys, ABox.svs, PV.keys]) (by simp [OkSV, SV.keys, ABox.svs, PV.keys]) (by simp [OkSV, SV.keys, ABox.svs, PV.keys]) rfl rfl ?_
 refine W_eq (sx 23 [(0, (jS s))] [] []) (by kernel_rfl) ?_
 refine WN ?_
 rcases Bool.eq_false_or_eq_true (decide (((ByteArray.size s : Nat) : Int) ≥ 1)) with hb1 | hb1
 ·have hb1p := of_decide_eq_true hb1
  rcases Bool.eq_false_or_eq_true (decide (((ByteArray.size s : Nat) : Int) ≤ 60)) with hb2 | hb2
  ·have hb2p := of_decide_eq_true hb2
   rcases Bool.eq_false_or_eq_true (letB ((byt s 0 : Nat) : Int)) with hb3 | hb3
   ·refine GO (tn 5 (kb hb1 (tn 1 (kb hb1 (tn 1 (kb hb1 (tn 1 (kb hb1 (tn 1 (kb hb2 (tn 1 (kb hb2 (kp (ib s 0 (by omega)) (kb hb2 (kg (rletter_to ((byt s 0 : Nat) : Int)) trivial (kb hb2 (tn 1 (kb hb3 (tn 1 (kb hb3 (kg (word_to s 0 (by assumption)) trivial (kb hb3 (tn 1 (kb hb3 (tn 1 (kb hb3 (tn 1 (kb hb3 (tn 1 z))))))))))))))))))))))))))))) (by kernel_rfl) ?_
    exact LEAF .ret (S2 := (sx 23 [(2, (jB (((scanE s ((s).size - 0) 0 : Nat) : Int) == ((ByteArray.size s : Nat) : Int))))] [] [])) (by kernel_rfl) (WK (by kernel_rfl)) (ends (r := (jB (((scanE s ((s).size - 0) 0 : Nat) : Int) == ((ByteArray.size s : Nat) : Int)))) (by simp) (by kernel_rfl) (bres (by exact nameB_last s (by omega) (by omega) (by assumption))) (by simp) (by simp))
   ·refine GO (tn 5 (kb hb1 (tn 1 (kb hb1 (tn 1 (kb hb1 (tn 1 (kb hb1 (tn 1 (kb hb2 (tn 1 (kb hb2 (kp (ib s 0 (by omega)) (kb hb2 (kg (rletter_to ((byt s 0 : Nat) : Int)) trivial (kb hb2 (tn 1 (kb hb3 (kb hb3 (kb hb3 (kb hb3 (kb hb3 (kb hb3 (tn 1 z)))))))))))))))))))))))) (by kernel_rfl) ?_
    exact LEAF .ret (S2 := (sx 23 [(2, (jB false))] [] [])) (by kernel_rfl) (WK (by kernel_rfl)) (ends (r := (jB false)) (by simp) (by kernel_rfl) (bres (by simp_all [nameB]; done)) (by simp) (by simp))
  ·have hb2p := of_decide_eq_false hb2
   refine GO (tn 5 (kb hb1 (tn 1 (kb hb1 (tn 1 (kb hb1 (tn 1 (kb hb1 (tn 1 (kb hb2 (kb hb2 (kb hb2 (kb hb2 (tn 1 (kb ff (kb ff (kb ff (kb ff (kb ff (kb ff (tn 1 z))))))))))))))))))))) (by kernel_rfl) ?_
   exact LEAF .ret (S2 := (sx 23 [(2, (jB false))] [] [])) (by kernel_rfl) (WK (by kernel_rfl)) (ends (r := (jB false)) (by simp) (by kernel_rfl) (bres (by simp [nameB]; omega)) (by simp) (by simp))
 ·have hb1p := of_decide_eq_false hb1
  refine GO (tn 5 (kb hb1 (kb hb1 (kb hb1 (kb hb1 (tn 1 (kb ff (kb ff (kb ff (kb ff (tn 1 (kb ff (kb ff (kb ff (kb ff (kb ff (kb ff (tn 1 z)))))))))))))))))) (by kernel_rfl) ?_
  exact LEAF .ret (S2 := (sx 23 [(2, (jB false))] [] [])) (by kernel_rfl) (WK (by kernel_rfl)) (ends (r := (jB false)) (by simp) (by kernel_rfl) (bres (by simp [nameB]; omega)) (by simp) (by simp))
set_option maxHeartbeats 2000000 in
theorem special_to (s : ByteArray) : CallTo Tryz.prog 41 [(jS s)] [] [] (.av (.val (.bool (specB s)))) [] [] := by
 refine CallTo_of_body (n := 13) Tryz.func41 rfl (by kernel_rfl) Tryz.ntmps41 (by simp) (by simp) (by simp) (by simp [OkSV, SV.keys, ABox.svs, PV.keys]) (by simp [OkSV, SV.keys, ABox.svs, PV.keys]) (by simp [OkSV, SV.keys, ABox.svs, PV.keys]) (by simp [OkSV, SV.keys, ABox.svs, PV.keys]) rfl rfl ?_
 refine W_eq (sx 13 [(0, (jS s))] [] []) (by kernel_rfl) ?_
 refine WN ?_
 refine GO (tn 4 z) (by kernel_rfl) ?_
 rcases Bool.eq_false_or_eq_true (eqs s (⟨#[40]⟩)) with hb1 | hb1
 ·refine GO (kb hb1 (kb hb1 (tn 1 z))) (by kernel_rfl) ?_
  exact LEAF .ret (S2 := (sx 13 [(2, (jB true))] [] [])) (by kernel_rfl) (WK (by kernel_rfl)) (ends (r := (jB true)) (by simp) (by kernel_rfl) (bres (by simp_all [specB, kwB]; done)) (by simp) (by simp))
 ·refine GO (kb hb1 (tn 2 z)) (by kernel_rfl) ?_
  rcases Bool.eq_false_or_eq_true (eqs s (⟨#[41]⟩)) with hb2 | hb2
  ·refine GO (kb hb2 (tn 1 z)) (by kernel_rfl) ?_
   exact LEAF .ret (S2 := (sx 13 [(2, (jB true))] [] [])) (by kernel_rfl) (WK (by kernel_rfl)) (ends (r := (jB true)) (by simp) (by kernel_rfl) (bres (by simp_all [specB, kwB]; done)) (by simp) (by simp))
  ·refine GO (kb hb2 (tn 2 z)) (by kernel_rfl) ?_
   rcases Bool.eq_false_or_eq_true (eqs s (⟨#[111, 114]⟩)) with hb3 | hb3
   ·refine GO (kb hb3 (kb hb3 (tn 1 z))) (by kernel_rfl) ?_
    exact LEAF .ret (S2 := (sx 13 [(2, (jB true))] [] [])) (by kernel_rfl) (WK (by kernel_rfl)) (ends (r := (jB true)) (by simp) (by kernel_rfl) (bres (by simp_all [specB, kwB]; done)) (by simp) (by simp))
   ·refine GO (kb hb3 (tn 2 z)) (by kernel_rfl) ?_
    rcases Bool.eq_false_or_eq_true (eqs s (⟨#[97, 110, 100]⟩)) with hb4 | hb4
    ·refine GO (kb hb4 (kb hb4 (tn 1 z))) (by kernel_rfl) ?_
     exact LEAF .ret (S2 := (sx 13 [(2, (jB true))] [] [])) (by kernel_rfl) (WK (by kernel_rfl)) (ends (r := (jB true)) (by simp) (by kernel_rfl) (bres (by simp_all [specB, kwB]; done)) (by simp) (by simp))
    ·refine GO (kb hb4 (tn 2 z)) (by kernel_rfl) ?_
     rcases Bool.eq_false_or_eq_true (eqs s (⟨#[110, 111, 116]⟩)) with hb5 | hb5
     ·refine GO (kb hb5 (kb hb5 (tn 1 z))) (by kernel_rfl) ?_
      exact LEAF .ret (S2 := (sx 13 [(2, (jB true))] [] [])) (by kernel_rfl) (WK (by kernel_rfl)) (ends (r := (jB true)) (by simp) (by kernel_rfl) (bres (by simp_all [specB, kwB]; done)) (by simp) (by simp))
     ·refine GO (kb hb5 (tn 2 z)) (by kernel_rfl) ?_
      rcases Bool.eq_false_or_eq_true (eqs s (⟨#[116, 114, 117, 101]⟩)) with hb6 | hb6
      ·refine GO (kb hb6 (kb hb6 (tn 1 z))) (by kernel_rfl) ?_
       exact LEAF .ret (S2 := (sx 13 [(2, (jB true))] [] [])) (by kernel_rfl) (WK (by kernel_rfl)) (ends (r := (jB true)) (by simp) (by kernel_rfl) (bres (by simp_all [specB, kwB]; done)) (by simp) (by simp))
      ·refine GO (kb hb6 (tn 2 z)) (by kernel_rfl) ?_
       rcases Bool.eq_false_or_eq_true (eqs s (⟨#[102, 97, 108, 115, 101]⟩)) with hb7 | hb7
       ·refine GO (kb hb7 (tn 1 z)) (by kernel_rfl) ?_
        exact LEAF .ret (S2 := (sx 13 [(2, (jB true))] [] [])) (by kernel_rfl) (WK (by kernel_rfl)) (ends (r := (jB true)) (by simp) (by kernel_rfl) (bres (by simp_all [specB, kwB]; done)) (by simp) (by simp))
       ·refine GO (kb hb7 (tn 1 z)) (by kernel_rfl) ?_
        exact LEAF .ret (S2 := (sx 13 [(2, (jB false))] [] [])) (by kernel_rfl) (WK (by kernel_rfl)) (ends (r := (jB false)) (by simp) (by kernel_rfl) (bres (by simp_all [specB, kwB]; done)) (by simp) (by simp))
set_option maxHeartbeats 2000000 in
theorem keyword_to (s : ByteArray) : CallTo Tryz.prog 89 [(jS s)] [] [] (.av (.val (.bool (kwB s)))) [] [] := by
 refine CallTo_of_body (n := 21) Tryz.func89 rfl (by kernel_rfl) Tryz.ntmps89 (by simp) (by simp) (by simp) (by simp [OkSV, SV.keys, ABox.svs, PV.keys]) (by simp [OkSV, SV.keys, ABox.svs, PV.keys]) (by simp [OkSV, SV.keys, ABox.svs, PV.keys]) (by simp [OkSV, SV.keys, ABox.svs, PV.keys]) rfl rfl ?_
 refine W_eq (sx 21 [(0, (jS s))] [] []) (by kernel_rfl) ?_
 refine WN ?_
 rcases Bool.eq_false_or_eq_true (eqs s (⟨#[111, 114]⟩)) with hb1 | hb1
 ·refine GO (tn 4 (kb hb1 (kb hb1 (kb hb1 (tn 1 (kb tt (kb tt (kb tt (tn 1 (kb tt (kb tt (kb tt (tn 1 (kb tt (kb tt (kb tt (tn 1 z))))))))))))))))) (by kernel_rfl) ?_
  exact LEAF .ret (S2 := (sx 21 [(2, (jB true))] [] [])) (by kernel_rfl) (WK (by kernel_rfl)) (ends (r := (jB true)) (by simp) (by kernel_rfl) (bres (by simp_all [specB, kwB]; done)) (by simp) (by simp))
 ·rcases Bool.eq_false_or_eq_true (eqs s (⟨#[97, 110, 100]⟩)) with hb2 | hb2
  ·refine GO (tn 4 (kb hb1 (tn 1 (kb hb1 (tn 1 (kb hb1 (tn 1 (kb hb2 (kb hb2 (kb hb2 (tn 1 (kb tt (kb tt (kb tt (tn 1 (kb tt (kb tt (kb tt (tn 1 z))))))))))))))))))) (by kernel_rfl) ?_
   exact LEAF .ret (S2 := (sx 21 [(2, (jB true))] [] [])) (by kernel_rfl) (WK (by kernel_rfl)) (ends (r := (jB true)) (by simp) (by kernel_rfl) (bres (by simp_all [specB, kwB]; done)) (by simp) (by simp))
  ·rcases Bool.eq_false_or_eq_true (eqs s (⟨#[110, 111, 116]⟩)) with hb3 | hb3
   ·refine GO (tn 4 (kb hb1 (tn 1 (kb hb1 (tn 1 (kb hb1 (tn 1 (kb hb2 (tn 1 (kb hb2 (tn 1 (kb hb2 (tn 1 (kb hb3 (kb hb3 (kb hb3 (tn 1 (kb tt (kb tt (kb tt (tn 1 z))))))))))))))))))))) (by kernel_rfl) ?_
    exact LEAF .ret (S2 := (sx 21 [(2, (jB true))] [] [])) (by kernel_rfl) (WK (by kernel_rfl)) (ends (r := (jB true)) (by simp) (by kernel_rfl) (bres (by simp_all [specB, kwB]; done)) (by simp) (by simp))
   ·rcases Bool.eq_false_or_eq_true (eqs s (⟨#[116, 114, 117, 101]⟩)) with hb4 | hb4
    ·refine GO (tn 4 (kb hb1 (tn 1 (kb hb1 (tn 1 (kb hb1 (tn 1 (kb hb2 (tn 1 (kb hb2 (tn 1 (kb hb2 (tn 1 (kb hb3 (tn 1 (kb hb3 (tn 1 (kb hb3 (tn 1 (kb hb4 (kb hb4 (kb hb4 (tn 1 z))))))))))))))))))))))) (by kernel_rfl) ?_
     exact LEAF .ret (S2 := (sx 21 [(2, (jB true))] [] [])) (by kernel_rfl) (WK (by kernel_rfl)) (ends (r := (jB true)) (by simp) (by kernel_rfl) (bres (by simp_all [specB, kwB]; done)) (by simp) (by simp))
    ·refine GO (tn 4 (kb hb1 (tn 1 (kb hb1 (tn 1 (kb hb1 (tn 1 (kb hb2 (tn 1 (kb hb2 (tn 1 (kb hb2 (tn 1 (kb hb3 (tn 1 (kb hb3 (tn 1 (kb hb3 (tn 1 (kb hb4 (tn 1 (kb hb4 (tn 1 (kb hb4 (tn 1 z))))))))))))))))))))))))) (by kernel_rfl) ?_
     exact LEAF .ret (S2 := (sx 21 [(2, (jB (eqs s (⟨#[102, 97, 108, 115, 101]⟩))))] [] [])) (by kernel_rfl) (WK (by kernel_rfl)) (ends (r := (jB (eqs s (⟨#[102, 97, 108, 115, 101]⟩)))) (by simp) (by kernel_rfl) (bres (by simp_all [specB, kwB]; done)) (by simp) (by simp))
end Go.Proofs.YtdaglbjgdakmcaaGreat
namespace Go.Proofs.YtdaglbjgdakmcaaGreat
open Go Go.Eng
def chkA_L1 (a : DAttr) (v3 : Nat) (k0 : Nat → Int) : Nat → Nat → Int
 | 0, _ => default
 | n1 + 1, w4 => cond (decide (((w4 : Nat) : Int) < ((lenM aPair a.fPairs : Nat) : Int))) (cond (!nameB ((el a.fPairs w4).fKey)) 6 (cond (!lineC ((el a.fPairs w4).fValue)) 17 (cond (hasK ((List.drop 0 a.fPairs).take (w4 - 0)) ((el a.fPairs w4).fKey)) 7 (chkA_L1 a v3 k0 n1 (w4 + 1))))) (cond (cond (decide (((lenM strAV a.fClasses : Nat) : Int) > 32)) true (decide (((lenM aPair a.fPairs : Nat) : Int) > 32))) 3 0)
def chkA_L0 (a : DAttr) : Nat → Nat → Int
 | 0, _ => default
 | n0 + 1, v3 => cond (decide (((v3 : Nat) : Int) < ((lenM strAV a.fClasses : Nat) : Int))) (cond (!nameB (el a.fClasses v3)) 6 (cond (hasT ((List.drop 0 a.fClasses).take (v3 - 0)) (el a.fClasses v3)) 7 (chkA_L0 a n0 (v3 + 1)))) (chkA_L1 a v3 (chkA_L0 a n0) ((List.length a.fPairs - 0) + 1) 0)
def chkA (a : DAttr) : Int := cond (cond (!eqs a.fID (⟨#[]⟩)) (!nameB a.fID) false) 6 (chkA_L0 a ((List.length a.fClasses - 0) + 1) 0)
theorem chkA_to (a : DAttr) (ha : wAttr a ≤ 1073741824) : CallTo Tryz.prog 80 [(.av (cAttr a))] [] [] (jI (chkA a)) [] [] := by
 have hwa := wAttr_eq a
 have hw1 := wl_len (w := wStr) wStr_pos a.fClasses
 have hw2 := wl_len (w := wPair) wPair_pos a.fPairs
 simp only [wStr] at hwa
 refine BEG (fun r : Int => (jI r)) (chkA a) Tryz.func80 (by kernel_rfl) ?_
 refine UF (chkA.eq_1 ..) ?_
 refine GO (tn 6 (kj (!eqs a.fID (⟨#[]⟩)) (tn 2 (hc (fun h => by have j0 := h.2; have j0n := nott j0; have j0z := size_neqs_t j0; exact (rName_to a.fID (by unfold maxLen; omega))) (tn 1 z))) z z)) (by kernel_rfl) ?_
 refine CS (fun h1 => ?_) (fun h1 => ?_)
 ·obtain ⟨h1a, h1o⟩ := cond_ff h1
  have h1an := nott h1a
  have h1az := size_neqs_t h1a
  have h1on := nott h1o
  refine GO (kb h1 (tn 1 z)) (by kernel_rfl) ?_
  exact EN (by kernel_rfl)
 ·refine GO (kb h1 (tn 1 z)) (by kernel_rfl) ?_
  refine LP (fun N M S => ∃ v3 : Nat, (List.length a.fClasses - v3 < N) ∧ M = chkA_L0 a N v3 ∧ S = (sx 82 [(1, (.ptr 1 0)), (3, (jI ((v3 : Nat) : Int)))] [(1, (.cells 38 (sAttr a)))] [])) (by kernel_rfl) ⟨_, by omega, rfl, rfl⟩ (WK (by kernel_rfl)) ?_
  rintro n0 M S ⟨v3, hF0, rfl, rfl⟩
  obtain ⟨n0, rfl⟩ : ∃ k, n0 = k + 1 := ⟨n0 - 1, by omega⟩
  refine UF (chkA_L0.eq_2 ..) ?_
  refine GO (tn 5 z) (by kernel_rfl) ?_
  refine CSd (fun h2p h2 => ?_) (fun h2p h2 => ?_)
  ·have := lenM_eq strAV a.fClasses
   have hce := wl_el (w := wStr) (l := a.fClasses) (i := v3) (by omega)
   simp only [wStr] at hce
   refine GO (kb h2 (tn 3 (ke (el_strAV a.fClasses v3 (by omega)) (tn 1 (kc (rName_to (el a.fClasses v3) (by unfold maxLen; omega)) (tn 1 z)))))) (by kernel_rfl) ?_
   refine CS (fun h3 => ?_) (fun h3 => ?_)
   ·have h3n := nott h3
    refine GO (kb h3 (tn 1 z)) (by kernel_rfl) ?_
    refine OUT z (by kernel_rfl) ?_
    exact EN (by kernel_rfl)
   ·have h3n := notf h3
    refine GO (kb h3 z) (by kernel_rfl) ?_
    have d4 := (el_strAV a.fClasses v3 (by omega))
    have d5 := (show CallTo Tryz.prog 99 [(jL ((List.drop 0 (a.fClasses.map strAV)).take (v3 - 0))), (jS (el a.fClasses v3))] [] [] (jB (hasT ((List.drop 0 a.fClasses).take (v3 - 0)) (el a.fClasses v3))) [] [] from (by rw [show (((List.drop 0 (a.fClasses.map strAV)).take (v3 - 0)) : List AV) = ((List.drop 0 a.fClasses).take (v3 - 0)).map strAV from by simp [List.map_take, List.map_drop, strAV]]; exact (hasT_to ((List.drop 0 a.fClasses).take (v3 - 0)) (el a.fClasses v3) (by simp; omega))))
    refine DR3 (tn 3 (kp (show 0 ≤ (0 : Int) ∧ (0 : Int) ≤ ((v3 : Nat) : Int) ∧ ((v3 : Nat) : Int) ≤ ((lenM strAV a.fClasses : Nat) : Int) ∧ Uni 1 (a.fClasses.map strAV) from ⟨by first | omega | (simp only [lenM_eq, true_and]; omega), by first | omega | (simp only [lenM_eq, true_and]; omega), by first | omega | (simp only [lenM_eq, true_and]; omega), uni_strAV _⟩) (tn 3 (ko (eO d4) (kp d4 (tn 1 (ko (cO d5) (kp d5 (tn 1 z))))))))) (by kernel_rfl) (by kernel_rfl) (by kernel_rfl) ?_
    refine CS (fun h6 => ?_) (fun h6 => ?_)
    ·refine GO (kb h6 (tn 1 z)) (by kernel_rfl) ?_
     refine OUT z (by kernel_rfl) ?_
     exact EN (by kernel_rfl)
    ·refine GO (kb h6 (tn 1 (kn (wrE (((v3 : Nat) : Int) + 1) ((v3 + 1 : Nat) : Int) (by omega)) (tn 1 z)))) (by kernel_rfl) ?_
     exact AG ⟨_, by omega, rfl, rfl⟩ (WK (by kernel_rfl)) (by kernel_rfl) (Nat.lt_succ_self _)
  ·have := lenM_eq strAV a.fClasses
   refine GO (kb h2 z) (by kernel_rfl) ?_
   refine OUT (tn 1 z) (by kernel_rfl) ?_
   refine LP (fun N M S => ∃ w4 : Nat, (List.length a.fPairs - w4 < N) ∧ M = chkA_L1 a v3 (chkA_L0 a n0) N w4 ∧ S = (sx 82 [(1, (.ptr 1 0)), (4, (jI ((w4 : Nat) : Int)))] [(1, (.cells 38 (sAttr a)))] [])) (by kernel_rfl) ⟨_, by omega, rfl, rfl⟩ (WK (by kernel_rfl)) ?_
   rintro n1 M S ⟨w4, hF1, rfl, rfl⟩
   obtain ⟨n1, rfl⟩ : ∃ k, n1 = k + 1 := ⟨n1 - 1, by omega⟩
   refine UF (chkA_L1.eq_2 ..) ?_
   refine GO (tn 5 z) (by kernel_rfl) ?_
   refine CSd (fun h7p h7 => ?_) (fun h7p h7 => ?_)
   ·have := lenM_eq aPair a.fPairs
    have hce := wl_el (w := wPair) (l := a.fPairs) (i := w4) (by omega)
    simp only [wPair, wStr] at hce
    refine GO (kb h7 (tn 3 (ke (el_aPair a.fPairs w4 (by omega)) (tn 2 (kc (rName_to ((el a.fPairs w4).fKey) (by unfold maxLen; omega)) (tn 1 z)))))) (by kernel_rfl) ?_
    refine CS (fun h8 => ?_) (fun h8 => ?_)
    ·have h8n := nott h8
     refine GO (kb h8 (tn 1 z)) (by kernel_rfl) ?_
     refine OUT z (by kernel_rfl) ?_
     exact EN (by kernel_rfl)
    ·have h8n := notf h8
     refine GO (kb h8 (tn 3 (ke (el_aPair a.fPairs w4 (by omega)) (tn 2 (kc (lineC_to ((el a.fPairs w4).fValue) (by omega)) (tn 1 z)))))) (by kernel_rfl) ?_
     refine CS (fun h9 => ?_) (fun h9 => ?_)
     ·have h9n := nott h9
      refine GO (kb h9 (tn 1 z)) (by kernel_rfl) ?_
      refine OUT z (by kernel_rfl) ?_
      exact EN (by kernel_rfl)
     ·have h9n := notf h9
      refine GO (kb h9 z) (by kernel_rfl) ?_
      have d10 := (el_aPair a.fPairs w4 (by omega))
      have d11 := (show CallTo Tryz.prog 101 [(jL ((List.drop 0 (a.fPairs.map aPair)).take (w4 - 0))), (jS ((el a.fPairs w4).fKey))] [] [] (jB (hasK ((List.drop 0 a.fPairs).take (w4 - 0)) ((el a.fPairs w4).fKey))) [] [] from (by rw [show (((List.drop 0 (a.fPairs.map aPair)).take (w4 - 0)) : List AV) = ((List.drop 0 a.fPairs).take (w4 - 0)).map aPair from by simp [List.map_take, List.map_drop, aPair_eq]]; exact (hasK_to ((List.drop 0 a.fPairs).take (w4 - 0)) ((el a.fPairs w4).fKey) (by simp; omega))))
      refine DR3 (tn 3 (kp (show 0 ≤ (0 : Int) ∧ (0 : Int) ≤ ((w4 : Nat) : Int) ∧ ((w4 : Nat) : Int) ≤ ((lenM aPair a.fPairs : Nat) : Int) ∧ Uni 2 (a.fPairs.map aPair) from ⟨by first | omega | (simp only [lenM_eq, true_and]; omega), by first | omega | (simp only [lenM_eq, true_and]; omega), by first | omega | (simp only [lenM_eq, true_and]; omega), uni_aPair _⟩) (tn 3 (ko (eO d10) (kp d10 (tn 2 (ko (cO d11) (kp d11 (tn 1 z))))))))) (by kernel_rfl) (by kernel_rfl) (by kernel_rfl) ?_
      refine CS (fun h12 => ?_) (fun h12 => ?_)
      ·refine GO (kb h12 (tn 1 z)) (by kernel_rfl) ?_
       refine OUT z (by kernel_rfl) ?_
       exact EN (by kernel_rfl)
      ·refine GO (kb h12 (tn 1 (kn (wrE (((w4 : Nat) : Int) + 1) ((w4 + 1 : Nat) : Int) (by omega)) (tn 1 z)))) (by kernel_rfl) ?_
       exact AG ⟨_, by omega, rfl, rfl⟩ (WK (by kernel_rfl)) (by kernel_rfl) (Nat.lt_succ_self _)
   ·have := lenM_eq aPair a.fPairs
    refine GO (kb h7 z) (by kernel_rfl) ?_
    refine OUT (tn 5 (kj (decide (((lenM strAV a.fClasses : Nat) : Int) > 32)) z (tn 4 z) z)) (by kernel_rfl) ?_
    refine CS (fun h13 => ?_) (fun h13 => ?_)
    ·have := lenM_eq strAV a.fClasses
     have := lenM_eq aPair a.fPairs
     refine GO (kb h13 (tn 1 z)) (by kernel_rfl) ?_
     exact EN (by kernel_rfl)
    ·have := lenM_eq strAV a.fClasses
     have := lenM_eq aPair a.fPairs
     obtain ⟨h13a, h13o⟩ := cond_tt h13
     have := lenM_eq strAV a.fClasses
     have h13ap := of_decide_eq_false h13a
     have := lenM_eq aPair a.fPairs
     have h13op := of_decide_eq_false h13o
     refine GO (kb h13 (tn 1 z)) (by kernel_rfl) ?_
     exact EN (by kernel_rfl)
end Go.Proofs.YtdaglbjgdakmcaaGreat
namespace Go.Proofs.YtdaglbjgdakmcaaGreat
open Go Go.Eng
def inlF (x : DInline) : Bool := cond (cond (cond (cond (cond (cond (cond (cond (decide ((x.fKind : Int) ≥ 1)) (decide ((x.fKind : Int) ≤ 16)) false) (cond (inL x.fKind ([1, 4, 5, 9, 10, 12, 14, 15])) true (eqs x.fText (⟨#[]⟩))) false) (cond (inL x.fKind ([9, 10, 16])) true (eqs x.fDest (⟨#[]⟩))) false) (cond (inL x.fKind ([9, 10, 14])) true (eqs x.fTitle (⟨#[]⟩))) false) (cond (inL x.fKind ([10, 11])) true (noAttr x.fAttr)) false) (cond (inL x.fKind ([6, 7, 8, 9, 10, 11])) true (((lenM aInline x.fKids : Nat) : Int) == 0)) false) (cond ((x.fKind : Int) == 15) true (((lenM strAV x.fArgs : Nat) : Int) == 0)) false) (cond ((x.fKind : Int) == 13) true (((lenM aCited x.fCites : Nat) : Int) == 0)) false
theorem inlF_to (x : DInline) : CallTo Tryz.prog 123 [(.av (cInline x))] [] [] (jB (inlF x)) [] [] := by
 refine BEG (fun r : Bool => (jB r)) (inlF x) Tryz.func123 (by kernel_rfl) ?_
 refine UF (inlF.eq_1 ..) ?_
 refine GO (tn 4 (kp (show Uni 1 [(vI 1), (vI 4), (vI 5), (vI 9), (vI 10), (vI 12), (vI 14), (vI 15)] from (by simp [Uni, AV.cells, AV.isTup])) (kc (inL_to x.fKind ([1, 4, 5, 9, 10, 12, 14, 15]) (by decide)) (tn 3 (kp (show Uni 1 [(vI 9), (vI 10), (vI 16)] from (by simp [Uni, AV.cells, AV.isTup])) (kc (inL_to x.fKind ([9, 10, 16]) (by decide)) (tn 3 (kp (show Uni 1 [(vI 9), (vI 10), (vI 14)] from (by simp [Uni, AV.cells, AV.isTup])) (kc (inL_to x.fKind ([9, 10, 14]) (by decide)) (tn 3 (kp (show Uni 1 [(vI 10), (vI 11)] from (by simp [Uni, AV.cells, AV.isTup])) (kc (inL_to x.fKind ([10, 11]) (by decide)) (tn 3 (kp (show Uni 1 [(vI 6), (vI 7), (vI 8), (vI 9), (vI 10), (vI 11)] from (by simp [Uni, AV.cells, AV.isTup])) (kc (inL_to x.fKind ([6, 7, 8, 9, 10, 11]) (by decide)) (tn 5 (kj (decide ((x.fKind : Int) ≥ 1)) (tn 3 z) z (tn 1 (kj (cond (decide ((x.fKind : Int) ≥ 1)) (decide ((x.fKind : Int) ≤ 16)) false) (tn 2 (kj (inL x.fKind ([1, 4, 5, 9, 10, 12, 14, 15])) z (tn 3 z) z)) z (tn 1 (kj (cond (cond (decide ((x.fKind : Int) ≥ 1)) (decide ((x.fKind : Int) ≤ 16)) false) (cond (inL x.fKind ([1, 4, 5, 9, 10, 12, 14, 15])) true (eqs x.fText (⟨#[]⟩))) false) (tn 2 (kj (inL x.fKind ([9, 10, 16])) z (tn 3 z) z)) z (tn 1 (kj (cond (cond (cond (decide ((x.fKind : Int) ≥ 1)) (decide ((x.fKind : Int) ≤ 16)) false) (cond (inL x.fKind ([1, 4, 5, 9, 10, 12, 14, 15])) true (eqs x.fText (⟨#[]⟩))) false) (cond (inL x.fKind ([9, 10, 16])) true (eqs x.fDest (⟨#[]⟩))) false) (tn 2 (kj (inL x.fKind ([9, 10, 14])) z (tn 3 z) z)) z (tn 1 (kj (cond (cond (cond (cond (decide ((x.fKind : Int) ≥ 1)) (decide ((x.fKind : Int) ≤ 16)) false) (cond (inL x.fKind ([1, 4, 5, 9, 10, 12, 14, 15])) true (eqs x.fText (⟨#[]⟩))) false) (cond (inL x.fKind ([9, 10, 16])) true (eqs x.fDest (⟨#[]⟩))) false) (cond (inL x.fKind ([9, 10, 14])) true (eqs x.fTitle (⟨#[]⟩))) false) (tn 2 (kj (inL x.fKind ([10, 11])) z (tn 2 (kc (noAttr_to x.fAttr) z)) z)) z (tn 1 (kj (cond (cond (cond (cond (cond (decide ((x.fKind : Int) ≥ 1)) (decide ((x.fKind : Int) ≤ 16)) false) (cond (inL x.fKind ([1, 4, 5, 9, 10, 12, 14, 15])) true (eqs x.fText (⟨#[]⟩))) false) (cond (inL x.fKind ([9, 10, 16])) true (eqs x.fDest (⟨#[]⟩))) false) (cond (inL x.fKind ([9, 10, 14])) true (eqs x.fTitle (⟨#[]⟩))) false) (cond (inL x.fKind ([10, 11])) true (noAttr x.fAttr)) false) (tn 2 (kj (inL x.fKind ([6, 7, 8, 9, 10, 11])) z (tn 4 z) z)) z (tn 1 (kj (cond (cond (cond (cond (cond (cond (decide ((x.fKind : Int) ≥ 1)) (decide ((x.fKind : Int) ≤ 16)) false) (cond (inL x.fKind ([1, 4, 5, 9, 10, 12, 14, 15])) true (eqs x.fText (⟨#[]⟩))) false) (cond (inL x.fKind ([9, 10, 16])) true (eqs x.fDest (⟨#[]⟩))) false) (cond (inL x.fKind ([9, 10, 14])) true (eqs x.fTitle (⟨#[]⟩))) false) (cond (inL x.fKind ([10, 11])) true (noAttr x.fAttr)) false) (cond (inL x.fKind ([6, 7, 8, 9, 10, 11])) true (((lenM aInline x.fKids : Nat) : Int) == 0)) false) (tn 4 (kj ((x.fKind : Int) == 15) z (tn 4 z) z)) z (tn 1 (kj (cond (cond (cond (cond (cond (cond (cond (decide ((x.fKind : Int) ≥ 1)) (decide ((x.fKind : Int) ≤ 16)) false) (cond (inL x.fKind ([1, 4, 5, 9, 10, 12, 14, 15])) true (eqs x.fText (⟨#[]⟩))) false) (cond (inL x.fKind ([9, 10, 16])) true (eqs x.fDest (⟨#[]⟩))) false) (cond (inL x.fKind ([9, 10, 14])) true (eqs x.fTitle (⟨#[]⟩))) false) (cond (inL x.fKind ([10, 11])) true (noAttr x.fAttr)) false) (cond (inL x.fKind ([6, 7, 8, 9, 10, 11])) true (((lenM aInline x.fKids : Nat) : Int) == 0)) false) (cond ((x.fKind : Int) == 15) true (((lenM strAV x.fArgs : Nat) : Int) == 0)) false) (tn 4 (kj ((x.fKind : Int) == 13) z (tn 4 z) z)) z (tn 1 z)))))))))))))))))))))))))))))))) (by kernel_rfl) ?_
 exact EN (by kernel_rfl)
def blkF (b : DBlock) : Bool := cond (cond (cond (cond (cond (cond (cond (cond (decide ((b.fKind : Int) ≥ 1)) (decide ((b.fKind : Int) ≤ 15)) false) (cond (inL b.fKind ([2, 8])) true ((b.fLevel : Int) == 0)) false) (cond (inL b.fKind ([3, 10, 13, 14, 15])) true (eqs b.fInfo (⟨#[]⟩))) false) (cond (inL b.fKind ([3, 4])) true (eqs b.fText (⟨#[]⟩))) false) (cond ((b.fKind : Int) == 15) true (cond (eqs b.fDest (⟨#[]⟩)) (eqs b.fTitle (⟨#[]⟩)) false)) false) (cond (inL b.fKind ([2, 4, 13])) true (noAttr b.fAttr)) false) (cond (inL b.fKind ([1, 2, 12])) true (((lenM aInline b.fLine : Nat) : Int) == 0)) false) (cond (inL b.fKind ([6, 7, 8, 9, 10, 11, 13, 14])) true (((lenM aBlock b.fKids : Nat) : Int) == 0)) false
theorem blkF_to (b : DBlock) : CallTo Tryz.prog 57 [(.av (cBlock b))] [] [] (jB (blkF b)) [] [] := by
 refine BEG (fun r : Bool => (jB r)) (blkF b) Tryz.func57 (by kernel_rfl) ?_
 refine UF (blkF.eq_1 ..) ?_
 refine GO (tn 4 (kp (show Uni 1 [(vI 2), (vI 8)] from (by simp [Uni, AV.cells, AV.isTup])) (kc (inL_to b.fKind ([2, 8]) (by decide)) (tn 3 (kp (show Uni 1 [(vI 3), (vI 10), (vI 13), (vI 14), (vI 15)] from (by simp [Uni, AV.cells, AV.isTup])) (kc (inL_to b.fKind ([3, 10, 13, 14, 15]) (by decide)) (tn 3 (kp (show Uni 1 [(vI 3), (vI 4)] from (by simp [Uni, AV.cells, AV.isTup])) (kc (inL_to b.fKind ([3, 4]) (by decide)) (tn 3 (kp (show Uni 1 [(vI 2), (vI 4), (vI 13)] from (by simp [Uni, AV.cells, AV.isTup])) (kc (inL_to b.fKind ([2, 4, 13]) (by decide)) (tn 3 (kp (show Uni 1 [(vI 1), (vI 2), (vI 12)] from (by simp [Uni, AV.cells, AV.isTup])) (kc (inL_to b.fKind ([1, 2, 12]) (by decide)) (tn 3 (kp (show Uni 1 [(vI 6), (vI 7), (vI 8), (vI 9), (vI 10), (vI 11), (vI 13), (vI 14)] from (by simp [Uni, AV.cells, AV.isTup])) (kc (inL_to b.fKind ([6, 7, 8, 9, 10, 11, 13, 14]) (by decide)) (tn 5 (kj (decide ((b.fKind : Int) ≥ 1)) (tn 3 z) z (tn 1 (kj (cond (decide ((b.fKind : Int) ≥ 1)) (decide ((b.fKind : Int) ≤ 15)) false) (tn 2 (kj (inL b.fKind ([2, 8])) z (tn 3 z) z)) z (tn 1 (kj (cond (cond (decide ((b.fKind : Int) ≥ 1)) (decide ((b.fKind : Int) ≤ 15)) false) (cond (inL b.fKind ([2, 8])) true ((b.fLevel : Int) == 0)) false) (tn 2 (kj (inL b.fKind ([3, 10, 13, 14, 15])) z (tn 3 z) z)) z (tn 1 (kj (cond (cond (cond (decide ((b.fKind : Int) ≥ 1)) (decide ((b.fKind : Int) ≤ 15)) false) (cond (inL b.fKind ([2, 8])) true ((b.fLevel : Int) == 0)) false) (cond (inL b.fKind ([3, 10, 13, 14, 15])) true (eqs b.fInfo (⟨#[]⟩))) false) (tn 2 (kj (inL b.fKind ([3, 4])) z (tn 3 z) z)) z (tn 1 (kj (cond (cond (cond (cond (decide ((b.fKind : Int) ≥ 1)) (decide ((b.fKind : Int) ≤ 15)) false) (cond (inL b.fKind ([2, 8])) true ((b.fLevel : Int) == 0)) false) (cond (inL b.fKind ([3, 10, 13, 14, 15])) true (eqs b.fInfo (⟨#[]⟩))) false) (cond (inL b.fKind ([3, 4])) true (eqs b.fText (⟨#[]⟩))) false) (tn 4 (kj ((b.fKind : Int) == 15) z (tn 4 (kj (eqs b.fDest (⟨#[]⟩)) (tn 3 z) z z)) z)) z (tn 1 (kj (cond (cond (cond (cond (cond (decide ((b.fKind : Int) ≥ 1)) (decide ((b.fKind : Int) ≤ 15)) false) (cond (inL b.fKind ([2, 8])) true ((b.fLevel : Int) == 0)) false) (cond (inL b.fKind ([3, 10, 13, 14, 15])) true (eqs b.fInfo (⟨#[]⟩))) false) (cond (inL b.fKind ([3, 4])) true (eqs b.fText (⟨#[]⟩))) false) (cond ((b.fKind : Int) == 15) true (cond (eqs b.fDest (⟨#[]⟩)) (eqs b.fTitle (⟨#[]⟩)) false)) false) (tn 2 (kj (inL b.fKind ([2, 4, 13])) z (tn 2 (kc (noAttr_to b.fAttr) z)) z)) z (tn 1 (kj (cond (cond (cond (cond (cond (cond (decide ((b.fKind : Int) ≥ 1)) (decide ((b.fKind : Int) ≤ 15)) false) (cond (inL b.fKind ([2, 8])) true ((b.fLevel : Int) == 0)) false) (cond (inL b.fKind ([3, 10, 13, 14, 15])) true (eqs b.fInfo (⟨#[]⟩))) false) (cond (inL b.fKind ([3, 4])) true (eqs b.fText (⟨#[]⟩))) false) (cond ((b.fKind : Int) == 15) true (cond (eqs b.fDest (⟨#[]⟩)) (eqs b.fTitle (⟨#[]⟩)) false)) false) (cond (inL b.fKind ([2, 4, 13])) true (noAttr b.fAttr)) false) (tn 2 (kj (inL b.fKind ([1, 2, 12])) z (tn 4 z) z)) z (tn 1 (kj (cond (cond (cond (cond (cond (cond (cond (decide ((b.fKind : Int) ≥ 1)) (decide ((b.fKind : Int) ≤ 15)) false) (cond (inL b.fKind ([2, 8])) true ((b.fLevel : Int) == 0)) false) (cond (inL b.fKind ([3, 10, 13, 14, 15])) true (eqs b.fInfo (⟨#[]⟩))) false) (cond (inL b.fKind ([3, 4])) true (eqs b.fText (⟨#[]⟩))) false) (cond ((b.fKind : Int) == 15) true (cond (eqs b.fDest (⟨#[]⟩)) (eqs b.fTitle (⟨#[]⟩)) false)) false) (cond (inL b.fKind ([2, 4, 13])) true (noAttr b.fAttr)) false) (cond (inL b.fKind ([1, 2, 12])) true (((lenM aInline b.fLine : Nat) : Int) == 0)) false) (tn 2 (kj (inL b.fKind ([6, 7, 8, 9, 10, 11, 13, 14])) z (tn 4 z) z)) z (tn 1 z))))))))))))))))))))))))))))))))))) (by kernel_rfl) ?_
 exact EN (by kernel_rfl)
end Go.Proofs.YtdaglbjgdakmcaaGreat
namespace Go.Proofs.YtdaglbjgdakmcaaGreat
open Go Go.Eng
def citesE_L0 (l : List DCited) : Nat → Nat → Int
 | 0, _ => default
 | n0 + 1, v3 => cond (decide (((v3 : Nat) : Int) < ((lenM aCited l : Nat) : Int))) (cond (!nameB ((el l v3).fKey)) 6 (cond (cond (cond (cond (cond (cond (!lineB ((el l v3).fPrefix)) true (!trimB ((el l v3).fPrefix))) true (hasB ((el l v3).fPrefix) (⟨#[91, 93, 59, 64, 123, 36, 96]⟩))) true (!lineB ((el l v3).fSuffix))) true (!trimB ((el l v3).fSuffix))) true (hasB ((el l v3).fSuffix) (⟨#[91, 93, 59, 64, 123, 36, 96]⟩))) 17 (citesE_L0 l n0 (v3 + 1)))) 0
def citesE (l : List DCited) : Int := cond (((lenM aCited l : Nat) : Int) == 0) 8 (citesE_L0 l ((List.length l - 0) + 1) 0)
theorem citesE_to (l : List DCited) (hl : wl wCited l ≤ 1073741824) : CallTo Tryz.prog 126 [(jL (l.map aCited))] [] [] (jI (citesE l)) [] [] := by
 have hw_0 := wl_len (w := wCited) wCited_pos l
 refine BEG (fun r : Int => (jI r)) (citesE l) Tryz.func126 (by kernel_rfl) ?_
 refine UF (citesE.eq_1 ..) ?_
 refine GO (tn 4 z) (by kernel_rfl) ?_
 refine CSe (fun h1p h1 => ?_) (fun h1p h1 => ?_)
 ·have := lenM_eq aCited l
  refine GO (kb h1 (tn 1 z)) (by kernel_rfl) ?_
  exact EN (by kernel_rfl)
 ·have := lenM_eq aCited l
  refine GO (kb h1 (tn 1 z)) (by kernel_rfl) ?_
  refine LP (fun N M S => ∃ v3 : Nat, (List.length l - v3 < N) ∧ M = citesE_L0 l N v3 ∧ S = (sx 54 [(0, (jL (l.map aCited))), (3, (jI ((v3 : Nat) : Int)))] [] [])) (by kernel_rfl) ⟨_, by omega, rfl, rfl⟩ (WK (by kernel_rfl)) ?_
  rintro n0 M S ⟨v3, hF0, rfl, rfl⟩
  obtain ⟨n0, rfl⟩ : ∃ k, n0 = k + 1 := ⟨n0 - 1, by omega⟩
  refine UF (citesE_L0.eq_2 ..) ?_
  refine GO (tn 4 z) (by kernel_rfl) ?_
  refine CSd (fun h2p h2 => ?_) (fun h2p h2 => ?_)
  ·have := lenM_eq aCited l
   have hce := wl_el (w := wCited) (l := l) (i := v3) (by omega)
   simp only [wCited, wStr] at hce
   refine GO (kb h2 (tn 2 (ke (el_aCited l v3 (by omega)) (tn 5 (kc (rName_to ((el l v3).fKey) (by unfold maxLen; omega)) (tn 1 z)))))) (by kernel_rfl) ?_
   refine CS (fun h3 => ?_) (fun h3 => ?_)
   ·have h3n := nott h3
    refine GO (kb h3 (tn 1 z)) (by kernel_rfl) ?_
    refine OUT z (by kernel_rfl) ?_
    exact EN (by kernel_rfl)
   ·have h3n := notf h3
    refine GO (kb h3 (tn 2 (kc (lineB_to ((el l v3).fPrefix) (by omega)) (tn 2 (kj (!lineB ((el l v3).fPrefix)) z (tn 2 (hc (fun h => by have j0 := h.2; have j0n := notf j0; exact (trimB_to ((el l v3).fPrefix) (by omega))) (tn 1 z))) (tn 1 (kj (cond (!lineB ((el l v3).fPrefix)) true (!trimB ((el l v3).fPrefix))) z (tn 2 (hc (fun h => by have j0 := h.2; obtain ⟨j0a, j0o⟩ := cond_tt j0; have j0an := notf j0a; have j0on := notf j0o; exact (hasB_to ((el l v3).fPrefix) (⟨#[91, 93, 59, 64, 123, 36, 96]⟩) (by omega) (by decide))) z)) (tn 1 (kj (cond (cond (!lineB ((el l v3).fPrefix)) true (!trimB ((el l v3).fPrefix))) true (hasB ((el l v3).fPrefix) (⟨#[91, 93, 59, 64, 123, 36, 96]⟩))) z (tn 2 (hc (fun h => by have j0 := h.2; obtain ⟨j0a, j0o⟩ := cond_tt j0; obtain ⟨j0aa, j0ao⟩ := cond_tt j0a; have j0aan := notf j0aa; have j0aon := notf j0ao; exact (lineB_to ((el l v3).fSuffix) (by omega))) (tn 1 z))) (tn 1 (kj (cond (cond (cond (!lineB ((el l v3).fPrefix)) true (!trimB ((el l v3).fPrefix))) true (hasB ((el l v3).fPrefix) (⟨#[91, 93, 59, 64, 123, 36, 96]⟩))) true (!lineB ((el l v3).fSuffix))) z (tn 2 (hc (fun h => by have j0 := h.2; obtain ⟨j0a, j0o⟩ := cond_tt j0; obtain ⟨j0aa, j0ao⟩ := cond_tt j0a; obtain ⟨j0aaa, j0aao⟩ := cond_tt j0aa; have j0aaan := notf j0aaa; have j0aaon := notf j0aao; have j0on := notf j0o; exact (trimB_to ((el l v3).fSuffix) (by omega))) (tn 1 z))) (tn 1 (kj (cond (cond (cond (cond (!lineB ((el l v3).fPrefix)) true (!trimB ((el l v3).fPrefix))) true (hasB ((el l v3).fPrefix) (⟨#[91, 93, 59, 64, 123, 36, 96]⟩))) true (!lineB ((el l v3).fSuffix))) true (!trimB ((el l v3).fSuffix))) z (tn 2 (hc (fun h => by have j0 := h.2; obtain ⟨j0a, j0o⟩ := cond_tt j0; obtain ⟨j0aa, j0ao⟩ := cond_tt j0a; obtain ⟨j0aaa, j0aao⟩ := cond_tt j0aa; obtain ⟨j0aaaa, j0aaao⟩ := cond_tt j0aaa; have j0aaaan := notf j0aaaa; have j0aaaon := notf j0aaao; have j0aon := notf j0ao; have j0on := notf j0o; exact (hasB_to ((el l v3).fSuffix) (⟨#[91, 93, 59, 64, 123, 36, 96]⟩) (by omega) (by decide))) z)) z))))))))))))) (by kernel_rfl) ?_
    refine CS (fun h4 => ?_) (fun h4 => ?_)
    ·refine GO (kb h4 (tn 1 z)) (by kernel_rfl) ?_
     refine OUT z (by kernel_rfl) ?_
     exact EN (by kernel_rfl)
    ·obtain ⟨h4a, h4o⟩ := cond_tt h4
     obtain ⟨h4aa, h4ao⟩ := cond_tt h4a
     obtain ⟨h4aaa, h4aao⟩ := cond_tt h4aa
     obtain ⟨h4aaaa, h4aaao⟩ := cond_tt h4aaa
     obtain ⟨h4aaaaa, h4aaaao⟩ := cond_tt h4aaaa
     have h4aaaaan := notf h4aaaaa
     have h4aaaaon := notf h4aaaao
     have h4aaon := notf h4aao
     have h4aon := notf h4ao
     refine GO (kb h4 (tn 1 (kn (wrE (((v3 : Nat) : Int) + 1) ((v3 + 1 : Nat) : Int) (by omega)) (tn 1 z)))) (by kernel_rfl) ?_
     exact AG ⟨_, by omega, rfl, rfl⟩ (WK (by kernel_rfl)) (by kernel_rfl) (Nat.lt_succ_self _)
  ·have := lenM_eq aCited l
   refine GO (kb h2 z) (by kernel_rfl) ?_
   refine OUT (tn 1 z) (by kernel_rfl) ?_
   exact EN (by kernel_rfl)
def namedE_L0 (x : DInline) : Nat → Nat → Int
 | 0, _ => default
 | n0 + 1, v3 => cond (decide (((v3 : Nat) : Int) < ((lenM strAV x.fArgs : Nat) : Int))) (cond (cond (!lineB (el x.fArgs v3)) true (hasB (el x.fArgs v3) (⟨#[124, 123, 125]⟩))) 17 (namedE_L0 x n0 (v3 + 1))) 0
def namedE (x : DInline) : Int := cond (!nameB x.fText) 6 (cond (cond (cond ((x.fKind : Int) == 14) (!eqs x.fTitle (⟨#[]⟩)) false) (!eqs x.fTitle (⟨#[112, 97, 103, 101]⟩)) false) 5 (cond (decide (((lenM strAV x.fArgs : Nat) : Int) > 8)) 3 (namedE_L0 x ((List.length x.fArgs - 0) + 1) 0)))
theorem namedE_to (x : DInline) (hx : wInline x ≤ 1073741824) : CallTo Tryz.prog 125 [(.av (cInline x))] [] [] (jI (namedE x)) [] [] := by
 have hwx := wInline_eq x
 simp only [wStr, w1] at hwx
 have hw_0 := wl_len (w := wStr) wStr_pos x.fArgs
 refine BEG (fun r : Int => (jI r)) (namedE x) Tryz.func125 (by kernel_rfl) ?_
 refine UF (namedE.eq_1 ..) ?_
 refine GO (tn 4 (kc (rName_to x.fText (by unfold maxLen; omega)) (tn 1 z))) (by kernel_rfl) ?_
 refine CS (fun h1 => ?_) (fun h1 => ?_)
 ·have h1n := nott h1
  refine GO (kb h1 (tn 1 z)) (by kernel_rfl) ?_
  exact EN (by kernel_rfl)
 ·have h1n := notf h1
  refine GO (kb h1 (tn 4 (kj ((x.fKind : Int) == 14) (tn 3 z) z (tn 1 (kj (cond ((x.fKind : Int) == 14) (!eqs x.fTitle (⟨#[]⟩)) false) (tn 3 z) z z))))) (by kernel_rfl) ?_
  refine CS (fun h2 => ?_) (fun h2 => ?_)
  ·obtain ⟨h2a, h2o⟩ := cond_ff h2
   obtain ⟨h2aa, h2ao⟩ := cond_ff h2a
   have h2aap := eq_of_beq h2aa
   have h2aon := nott h2ao
   have h2aoz := size_neqs_t h2ao
   have h2on := nott h2o
   refine GO (kb h2 (tn 1 z)) (by kernel_rfl) ?_
   exact EN (by kernel_rfl)
  ·refine GO (kb h2 (tn 4 z)) (by kernel_rfl) ?_
   refine CSd (fun h3p h3 => ?_) (fun h3p h3 => ?_)
   ·have := lenM_eq strAV x.fArgs
    refine GO (kb h3 (tn 1 z)) (by kernel_rfl) ?_
    exact EN (by kernel_rfl)
   ·have := lenM_eq strAV x.fArgs
    refine GO (kb h3 (tn 1 z)) (by kernel_rfl) ?_
    refine LP (fun N M S => ∃ v3 : Nat, (List.length x.fArgs - v3 < N) ∧ M = namedE_L0 x N v3 ∧ S = (sx 47 [(1, (.ptr 1 0)), (3, (jI ((v3 : Nat) : Int)))] [(1, (.cells 41 (sInline x)))] [])) (by kernel_rfl) ⟨_, by omega, rfl, rfl⟩ (WK (by kernel_rfl)) ?_
    rintro n0 M S ⟨v3, hF0, rfl, rfl⟩
    obtain ⟨n0, rfl⟩ : ∃ k, n0 = k + 1 := ⟨n0 - 1, by omega⟩
    refine UF (namedE_L0.eq_2 ..) ?_
    refine GO (tn 5 z) (by kernel_rfl) ?_
    refine CSd (fun h4p h4 => ?_) (fun h4p h4 => ?_)
    ·have := lenM_eq strAV x.fArgs
     have hce := wl_el (w := wStr) (l := x.fArgs) (i := v3) (by omega)
     simp only [wStr] at hce
     refine GO (kb h4 (tn 3 (ke (el_strAV x.fArgs v3 (by omega)) (tn 1 (kc (lineB_to (el x.fArgs v3) (by omega)) (tn 2 (kj (!lineB (el x.fArgs v3)) z (tn 3 (he (fun h => by have j0 := h.2; have j0n := notf j0; exact (el_strAV x.fArgs v3 (by omega))) (tn 1 (hc (fun h => by have j0 := h.2; have j0n := notf j0; exact (hasB_to (el x.fArgs v3) (⟨#[124, 123, 125]⟩) (by omega) (by decide))) z)))) z))))))) (by kernel_rfl) ?_
     refine CS (fun h5 => ?_) (fun h5 => ?_)
     ·refine GO (kb h5 (tn 1 z)) (by kernel_rfl) ?_
      refine OUT z (by kernel_rfl) ?_
      exact EN (by kernel_rfl)
     ·obtain ⟨h5a, h5o⟩ := cond_tt h5
      have h5an := notf h5a
      refine GO (kb h5 (tn 1 (kn (wrE (((v3 : Nat) : Int) + 1) ((v3 + 1 : Nat) : Int) (by omega)) (tn 1 z)))) (by kernel_rfl) ?_
      exact AG ⟨_, by omega, rfl, rfl⟩ (WK (by kernel_rfl)) (by kernel_rfl) (Nat.lt_succ_self _)
    ·have := lenM_eq strAV x.fArgs
     refine GO (kb h4 z) (by kernel_rfl) ?_
     refine OUT (tn 1 z) (by kernel_rfl) ?_
     exact EN (by kernel_rfl)
def anyES_L0 (rec : (List DInline) → Bool → Bool) (l : List DInline) (e : Bool) : Nat → Nat → Bool
 | 0, _ => default
 | n0 + 1, v5 => cond (decide (((v5 : Nat) : Int) < ((lenM aInline l : Nat) : Int))) (cond (cond (cond (cond (!e) (refK ((el l v5).fKind)) false) true (cond e (cond (((el l v5).fKind : Int) == 2) true (((el l v5).fKind : Int) == 3)) false)) true (rec ((el l v5).fKids) e)) true (anyES_L0 rec l e n0 (v5 + 1))) false
def anyES (rec : (List DInline) → Bool → Bool) (l : List DInline) (e : Bool) : Bool := anyES_L0 rec l e ((List.length l - 0) + 1) 0
theorem anyE_st (rec : (List DInline) → Bool → Bool) (l : List DInline) (e : Bool) (hl : wl wInline l ≤ 1073741824) (hrec : ∀ (l' : List DInline) (e' : Bool), wl wInline l' < wl wInline l → wl wInline l' ≤ 1073741824 → CallTo Tryz.prog 96 [(jL ((l').map aInline)), (jB e')] [] [] (jB (rec l' e')) [] []) : CallTo Tryz.prog 96 [(jL (l.map aInline)), (jB e)] [] [] (jB (anyES rec l e)) [] [] := by
 have hw_0 := wl_len (w := wInline) wInline_pos l
 refine BEG (fun r : Bool => (jB r)) (anyES rec l e) Tryz.func96 (by kernel_rfl) ?_
 refine UF (anyES.eq_1 ..) ?_
 refine GO (tn 2 z) (by kernel_rfl) ?_
 refine LP (fun N M S => ∃ v5 : Nat, (List.length l - v5 < N) ∧ M = anyES_L0 rec l e N v5 ∧ S = (sx 44 [(0, (jL (l.map aInline))), (1, (jB e)), (5, (jI ((v5 : Nat) : Int)))] [] [])) (by kernel_rfl) ⟨_, by omega, rfl, rfl⟩ (WK (by kernel_rfl)) ?_
 rintro n0 M S ⟨v5, hF0, rfl, rfl⟩
 obtain ⟨n0, rfl⟩ : ∃ k, n0 = k + 1 := ⟨n0 - 1, by omega⟩
 refine UF (anyES_L0.eq_2 ..) ?_
 refine GO (tn 4 z) (by kernel_rfl) ?_
 refine CSd (fun h1p h1 => ?_) (fun h1p h1 => ?_)
 ·have := lenM_eq aInline l
  have hce := wl_el (w := wInline) (l := l) (i := v5) (by omega)
  have hcw := wInline_eq (el l v5)
  simp only [wStr, w1] at hcw
  refine GO (kb h1 (tn 2 (ke (el_aInline l v5 (by omega)) (tn 6 (kj (!e) (tn 1 (kc (refK_to ((el l v5).fKind)) z)) z (tn 1 (kj (cond (!e) (refK ((el l v5).fKind)) false) z (tn 2 (kj e (tn 3 (kj (((el l v5).fKind : Int) == 2) z (tn 2 z) z)) z z)) (tn 1 (kj (cond (cond (!e) (refK ((el l v5).fKind)) false) true (cond e (cond (((el l v5).fKind : Int) == 2) true (((el l v5).fKind : Int) == 3)) false)) z (tn 2 (he (fun h => by have j0 := h.2; obtain ⟨j0a, j0o⟩ := cond_tt j0; exact (el_aInline l v5 (by omega))) (tn 3 (hc (fun h => by have j0 := h.2; obtain ⟨j0a, j0o⟩ := cond_tt j0; exact (hrec ((el l v5).fKids) e (by omega) (by omega))) z)))) z))))))))) (by kernel_rfl) ?_
  refine CS (fun h2 => ?_) (fun h2 => ?_)
  ·refine GO (kb h2 (tn 1 z)) (by kernel_rfl) ?_
   refine OUT z (by kernel_rfl) ?_
   exact EN (by kernel_rfl)
  ·obtain ⟨h2a, h2o⟩ := cond_tt h2
   obtain ⟨h2aa, h2ao⟩ := cond_tt h2a
   refine GO (kb h2 (tn 1 (kn (wrE (((v5 : Nat) : Int) + 1) ((v5 + 1 : Nat) : Int) (by omega)) (tn 1 z)))) (by kernel_rfl) ?_
   exact AG ⟨_, by omega, rfl, rfl⟩ (WK (by kernel_rfl)) (by kernel_rfl) (Nat.lt_succ_self _)
 ·have := lenM_eq aInline l
  refine GO (kb h1 z) (by kernel_rfl) ?_
  refine OUT (tn 1 z) (by kernel_rfl) ?_
  exact EN (by kernel_rfl)
def anyEN : Nat → (List DInline) → Bool → Bool
 | 0, _, _ => default
 | n + 1, l, e => anyES (anyEN n) l e
theorem anyEN_to : ∀ (n : Nat) (l : List DInline) (e : Bool), wl wInline l < n → wl wInline l ≤ 1073741824 → CallTo Tryz.prog 96 [(jL (l.map aInline)), (jB e)] [] [] (jB (anyEN n l e)) [] []
 | 0, l, e, h0, _ => absurd h0 (Nat.not_lt_zero _)
 | n + 1, l, e, h0, hl => by
  exact anyE_st (anyEN n) l e hl (fun l' e' q1 hl' => anyEN_to n l' e' (by omega) hl')
def anyE (l : List DInline) (e : Bool) : Bool := anyEN (wl wInline l + 1) l e
theorem anyE_to (l : List DInline) (e : Bool) (hl : wl wInline l ≤ 1073741824) : CallTo Tryz.prog 96 [(jL (l.map aInline)), (jB e)] [] [] (jB (anyE l e)) [] [] := anyEN_to _ l e (Nat.lt_succ_self _) hl
end Go.Proofs.YtdaglbjgdakmcaaGreat
namespace Go.Proofs.YtdaglbjgdakmcaaGreat
open Go Go.Eng
def letC (c : Int) : Bool := cond (cond (decide ((c : Int) ≥ 97)) (decide ((c : Int) ≤ 122)) false) true (cond (decide ((c : Int) ≥ 65)) (decide ((c : Int) ≤ 90)) false)
theorem letC_to (c : Int) : CallTo Tryz.prog 34 [(.av (.val (.int .u8 c)))] [] [] (jB (letC c)) [] [] := by
 refine BEG (fun r : Bool => (jB r)) (letC c) Tryz.func34 (by kernel_rfl) ?_
 refine UF (letC.eq_1 ..) ?_
 refine GO (tn 4 (kj (decide ((c : Int) ≥ 97)) (tn 2 z) z (tn 1 (kj (cond (decide ((c : Int) ≥ 97)) (decide ((c : Int) ≤ 122)) false) z (tn 3 (kj (decide ((c : Int) ≥ 65)) (tn 2 z) z z)) (tn 1 z))))) (by kernel_rfl) ?_
 exact EN (by kernel_rfl)
def partC (c : Int) : Bool := cond (cond (cond (cond (cond (letC c) true (cond (decide ((c : Int) ≥ 48)) (decide ((c : Int) ≤ 57)) false)) true ((c : Int) == 45)) true ((c : Int) == 95)) true ((c : Int) == 46)) true ((c : Int) == 58)
theorem partC_to (c : Int) : CallTo Tryz.prog 54 [(.av (.val (.int .u8 c)))] [] [] (jB (partC c)) [] [] := by
 refine BEG (fun r : Bool => (jB r)) (partC c) Tryz.func54 (by kernel_rfl) ?_
 refine UF (partC.eq_1 ..) ?_
 refine GO (tn 2 (kc (letC_to c) (tn 1 (kj (letC c) z (tn 3 (kj (decide ((c : Int) ≥ 48)) (tn 2 z) z z)) (tn 1 (kj (cond (letC c) true (cond (decide ((c : Int) ≥ 48)) (decide ((c : Int) ≤ 57)) false)) z (tn 2 z) (tn 1 (kj (cond (cond (letC c) true (cond (decide ((c : Int) ≥ 48)) (decide ((c : Int) ≤ 57)) false)) true ((c : Int) == 45)) z (tn 2 z) (tn 1 (kj (cond (cond (cond (letC c) true (cond (decide ((c : Int) ≥ 48)) (decide ((c : Int) ≤ 57)) false)) true ((c : Int) == 45)) true ((c : Int) == 95)) z (tn 2 z) (tn 1 (kj (cond (cond (cond (cond (letC c) true (cond (decide ((c : Int) ≥ 48)) (decide ((c : Int) ≤ 57)) false)) true ((c : Int) == 45)) true ((c : Int) == 95)) true ((c : Int) == 46)) z (tn 2 z) (tn 1 z))))))))))))) (by kernel_rfl) ?_
 exact EN (by kernel_rfl)
def wordI_L0 (s : ByteArray) (i : Int) : Nat → Int → Int
 | 0, _ => default
 | n0 + 1, v1 => cond (cond (decide ((v1 : Int) < ((ByteArray.size s : Nat) : Int))) (partC ((byt s (Int.toNat v1) : Nat) : Int)) false) (wordI_L0 s i n0 (v1 + 1)) v1
def wordI (s : ByteArray) (i : Int) : Int := wordI_L0 s i ((s.size - Int.toNat i) + 1) i
theorem wordI_to (s : ByteArray) (i : Int) (hs : s.size ≤ 1073741824) (h0 : 0 ≤ i) (h1 : i ≤ 1073741833) : CallTo Tryz.prog 35 [(jS s), (jI i)] [] [] (jI (wordI s i)) [] [] := by
 refine BEG (fun r : Int => (jI r)) (wordI s i) Tryz.func35 (by kernel_rfl) ?_
 refine UF (wordI.eq_1 ..) ?_
 refine GO (tn 1 z) (by kernel_rfl) ?_
 refine LP (fun N M S => ∃ v1 : Int, (0 ≤ v1) ∧ (v1 ≤ 1073741833) ∧ (s.size - Int.toNat v1 < N) ∧ M = wordI_L0 s i N v1 ∧ S = (sx 18 [(0, (jS s)), (1, (jI v1))] [] [])) (by kernel_rfl) ⟨_, by first | omega | assumption | (simp only [lenM_eq]; omega) | (simp; done) | (simp; omega), by first | omega | assumption | (simp only [lenM_eq]; omega) | (simp; done) | (simp; omega), by omega, rfl, rfl⟩ (WK (by kernel_rfl)) ?_
 rintro n0 M S ⟨v1, hv, hb, hF0, rfl, rfl⟩
 obtain ⟨n0, rfl⟩ : ∃ k, n0 = k + 1 := ⟨n0 - 1, by omega⟩
 refine UF (wordI_L0.eq_2 ..) ?_
 refine GO (tn 5 (kj (decide ((v1 : Int) < ((ByteArray.size s : Nat) : Int))) (tn 2 (hp (fun h => by have j0 := h.2; have j0p := of_decide_eq_true j0; exact (ib s v1 (by omega))) (hc (fun h => by have j0 := h.2; have j0p := of_decide_eq_true j0; exact (partC_to ((byt s (Int.toNat v1) : Nat) : Int))) z))) z z)) (by kernel_rfl) ?_
 refine CS (fun h1 => ?_) (fun h1 => ?_)
 ·obtain ⟨h1a, h1o⟩ := cond_ff h1
  have h1ap := of_decide_eq_true h1a
  refine GO (kb h1 (tn 1 (kn (wrE (v1 + 1) (v1 + 1) (by omega)) (tn 1 z)))) (by kernel_rfl) ?_
  exact AG ⟨_, by first | omega | assumption | (simp only [lenM_eq]; omega) | (simp; done) | (simp; omega), by first | omega | assumption | (simp only [lenM_eq]; omega) | (simp; done) | (simp; omega), by omega, rfl, rfl⟩ (WK (by kernel_rfl)) (by kernel_rfl) (Nat.lt_succ_self _)
 ·refine GO (kb h1 z) (by kernel_rfl) ?_
  refine OUT (tn 2 z) (by kernel_rfl) ?_
  exact EN (by kernel_rfl)
theorem wordI_L0_bd (s : ByteArray) (i : Int) : ∀ (n : Nat) (v : Int), 0 ≤ v → s.size - v.toNat < n → v ≤ wordI_L0 s i n v ∧ (wordI_L0 s i n v = v ∨ wordI_L0 s i n v ≤ s.size)
 | 0, v, h0, h => by omega
 | n + 1, v, h0, h => by
  rw [wordI_L0]; simp only [Bool.cond_eq_ite]
  split
  ·split
   ·rename_i h1 h2
    simp only [decide_eq_true_eq] at h1
    have := wordI_L0_bd s i n (v + 1) (by omega) (by omega)
    omega
   ·exact ⟨Int.le_refl _, .inl rfl⟩
  ·exact ⟨Int.le_refl _, .inl rfl⟩
theorem wordI_bd (s : ByteArray) (i : Int) (h : 0 ≤ i) : i ≤ wordI s i ∧ (wordI s i = i ∨ wordI s i ≤ s.size) := by
 have := wordI_L0_bd s i ((s.size - Int.toNat i) + 1) i h (by omega)
 unfold wordI; exact this
end Go.Proofs.YtdaglbjgdakmcaaGreat
namespace Go.Proofs.YtdaglbjgdakmcaaGreat
open Go Go.Eng
theorem size_ext (s : ByteArray) (i j : Nat) : (ByteArray.extract s i j).size = min j s.size - i := by simp
def vluR_L0 (s : ByteArray) (i : Int) : Nat → Int → ByteArray → (ByteArray × Int × Bool)
 | 0, _, _ => default
 | n0 + 1, v1, v8 => cond (cond (decide ((v1 : Int) < ((ByteArray.size s : Nat) : Int))) (((byt s (Int.toNat v1) : Nat) : Int) != 34) false) (cond (((byt s (Int.toNat v1) : Nat) : Int) == 92) (cond (cond (decide ((v1 + 1 : Int) ≥ ((ByteArray.size s : Nat) : Int))) true (cond (((byt s (Int.toNat (v1 + 1)) : Nat) : Int) != 34) (((byt s (Int.toNat (v1 + 1)) : Nat) : Int) != 92) false)) (⟨#[]⟩, 0, false) (vluR_L0 s i n0 ((v1 + 1) + 1) (v8 ++ (ByteArray.extract s (Int.toNat (v1 + 1)) (Int.toNat ((v1 + 1) + 1)))))) (vluR_L0 s i n0 (v1 + 1) (v8 ++ (ByteArray.extract s (Int.toNat v1) (Int.toNat (v1 + 1)))))) (cond (cond (decide ((v1 : Int) ≥ ((ByteArray.size s : Nat) : Int))) true (!lineC v8)) (⟨#[]⟩, 0, false) (v8, v1 + 1, true))
def vluR (s : ByteArray) (i : Int) : (ByteArray × Int × Bool) := cond (cond (decide ((i : Int) ≥ ((ByteArray.size s : Nat) : Int))) true (((byt s (Int.toNat i) : Nat) : Int) != 34)) (cond (cond (decide ((i : Int) > ((ByteArray.size s : Nat) : Int))) true (!nameB (ByteArray.extract s (Int.toNat i) (Int.toNat (wordI s i))))) (⟨#[]⟩, 0, false) (ByteArray.extract s (Int.toNat i) (Int.toNat (wordI s i)), wordI s i, true)) (vluR_L0 s i ((s.size - Int.toNat (i + 1)) + 1) (i + 1) (⟨#[]⟩))
theorem vluR_to (s : ByteArray) (i : Int) (hs : s.size ≤ 1073741824) (h0 : 0 ≤ i) (h1 : i ≤ s.size + 1) : CallTo Tryz.prog 129 [(jS s), (jI i)] [] [] (.av (.tup [(vS ((vluR s i).1)), (vI ((vluR s i).2.1)), (vB ((vluR s i).2.2))])) [] [] := by
 refine BEG (fun r : (ByteArray × Int × Bool) => (.av (.tup [(vS r.1), (vI r.2.1), (vB r.2.2)]))) (vluR s i) Tryz.func129 (by kernel_rfl) ?_
 refine UF (vluR.eq_1 ..) ?_
 refine GO (tn 8 (kj (decide ((i : Int) ≥ ((ByteArray.size s : Nat) : Int))) z (tn 2 (hp (fun h => by have j0 := h.2; have j0p := of_decide_eq_false j0; exact (ib s i (by omega))) (tn 1 z))) z)) (by kernel_rfl) ?_
 refine CS (fun h1 => ?_) (fun h1 => ?_)
 ·have := wordI_bd s i (by omega)
  refine GO (kb h1 (tn 2 (kc (wordI_to s i (by omega) (by omega) (by omega)) (tn 6 (kj (decide ((i : Int) > ((ByteArray.size s : Nat) : Int))) z (tn 3 (hp (fun h => by have j0 := h.2; have j0p := of_decide_eq_false j0; have := size_ext s (Int.toNat i) (Int.toNat (wordI s i)); exact (show 0 ≤ (i : Int) ∧ (i : Int) ≤ wordI s i ∧ wordI s i ≤ ((ByteArray.size s : Nat) : Int) from (by omega))) (hc (fun h => by have j0 := h.2; have j0p := of_decide_eq_false j0; have := size_ext s (Int.toNat i) (Int.toNat (wordI s i)); exact (rName_to (ByteArray.extract s (Int.toNat i) (Int.toNat (wordI s i))) (by unfold maxLen; omega))) (tn 1 z)))) z))))) (by kernel_rfl) ?_
  refine CS (fun h2 => ?_) (fun h2 => ?_)
  ·refine GO (kb h2 (tn 3 z)) (by kernel_rfl) ?_
   exact EN (by kernel_rfl)
  ·obtain ⟨h2a, h2o⟩ := cond_tt h2
   have h2ap := of_decide_eq_false h2a
   have h2on := notf h2o
   have := size_ext s (Int.toNat i) (Int.toNat (wordI s i))
   refine GO (kb h2 (tn 3 (kp (show 0 ≤ (i : Int) ∧ (i : Int) ≤ wordI s i ∧ wordI s i ≤ ((ByteArray.size s : Nat) : Int) from (by omega)) (tn 4 z)))) (by kernel_rfl) ?_
   exact EN (by kernel_rfl)
 ·obtain ⟨h1a, h1o⟩ := cond_tt h1
  have h1ap := of_decide_eq_false h1a
  have h1op := eq_of_bne_false h1o
  refine GO (kb h1 (tn 2 (kn (wrE (i + 1) (i + 1) (by omega)) (tn 1 z)))) (by kernel_rfl) ?_
  refine LP (fun N M S => ∃ v1 : Int, ∃ v8 : ByteArray, (0 ≤ v1) ∧ (v1 ≤ s.size) ∧ ((v8.size : Int) ≤ v1) ∧ (s.size - Int.toNat v1 < N) ∧ M = vluR_L0 s i N v1 v8 ∧ S = (sx 94 [(0, (jS s)), (1, (jI v1)), (8, (jS v8))] [] [])) (by kernel_rfl) ⟨_, _, by first | omega | assumption | (simp only [lenM_eq]; omega) | (simp; done) | (simp; omega), by first | omega | assumption | (simp only [lenM_eq]; omega) | (simp; done) | (simp; omega), (show ((0 : Nat) : Int) ≤ i + 1 by omega), by omega, rfl, rfl⟩ (WK (by kernel_rfl)) ?_
  rintro n0 M S ⟨v1, v8, hv, hs2, ho, hF0, rfl, rfl⟩
  obtain ⟨n0, rfl⟩ : ∃ k, n0 = k + 1 := ⟨n0 - 1, by omega⟩
  refine UF (vluR_L0.eq_2 ..) ?_
  refine GO (tn 5 (kj (decide ((v1 : Int) < ((ByteArray.size s : Nat) : Int))) (tn 2 (hp (fun h => by have j0 := h.2; have j0p := of_decide_eq_true j0; exact (ib s v1 (by omega))) (tn 1 z))) z z)) (by kernel_rfl) ?_
  refine CS (fun h3 => ?_) (fun h3 => ?_)
  ·obtain ⟨h3a, h3o⟩ := cond_ff h3
   have h3ap := of_decide_eq_true h3a
   have h3op := bne_iff_ne.1 h3o
   refine GO (kb h3 (tn 2 (kp (ib s v1 (by omega)) (tn 1 z)))) (by kernel_rfl) ?_
   refine CSe (fun h4p h4 => ?_) (fun h4p h4 => ?_)
   ·refine GO (kb h4 (tn 1 (kn (wrE (v1 + 1) (v1 + 1) (by omega)) (tn 6 (kj (decide ((v1 + 1 : Int) ≥ ((ByteArray.size s : Nat) : Int))) z (tn 2 (hp (fun h => by have j0 := h.2; have j0p := of_decide_eq_false j0; exact (ib s (v1 + 1) (by omega))) (tn 2 (kj (((byt s (Int.toNat (v1 + 1)) : Nat) : Int) != 34) (tn 2 (hp (fun h => by have j0 := h.1.2; have j0p := of_decide_eq_false j0; have j1 := h.2; have j1p := bne_iff_ne.1 j1; exact (ib s (v1 + 1) (by omega))) (tn 1 z))) z z)))) z))))) (by kernel_rfl) ?_
    refine CS (fun h5 => ?_) (fun h5 => ?_)
    ·refine GO (kb h5 (tn 3 z)) (by kernel_rfl) ?_
     refine OUT z (by kernel_rfl) ?_
     exact EN (by kernel_rfl)
    ·obtain ⟨h5a, h5o⟩ := cond_tt h5
     have h5ap := of_decide_eq_false h5a
     have := size_ext s (Int.toNat (v1 + 1)) (Int.toNat ((v1 + 1) + 1))
     refine GO (kb h5 (tn 4 (kn (wrE ((v1 + 1) + 1) ((v1 + 1) + 1) (by omega)) (kp (show 0 ≤ (v1 + 1 : Int) ∧ (v1 + 1 : Int) ≤ (v1 + 1) + 1 ∧ (v1 + 1) + 1 ≤ ((ByteArray.size s : Nat) : Int) from (by omega)) (kp (show ((ByteArray.size v8 + ByteArray.size (ByteArray.extract s (Int.toNat (v1 + 1)) (Int.toNat ((v1 + 1) + 1))) : Nat) : Int) ≤ IntKind.i64.max from (by simp [IntKind.max, IntKind.signed, IntKind.bits]; omega)) (tn 2 (kn (wrE ((v1 + 1) + 1) ((v1 + 1) + 1) (by omega)) (tn 1 z)))))))) (by kernel_rfl) ?_
     exact AG ⟨_, _, by first | omega | assumption | (simp only [lenM_eq]; omega) | (simp; done) | (simp; omega), by first | omega | assumption | (simp only [lenM_eq]; omega) | (simp; done) | (simp; omega), by first | omega | assumption | (simp only [lenM_eq]; omega) | (simp; done) | (simp; omega), by omega, rfl, rfl⟩ (WK (by kernel_rfl)) (by kernel_rfl) (Nat.lt_succ_self _)
   ·have := size_ext s (Int.toNat v1) (Int.toNat (v1 + 1))
    refine GO (kb h4 (tn 4 (kn (wrE (v1 + 1) (v1 + 1) (by omega)) (kp (show 0 ≤ (v1 : Int) ∧ (v1 : Int) ≤ v1 + 1 ∧ v1 + 1 ≤ ((ByteArray.size s : Nat) : Int) from (by omega)) (kp (show ((ByteArray.size v8 + ByteArray.size (ByteArray.extract s (Int.toNat v1) (Int.toNat (v1 + 1))) : Nat) : Int) ≤ IntKind.i64.max from (by simp [IntKind.max, IntKind.signed, IntKind.bits]; omega)) (tn 2 (kn (wrE (v1 + 1) (v1 + 1) (by omega)) (tn 1 z)))))))) (by kernel_rfl) ?_
    exact AG ⟨_, _, by first | omega | assumption | (simp only [lenM_eq]; omega) | (simp; done) | (simp; omega), by first | omega | assumption | (simp only [lenM_eq]; omega) | (simp; done) | (simp; omega), by first | omega | assumption | (simp only [lenM_eq]; omega) | (simp; done) | (simp; omega), by omega, rfl, rfl⟩ (WK (by kernel_rfl)) (by kernel_rfl) (Nat.lt_succ_self _)
  ·refine GO (kb h3 z) (by kernel_rfl) ?_
   refine OUT (tn 5 (kj (decide ((v1 : Int) ≥ ((ByteArray.size s : Nat) : Int))) z (tn 1 (hc (fun h => by have j0 := h.2; have j0p := of_decide_eq_false j0; exact (lineC_to v8 (by omega))) (tn 1 z))) z)) (by kernel_rfl) ?_
   refine CS (fun h6 => ?_) (fun h6 => ?_)
   ·refine GO (kb h6 (tn 3 z)) (by kernel_rfl) ?_
    exact EN (by kernel_rfl)
   ·obtain ⟨h6a, h6o⟩ := cond_tt h6
    have h6ap := of_decide_eq_false h6a
    have h6on := notf h6o
    refine GO (kb h6 (tn 2 (kn (wrE (v1 + 1) (v1 + 1) (by omega)) (tn 3 z)))) (by kernel_rfl) ?_
    exact EN (by kernel_rfl)
end Go.Proofs.YtdaglbjgdakmcaaGreat
namespace Go.Proofs.YtdaglbjgdakmcaaGreat
open Go Go.Eng
def clsA (a : DAttr) (name : ByteArray) : (DAttr × Int) := cond (hasT a.fClasses name) (a, 7) (cond (decide (((List.length a.fClasses : Nat) : Int) ≥ 32)) (a, 3) (DAttr.mk a.fID (a.fClasses ++ ([name])) a.fPairs, 0))
theorem clsA_to (a : DAttr) (name : ByteArray) (g1 : Nat) (g2 : Nat) (ha : a.fClasses.length ≤ 32) : CallTo Tryz.prog 128 [(.ag [(.av (vS a.fID)), (.own (1001, 10) g1 1 (a.fClasses.map strAV)), (.own (1002, 44) g2 2 (a.fPairs.map aPair))]), (jS name)] [] [((1001, 10), g1), ((1002, 44), g2)] (.tp [(.a [(.av (vS (((clsA a name).1).fID))), (.own (1001, 10) (g1 + 1) 1 ((((clsA a name).1).fClasses).map strAV)), (.own (1002, 44) (g2 + 1) 2 ((((clsA a name).1).fPairs).map aPair))]), (.c (.av (vI ((clsA a name).2))))]) [] [((1001, 10), g1 + 1), ((1002, 44), g2 + 1)] := by
 refine CallTo_of_body (n := 23) Tryz.func128 rfl (by kernel_rfl) Tryz.ntmps128 (by simp) (by simp) (by simp) (by simp [OkSV, OkCV, OkXV, SV.keys, ABox.svs, PV.keys, List.lookup] <;> rfl) (by simp) (by simp [OkSV, OkCV, OkXV, SV.keys, ABox.svs, PV.keys, List.lookup] <;> rfl) (by simp) rfl rfl ?_
 refine W_eq (sx 23 [(0, (.ag [(.av (vS a.fID)), (.own (1001, 10) g1 1 (a.fClasses.map strAV)), (.own (1002, 44) g2 2 (a.fPairs.map aPair))])), (1, (jS name))] [] [((1001, 10), g1), ((1002, 44), g2)]) (by kernel_rfl) ?_
 refine W_gend ?_
 refine W_seq ?_
 refine W_runX [] .normal 23 [(1, (jS name)), (2, (.ptr 2 0)), (4, (.ptr 4 0))] [(4, (.cells 38 [(jS (⟨#[]⟩)), .nil, .nil])), (2, (.cells 38 [(jS a.fID), (.own (1001, 10) g1 1 (a.fClasses.map strAV)), (.own (1002, 44) g2 2 (a.fPairs.map aPair))]))] [((1001, 10), g1), ((1002, 44), g2)] (akn 3 an) (by kernel_rfl) ?_
 show W _ _ _ _
 refine W_seq ?_
 refine W_seq ?_
 refine W_runX [.c (jB (hasT a.fClasses name)) [] [] []] .normal 23 [(1, (jS name)), (2, (.ptr 2 0)), (4, (.ptr 4 0)), (9, (jB (hasT a.fClasses name)))] [(4, (.cells 38 [(jS (⟨#[]⟩)), .nil, .nil])), (2, (.cells 38 [(jS a.fID), (.own (1001, 10) g1 1 (a.fClasses.map strAV)), (.own (1002, 44) g2 2 (a.fPairs.map aPair))]))] [((1001, 10), g1), ((1002, 44), g2)] (akn 3 (ac (hasT_to a.fClasses name (by omega)) (ak an))) (by kernel_rfl) ?_
 show W _ _ _ _
 rcases Bool.eq_false_or_eq_true (hasT a.fClasses name) with hb1 | hb1
 ·refine W_condT (b := hasT a.fClasses name) (by kernel_rfl) hb1 ?_
  refine W_runX [] .ret 23 [(4, (.ptr 4 0)), (5, (jI 7))] [(4, (.cells 38 [(jS a.fID), (.own (1001, 10) g1 1 (a.fClasses.map strAV)), (.own (1002, 44) g2 2 (a.fPairs.map aPair))]))] [((1001, 10), g1), ((1002, 44), g2)] (akn 3 an) (by kernel_rfl) ?_
  refine skipS ?_ (by simp)
  refine ⟨_, (Ghost.trans (Ghost.trans (Ghost.refl _) (ghost_bump (1001, 10))) (ghost_bump (1002, 44))), ?_⟩
  exact endsK (r := (.tp [(.a [(.av (vS a.fID)), (.own (1001, 10) (g1 + 1) 1 (a.fClasses.map strAV)), (.own (1002, 44) (g2 + 1) 2 (a.fPairs.map aPair))]), (.c (.av (vI 7)))])) (by simp) (by kernel_rfl) (by rw [show clsA a name = (a, 7) from by rw [clsA]; exact (cT hb1)]; first | done | first | rfl | (simp [strAV, vU, aPair_eq, aAttr_eq, aCited_eq, aInline_eq, aBlock_eq, aDoc_eq, aPoint_eq, aRange_eq, cPair, cAttr, cCited, cInline, cBlock, cDoc, cPoint, cRange]; done)) (by simp) (by intro p hp; simp only [List.mem_cons, List.not_mem_nil, or_false] at hp; rcases hp with rfl | rfl <;> rfl)
 ·refine W_condF (b := hasT a.fClasses name) (by kernel_rfl) hb1 ?_
  refine W_runX [] .normal 23 [(1, (jS name)), (2, (.ptr 2 0)), (4, (.ptr 4 0))] [(4, (.cells 38 [(jS (⟨#[]⟩)), .nil, .nil])), (2, (.cells 38 [(jS a.fID), (.own (1001, 10) g1 1 (a.fClasses.map strAV)), (.own (1002, 44) g2 2 (a.fPairs.map aPair))]))] [((1001, 10), g1), ((1002, 44), g2)] an (by kernel_rfl) ?_
  show W _ _ _ _
  refine W_seq ?_
  refine W_seq ?_
  refine W_runX [] .normal 23 [(1, (jS name)), (2, (.ptr 2 0)), (4, (.ptr 4 0)), (14, (jB (decide (((lenM strAV a.fClasses : Nat) : Int) ≥ 32))))] [(4, (.cells 38 [(jS (⟨#[]⟩)), .nil, .nil])), (2, (.cells 38 [(jS a.fID), (.own (1001, 10) g1 1 (a.fClasses.map strAV)), (.own (1002, 44) g2 2 (a.fPairs.map aPair))]))] [((1001, 10), g1), ((1002, 44), g2)] (akn 4 an) (by kernel_rfl) ?_
  show W _ _ _ _
  rcases Bool.eq_false_or_eq_true (decide (((lenM strAV a.fClasses : Nat) : Int) ≥ 32)) with hb2 | hb2
  ·refine W_condT (b := decide (((lenM strAV a.fClasses : Nat) : Int) ≥ 32)) (by kernel_rfl) hb2 ?_
   have hb2p := of_decide_eq_true hb2
   simp only [lenM_eq] at hb2p
   have hb2m : (decide (((List.length a.fClasses : Nat) : Int) ≥ 32)) = true := by simpa only [lenM_eq] using hb2
   refine W_runX [] .ret 23 [(4, (.ptr 4 0)), (5, (jI 3))] [(4, (.cells 38 [(jS a.fID), (.own (1001, 10) g1 1 (a.fClasses.map strAV)), (.own (1002, 44) g2 2 (a.fPairs.map aPair))]))] [((1001, 10), g1), ((1002, 44), g2)] (akn 3 an) (by kernel_rfl) ?_
   refine skipS ?_ (by simp)
   refine ⟨_, (Ghost.trans (Ghost.trans (Ghost.refl _) (ghost_bump (1001, 10))) (ghost_bump (1002, 44))), ?_⟩
   exact endsK (r := (.tp [(.a [(.av (vS a.fID)), (.own (1001, 10) (g1 + 1) 1 (a.fClasses.map strAV)), (.own (1002, 44) (g2 + 1) 2 (a.fPairs.map aPair))]), (.c (.av (vI 3)))])) (by simp) (by kernel_rfl) (by rw [show clsA a name = (a, 3) from by rw [clsA]; exact (cF hb1).trans (cT hb2m)]; first | done | first | rfl | (simp [strAV, vU, aPair_eq, aAttr_eq, aCited_eq, aInline_eq, aBlock_eq, aDoc_eq, aPoint_eq, aRange_eq, cPair, cAttr, cCited, cInline, cBlock, cDoc, cPoint, cRange]; done)) (by simp) (by intro p hp; simp only [List.mem_cons, List.not_mem_nil, or_false] at hp; rcases hp with rfl | rfl <;> rfl)
  ·refine W_condF (b := decide (((lenM strAV a.fClasses : Nat) : Int) ≥ 32)) (by kernel_rfl) hb2 ?_
   have hb2p := of_decide_eq_false hb2
   simp only [lenM_eq] at hb2p
   have hb2m : (decide (((List.length a.fClasses : Nat) : Int) ≥ 32)) = false := by simpa only [lenM_eq] using hb2
   refine W_runX [] .normal 23 [(1, (jS name)), (2, (.ptr 2 0)), (4, (.ptr 4 0))] [(4, (.cells 38 [(jS (⟨#[]⟩)), .nil, .nil])), (2, (.cells 38 [(jS a.fID), (.own (1001, 10) g1 1 (a.fClasses.map strAV)), (.own (1002, 44) g2 2 (a.fPairs.map aPair))]))] [((1001, 10), g1), ((1002, 44), g2)] an (by kernel_rfl) ?_
   show W _ _ _ _
   refine W_runX [] .ret 23 [(4, (.ptr 4 0)), (5, (jI 0))] [(4, (.cells 38 [(jS a.fID), (.own (1001, 10) (g1 + 1) 1 ((a.fClasses.map strAV) ++ [(vS name)])), (.own (1002, 44) g2 2 (a.fPairs.map aPair))]))] [((1001, 10), g1 + 1), ((1002, 44), g2)] (akn 3 (ac (show Uni 1 [(vS name)] from (uni_one rfl rfl)) (ac (show (g1 : Nat) = g1 ∧ Uni 1 [(vS name)] ∧ (((a.fClasses.map strAV) : List AV).length + ([(vS name)] : List AV).length) * 16 ≤ 140737488355328 from ⟨rfl, uni_one rfl rfl, by first | omega | (simp; done) | (simp; omega)⟩) (akn 5 an)))) (by kernel_rfl) ?_
   refine ⟨_, (Ghost.trans (Ghost.refl _) (ghost_bump (1002, 44))), ?_⟩
   exact endsK (r := (.tp [(.a [(.av (vS a.fID)), (.own (1001, 10) (g1 + 1) 1 ((a.fClasses.map strAV) ++ [(vS name)])), (.own (1002, 44) (g2 + 1) 2 (a.fPairs.map aPair))]), (.c (.av (vI 0)))])) (by simp) (by kernel_rfl) (by rw [show clsA a name = (DAttr.mk a.fID (a.fClasses ++ ([name])) a.fPairs, 0) from by rw [clsA]; exact (cF hb1).trans (cF hb2m)]; first | done | first | rfl | (simp [strAV, vU, aPair_eq, aAttr_eq, aCited_eq, aInline_eq, aBlock_eq, aDoc_eq, aPoint_eq, aRange_eq, cPair, cAttr, cCited, cInline, cBlock, cDoc, cPoint, cRange]; done)) (by simp) (by intro p hp; simp only [List.mem_cons, List.not_mem_nil, or_false] at hp; rcases hp with rfl | rfl <;> rfl)
theorem clsA_bd (a : DAttr) (name : ByteArray) (h : a.fClasses.length ≤ 32) : (clsA a name).1.fClasses.length ≤ 32 ∧ (clsA a name).1.fPairs = a.fPairs := by
 unfold clsA; simp only [Bool.cond_eq_ite]
 split
 ·exact ⟨h, rfl⟩
 ·split
  ·exact ⟨h, rfl⟩
  ·rename_i h2; simp only [decide_eq_true_eq] at h2; simp; omega
end Go.Proofs.YtdaglbjgdakmcaaGreat
namespace Go.Proofs.YtdaglbjgdakmcaaGreat
open Go Go.Eng
def vluQ (s : ByteArray) (r : ByteArray × Int × Bool) : Prop := 0 ≤ r.2.1 ∧ r.2.1 ≤ s.size + 1 ∧ r.1.size ≤ s.size
theorem vluQ_err (s : ByteArray) : vluQ s (⟨#[]⟩, 0, false) := ⟨Int.le_refl 0, (show (0 : Int) ≤ s.size + 1 by omega), Nat.zero_le _⟩
theorem vluR_L0_bd (s : ByteArray) (i : Int) : ∀ (n : Nat) (v : Int) (o : ByteArray), 0 ≤ v → v ≤ s.size → (o.size : Int) ≤ v → s.size - v.toNat < n → vluQ s (vluR_L0 s i n v o)
 | 0, v, o, h0, h1, h2, h => by omega
 | n + 1, v, o, h0, h1, h2, h => by
  have e1 : ∀ x : Int, 0 ≤ x → x < s.size → (s.extract x.toNat (x + 1).toNat).size = 1 := fun x q r => by rw [size_ext]; omega
  rw [vluR_L0]
  refine condP _ (fun k1 => ?_) (fun k1 => condP _ (fun _ => vluQ_err s) (fun k2 => ?_))
  ·have k2 := of_decide_eq_true (cond_ff k1).1
   refine condP _ (fun _ => condP _ (fun _ => vluQ_err s) (fun k3 => ?_)) (fun _ => ?_)
   ·have k4 := of_decide_eq_false (cond_tt k3).1
    exact vluR_L0_bd s i n _ _ (by omega) (by omega) (by rw [ByteArray.size_append, e1 _ (by omega) (by omega)]; omega) (by omega)
   ·exact vluR_L0_bd s i n _ _ (by omega) (by omega) (by rw [ByteArray.size_append, e1 _ (by omega) (by omega)]; omega) (by omega)
  ·have k4 := of_decide_eq_false (cond_tt k2).1
   exact ⟨(show (0 : Int) ≤ v + 1 by omega), (show v + 1 ≤ s.size + 1 by omega), (show o.size ≤ s.size by omega)⟩
theorem vluR_bd (s : ByteArray) (i : Int) (h0 : 0 ≤ i) (h1 : i ≤ s.size + 1) : 0 ≤ (vluR s i).2.1 ∧ (vluR s i).2.1 ≤ s.size + 1 ∧ (vluR s i).1.size ≤ s.size := by
 have hw := wordI_bd s i h0
 have e1 : (s.extract i.toNat (wordI s i).toNat).size ≤ s.size := by rw [size_ext]; omega
 show vluQ s (vluR s i)
 unfold vluR
 refine condP _ (fun _ => condP _ (fun _ => vluQ_err s) (fun k => ?_)) (fun k => ?_)
 ·exact ⟨(show (0 : Int) ≤ wordI s i by omega), (show wordI s i ≤ s.size + 1 by omega), e1⟩
 ·have k2 := of_decide_eq_false (cond_tt k).1
  exact vluR_L0_bd s i _ (i + 1) _ (by omega) (by omega) (show ((0 : Nat) : Int) ≤ i + 1 by omega) (by omega)
abbrev aPQ (s : ByteArray) (i : Int) : Bool := (cond (((byt s (Int.toNat i) : Nat) : Int) == 35) true (((byt s (Int.toNat i) : Nat) : Int) == 46))
def itemA (a : DAttr) (s : ByteArray) (i : Int) : (DAttr × Int × Int) := cond (!nameB (ByteArray.extract s (Int.toNat (cond (aPQ s i) (i + 1) i)) (Int.toNat (wordI s (cond (aPQ s i) (i + 1) i))))) (a, 0, 5) (cond (((byt s (Int.toNat i) : Nat) : Int) == 35) (cond (!eqs a.fID (⟨#[]⟩)) (a, 0, 7) (DAttr.mk (ByteArray.extract s (Int.toNat (cond (aPQ s i) (i + 1) i)) (Int.toNat (wordI s (cond (aPQ s i) (i + 1) i)))) a.fClasses a.fPairs, wordI s (cond (aPQ s i) (i + 1) i), 0)) (cond (((byt s (Int.toNat i) : Nat) : Int) == 46) ((clsA a (ByteArray.extract s (Int.toNat (cond (aPQ s i) (i + 1) i)) (Int.toNat (wordI s (cond (aPQ s i) (i + 1) i))))).1, wordI s (cond (aPQ s i) (i + 1) i), (clsA a (ByteArray.extract s (Int.toNat (cond (aPQ s i) (i + 1) i)) (Int.toNat (wordI s (cond (aPQ s i) (i + 1) i))))).2) (cond (cond (decide ((wordI s (cond (aPQ s i) (i + 1) i) : Int) ≥ ((ByteArray.size s : Nat) : Int))) true (((byt s (Int.toNat (wordI s (cond (aPQ s i) (i + 1) i))) : Nat) : Int) != 61)) (a, 0, 5) (cond (!(vluR s ((wordI s (cond (aPQ s i) (i + 1) i)) + 1)).2.2) (a, 0, 5) (cond (hasK a.fPairs (ByteArray.extract s (Int.toNat (cond (aPQ s i) (i + 1) i)) (Int.toNat (wordI s (cond (aPQ s i) (i + 1) i))))) (a, 0, 7) (cond (decide (((List.length a.fPairs : Nat) : Int) ≥ 32)) (a, 0, 3) (DAttr.mk a.fID a.fClasses (a.fPairs ++ ([DPair.mk (ByteArray.extract s (Int.toNat (cond (aPQ s i) (i + 1) i)) (Int.toNat (wordI s (cond (aPQ s i) (i + 1) i)))) ((vluR s ((wordI s (cond (aPQ s i) (i + 1) i)) + 1)).1)])), (vluR s ((wordI s (cond (aPQ s i) (i + 1) i)) + 1)).2.1, 0)))))))
theorem itemA_to (a : DAttr) (s : ByteArray) (i : Int) (g1 : Nat) (g2 : Nat) (hs : s.size ≤ 1073741824) (h0 : 0 ≤ i) (h1 : i < s.size) (ha : a.fClasses.length ≤ 32) (hp : a.fPairs.length ≤ 32) : CallTo Tryz.prog 121 [(.ag [(.av (vS a.fID)), (.own (1001, 10) g1 1 (a.fClasses.map strAV)), (.own (1002, 44) g2 2 (a.fPairs.map aPair))]), (jS s), (jI i)] [] [((1001, 10), g1), ((1002, 44), g2)] (.tp [(.a [(.av (vS (((itemA a s i).1).fID))), (.own (1001, 10) (g1 + 1) 1 ((((itemA a s i).1).fClasses).map strAV)), (.own (1002, 44) (g2 + 1) 2 ((((itemA a s i).1).fPairs).map aPair))]), (.c (.av (vI ((itemA a s i).2.1)))), (.c (.av (vI ((itemA a s i).2.2))))]) [] [((1001, 10), g1 + 1), ((1002, 44), g2 + 1)] := by
 refine CallTo_of_body (n := 111) Tryz.func121 rfl (by kernel_rfl) Tryz.ntmps121 (by simp) (by simp) (by simp) (by simp [OkSV, OkCV, OkXV, SV.keys, ABox.svs, PV.keys, List.lookup] <;> rfl) (by simp) (by simp [OkSV, OkCV, OkXV, SV.keys, ABox.svs, PV.keys, List.lookup] <;> rfl) (by simp) rfl rfl ?_
 refine W_eq (sx 111 [(0, (.ag [(.av (vS a.fID)), (.own (1001, 10) g1 1 (a.fClasses.map strAV)), (.own (1002, 44) g2 2 (a.fPairs.map aPair))])), (1, (jS s)), (2, (jI i))] [] [((1001, 10), g1), ((1002, 44), g2)]) (by kernel_rfl) ?_
 refine W_gend ?_
 refine W_seq ?_
 refine W_runX [] .normal 111 [(1, (jS s)), (2, (jI i)), (3, (.ptr 3 0)), (6, (.ptr 6 0))] [(6, (.cells 38 [(jS (⟨#[]⟩)), .nil, .nil])), (3, (.cells 38 [(jS a.fID), (.own (1001, 10) g1 1 (a.fClasses.map strAV)), (.own (1002, 44) g2 2 (a.fPairs.map aPair))]))] [((1001, 10), g1), ((1002, 44), g2)] (akn 4 an) (by kernel_rfl) ?_
 show W _ _ _ _
 refine W_seq ?_
 refine W_runX [] .normal 111 [(1, (jS s)), (2, (jI i)), (3, (.ptr 3 0)), (6, (.ptr 6 0)), (9, (jI i))] [(6, (.cells 38 [(jS (⟨#[]⟩)), .nil, .nil])), (3, (.cells 38 [(jS a.fID), (.own (1001, 10) g1 1 (a.fClasses.map strAV)), (.own (1002, 44) g2 2 (a.fPairs.map aPair))]))] [((1001, 10), g1), ((1002, 44), g2)] (akn 2 an) (by kernel_rfl) ?_
 show W _ _ _ _
 refine W_mid (S' := (sx 111 [(1, (jS s)), (2, (jI i)), (3, (.ptr 3 0)), (6, (.ptr 6 0)), (9, (jI (cond (aPQ s i) (i + 1) i)))] [(6, (.cells 38 [(jS (⟨#[]⟩)), .nil, .nil])), (3, (.cells 38 [(jS a.fID), (.own (1001, 10) g1 1 (a.fClasses.map strAV)), (.own (1002, 44) g2 2 (a.fPairs.map aPair))]))] [((1001, 10), g1), ((1002, 44), g2)])) ?_ ?_
 ·refine W_mid (S' := (sx 111 [(1, (jS s)), (2, (jI i)), (3, (.ptr 3 0)), (6, (.ptr 6 0)), (9, (jI i)), (27, (jB (aPQ s i)))] [(6, (.cells 38 [(jS (⟨#[]⟩)), .nil, .nil])), (3, (.cells 38 [(jS a.fID), (.own (1001, 10) g1 1 (a.fClasses.map strAV)), (.own (1002, 44) g2 2 (a.fPairs.map aPair))]))] [((1001, 10), g1), ((1002, 44), g2)])) ?_ ?_
  ·rcases Bool.eq_false_or_eq_true (((byt s (Int.toNat i) : Nat) : Int) == 35) with hb1 | hb1
   ·have hb1p := eq_of_beq hb1
    refine W_runX (rp 5 oT []) .normal 111 [(1, (jS s)), (2, (jI i)), (3, (.ptr 3 0)), (6, (.ptr 6 0)), (9, (jI i)), (27, (jB true))] [(6, (.cells 38 [(jS (⟨#[]⟩)), .nil, .nil])), (3, (.cells 38 [(jS a.fID), (.own (1001, 10) g1 1 (a.fClasses.map strAV)), (.own (1002, 44) g2 2 (a.fPairs.map aPair))]))] [((1001, 10), g1), ((1002, 44), g2)] (akn 2 (ac (show 0 ≤ (i : Int) ∧ (i : Int) < ((ByteArray.size s : Nat) : Int) from (by omega)) (akn 2 (acn 5 hb1 an)))) (by kernel_rfl) ?_
    exact ⟨rfl, (weak_sx (show WkX _ _ _ from ⟨rfl, rfl, rfl, rfl, rfl, (show ((jB true) : SV) = (jB (aPQ s i)) from by rw [aPQ, hb1, cond_true]), trivial⟩) (show WkBx _ _ from ⟨⟨rfl, ⟨rfl, rfl, rfl, trivial⟩⟩, ⟨rfl, ⟨rfl, ⟨rfl, rfl, rfl, rfl⟩, ⟨rfl, rfl, rfl, rfl⟩, trivial⟩⟩, trivial⟩) (show WkG _ _ _ from ⟨rfl, rfl, rfl, rfl, trivial⟩))⟩
   ·have hb1p := ne_of_beq_false hb1
    refine W_runX (rp 5 oF []) .normal 111 [(1, (jS s)), (2, (jI i)), (3, (.ptr 3 0)), (6, (.ptr 6 0)), (9, (jI i)), (27, (jB (((byt s (Int.toNat i) : Nat) : Int) == 46)))] [(6, (.cells 38 [(jS (⟨#[]⟩)), .nil, .nil])), (3, (.cells 38 [(jS a.fID), (.own (1001, 10) g1 1 (a.fClasses.map strAV)), (.own (1002, 44) g2 2 (a.fPairs.map aPair))]))] [((1001, 10), g1), ((1002, 44), g2)] (akn 2 (ac (show 0 ≤ (i : Int) ∧ (i : Int) < ((ByteArray.size s : Nat) : Int) from (by omega)) (akn 2 (apn 2 hb1 (ac hb1 (ac (show 0 ≤ (i : Int) ∧ (i : Int) < ((ByteArray.size s : Nat) : Int) from (by omega)) (ac hb1 (ak (ac hb1 an))))))))) (by kernel_rfl) ?_
    exact ⟨rfl, (weak_sx (show WkX _ _ _ from ⟨rfl, rfl, rfl, rfl, rfl, (show ((jB (((byt s (Int.toNat i) : Nat) : Int) == 46)) : SV) = (jB (aPQ s i)) from by rw [aPQ, hb1, cond_false]), trivial⟩) (show WkBx _ _ from ⟨⟨rfl, ⟨rfl, rfl, rfl, trivial⟩⟩, ⟨rfl, ⟨rfl, ⟨rfl, rfl, rfl, rfl⟩, ⟨rfl, rfl, rfl, rfl⟩, trivial⟩⟩, trivial⟩) (show WkG _ _ _ from ⟨rfl, rfl, rfl, rfl, trivial⟩))⟩
  rcases Bool.eq_false_or_eq_true (aPQ s i) with hb2 | hb2
  ·refine W_condT (b := cond (((byt s (Int.toNat i) : Nat) : Int) == 35) true (((byt s (Int.toNat i) : Nat) : Int) == 46)) (by kernel_rfl) hb2 ?_
   refine W_runX [.n (i + 1)] .normal 111 [(1, (jS s)), (2, (jI i)), (3, (.ptr 3 0)), (6, (.ptr 6 0)), (9, (jI (i + 1)))] [(6, (.cells 38 [(jS (⟨#[]⟩)), .nil, .nil])), (3, (.cells 38 [(jS a.fID), (.own (1001, 10) g1 1 (a.fClasses.map strAV)), (.own (1002, 44) g2 2 (a.fPairs.map aPair))]))] [((1001, 10), g1), ((1002, 44), g2)] (ak (ac (wrE (i + 1) (i + 1) (by omega)) (ak an))) (by kernel_rfl) ?_
   exact ⟨rfl, (weak_sx (show WkX _ _ _ from ⟨rfl, rfl, rfl, rfl, (show ((jI (i + 1)) : SV) = (jI (cond (aPQ s i) (i + 1) i)) from by rw [hb2, cond_true]), trivial⟩) (show WkBx _ _ from ⟨⟨rfl, ⟨rfl, rfl, rfl, trivial⟩⟩, ⟨rfl, ⟨rfl, ⟨rfl, rfl, rfl, rfl⟩, ⟨rfl, rfl, rfl, rfl⟩, trivial⟩⟩, trivial⟩) (show WkG _ _ _ from ⟨rfl, rfl, rfl, rfl, trivial⟩))⟩
  ·refine W_condF (b := cond (((byt s (Int.toNat i) : Nat) : Int) == 35) true (((byt s (Int.toNat i) : Nat) : Int) == 46)) (by kernel_rfl) hb2 ?_
   obtain ⟨hb2a, hb2o⟩ := cond_tt hb2
   have hb2ap := ne_of_beq_false hb2a
   have hb2op := ne_of_beq_false hb2o
   refine W_runX [] .normal 111 [(1, (jS s)), (2, (jI i)), (3, (.ptr 3 0)), (6, (.ptr 6 0)), (9, (jI i))] [(6, (.cells 38 [(jS (⟨#[]⟩)), .nil, .nil])), (3, (.cells 38 [(jS a.fID), (.own (1001, 10) g1 1 (a.fClasses.map strAV)), (.own (1002, 44) g2 2 (a.fPairs.map aPair))]))] [((1001, 10), g1), ((1002, 44), g2)] an (by kernel_rfl) ?_
   exact ⟨rfl, (weak_sx (show WkX _ _ _ from ⟨rfl, rfl, rfl, rfl, (show ((jI i) : SV) = (jI (cond (aPQ s i) (i + 1) i)) from by rw [hb2, cond_false]), trivial⟩) (show WkBx _ _ from ⟨⟨rfl, ⟨rfl, rfl, rfl, trivial⟩⟩, ⟨rfl, ⟨rfl, ⟨rfl, rfl, rfl, rfl⟩, ⟨rfl, rfl, rfl, rfl⟩, trivial⟩⟩, trivial⟩) (show WkG _ _ _ from ⟨rfl, rfl, rfl, rfl, trivial⟩))⟩
 have := cond_or (aPQ s i) (i + 1) i
 refine W_seq ?_
 have := wordI_bd s (cond (aPQ s i) (i + 1) i) (by omega)
 refine W_runX [.c (jI (wordI s (cond (aPQ s i) (i + 1) i))) [] [] []] .normal 111 [(1, (jS s)), (2, (jI i)), (3, (.ptr 3 0)), (6, (.ptr 6 0)), (9, (jI (cond (aPQ s i) (i + 1) i))), (10, (jI (wordI s (cond (aPQ s i) (i + 1) i))))] [(6, (.cells 38 [(jS (⟨#[]⟩)), .nil, .nil])), (3, (.cells 38 [(jS a.fID), (.own (1001, 10) g1 1 (a.fClasses.map strAV)), (.own (1002, 44) g2 2 (a.fPairs.map aPair))]))] [((1001, 10), g1), ((1002, 44), g2)] (akn 2 (ac (wordI_to s (cond (aPQ s i) (i + 1) i) (by omega) (by omega) (by omega)) (akn 2 an))) (by kernel_rfl) ?_
 show W _ _ _ _
 refine W_seq ?_
 refine W_seq ?_
 have := size_ext s (Int.toNat (cond (aPQ s i) (i + 1) i)) (Int.toNat (wordI s (cond (aPQ s i) (i + 1) i)))
 refine W_runX [.c (jB (nameB (ByteArray.extract s (Int.toNat (cond (aPQ s i) (i + 1) i)) (Int.toNat (wordI s (cond (aPQ s i) (i + 1) i)))))) [] [] []] .normal 111 [(1, (jS s)), (2, (jI i)), (3, (.ptr 3 0)), (6, (.ptr 6 0)), (9, (jI (cond (aPQ s i) (i + 1) i))), (10, (jI (wordI s (cond (aPQ s i) (i + 1) i)))), (38, (jB (!nameB (ByteArray.extract s (Int.toNat (cond (aPQ s i) (i + 1) i)) (Int.toNat (wordI s (cond (aPQ s i) (i + 1) i)))))))] [(6, (.cells 38 [(jS (⟨#[]⟩)), .nil, .nil])), (3, (.cells 38 [(jS a.fID), (.own (1001, 10) g1 1 (a.fClasses.map strAV)), (.own (1002, 44) g2 2 (a.fPairs.map aPair))]))] [((1001, 10), g1), ((1002, 44), g2)] (akn 3 (ac (show 0 ≤ (cond (aPQ s i) (i + 1) i : Int) ∧ (cond (aPQ s i) (i + 1) i : Int) ≤ wordI s (cond (aPQ s i) (i + 1) i) ∧ wordI s (cond (aPQ s i) (i + 1) i) ≤ ((ByteArray.size s : Nat) : Int) from (by omega)) (ac (rName_to (ByteArray.extract s (Int.toNat (cond (aPQ s i) (i + 1) i)) (Int.toNat (wordI s (cond (aPQ s i) (i + 1) i)))) (by unfold maxLen; omega)) (akn 2 an)))) (by kernel_rfl) ?_
 show W _ _ _ _
 rcases Bool.eq_false_or_eq_true (!nameB (ByteArray.extract s (Int.toNat (cond (aPQ s i) (i + 1) i)) (Int.toNat (wordI s (cond (aPQ s i) (i + 1) i))))) with hb3 | hb3
 ·refine W_condT (b := (!nameB (ByteArray.extract s (Int.toNat (cond (aPQ s i) (i + 1) i)) (Int.toNat (wordI s (cond (aPQ s i) (i + 1) i)))))) (by kernel_rfl) hb3 ?_
  have hb3n := nott hb3
  refine W_runX [] .ret 111 [(6, (.ptr 6 0)), (7, (jI 0)), (8, (jI 5))] [(6, (.cells 38 [(jS a.fID), (.own (1001, 10) g1 1 (a.fClasses.map strAV)), (.own (1002, 44) g2 2 (a.fPairs.map aPair))]))] [((1001, 10), g1), ((1002, 44), g2)] (akn 4 an) (by kernel_rfl) ?_
  refine skipS ?_ (by simp)
  refine ⟨_, (Ghost.trans (Ghost.trans (Ghost.refl _) (ghost_bump (1001, 10))) (ghost_bump (1002, 44))), ?_⟩
  exact endsK (r := (.tp [(.a [(.av (vS a.fID)), (.own (1001, 10) (g1 + 1) 1 (a.fClasses.map strAV)), (.own (1002, 44) (g2 + 1) 2 (a.fPairs.map aPair))]), (.c (.av (vI 0))), (.c (.av (vI 5)))])) (by simp) (by kernel_rfl) (by rw [show itemA a s i = (a, 0, 5) from by rw [itemA]; exact (cT hb3)]; first | done | first | rfl | (simp [strAV, vU, aPair_eq, aAttr_eq, aCited_eq, aInline_eq, aBlock_eq, aDoc_eq, aPoint_eq, aRange_eq, cPair, cAttr, cCited, cInline, cBlock, cDoc, cPoint, cRange]; done)) (by simp) (by intro p hp; simp only [List.mem_cons, List.not_mem_nil, or_false] at hp; rcases hp with rfl | rfl <;> rfl)
 ·refine W_condF (b := (!nameB (ByteArray.extract s (Int.toNat (cond (aPQ s i) (i + 1) i)) (Int.toNat (wordI s (cond (aPQ s i) (i + 1) i)))))) (by kernel_rfl) hb3 ?_
  have hb3n := notf hb3
  refine W_runX [] .normal 111 [(1, (jS s)), (2, (jI i)), (3, (.ptr 3 0)), (6, (.ptr 6 0)), (9, (jI (cond (aPQ s i) (i + 1) i))), (10, (jI (wordI s (cond (aPQ s i) (i + 1) i))))] [(6, (.cells 38 [(jS (⟨#[]⟩)), .nil, .nil])), (3, (.cells 38 [(jS a.fID), (.own (1001, 10) g1 1 (a.fClasses.map strAV)), (.own (1002, 44) g2 2 (a.fPairs.map aPair))]))] [((1001, 10), g1), ((1002, 44), g2)] an (by kernel_rfl) ?_
  show W _ _ _ _
  refine W_seq ?_
  have := size_ext s (Int.toNat (cond (aPQ s i) (i + 1) i)) (Int.toNat (wordI s (cond (aPQ s i) (i + 1) i)))
  refine W_runX [] .normal 111 [(1, (jS s)), (2, (jI i)), (3, (.ptr 3 0)), (6, (.ptr 6 0)), (10, (jI (wordI s (cond (aPQ s i) (i + 1) i)))), (11, (jS (ByteArray.extract s (Int.toNat (cond (aPQ s i) (i + 1) i)) (Int.toNat (wordI s (cond (aPQ s i) (i + 1) i))))))] [(6, (.cells 38 [(jS (⟨#[]⟩)), .nil, .nil])), (3, (.cells 38 [(jS a.fID), (.own (1001, 10) g1 1 (a.fClasses.map strAV)), (.own (1002, 44) g2 2 (a.fPairs.map aPair))]))] [((1001, 10), g1), ((1002, 44), g2)] (akn 3 (ac (show 0 ≤ (cond (aPQ s i) (i + 1) i : Int) ∧ (cond (aPQ s i) (i + 1) i : Int) ≤ wordI s (cond (aPQ s i) (i + 1) i) ∧ wordI s (cond (aPQ s i) (i + 1) i) ≤ ((ByteArray.size s : Nat) : Int) from (by omega)) (ak an))) (by kernel_rfl) ?_
  show W _ _ _ _
  refine W_seq ?_
  refine W_seq ?_
  refine W_runX [] .normal 111 [(1, (jS s)), (2, (jI i)), (3, (.ptr 3 0)), (6, (.ptr 6 0)), (10, (jI (wordI s (cond (aPQ s i) (i + 1) i)))), (11, (jS (ByteArray.extract s (Int.toNat (cond (aPQ s i) (i + 1) i)) (Int.toNat (wordI s (cond (aPQ s i) (i + 1) i)))))), (47, (jB (((byt s (Int.toNat i) : Nat) : Int) == 35)))] [(6, (.cells 38 [(jS (⟨#[]⟩)), .nil, .nil])), (3, (.cells 38 [(jS a.fID), (.own (1001, 10) g1 1 (a.fClasses.map strAV)), (.own (1002, 44) g2 2 (a.fPairs.map aPair))]))] [((1001, 10), g1), ((1002, 44), g2)] (akn 2 (ac (show 0 ≤ (i : Int) ∧ (i : Int) < ((ByteArray.size s : Nat) : Int) from (by omega)) (ak an))) (by kernel_rfl) ?_
  show W _ _ _ _
  rcases Bool.eq_false_or_eq_true (((byt s (Int.toNat i) : Nat) : Int) == 35) with hb4 | hb4
  ·refine W_condT (b := (((byt s (Int.toNat i) : Nat) : Int) == 35)) (by kernel_rfl) hb4 ?_
   have hb4p := eq_of_beq hb4
   refine W_seq ?_
   refine W_seq ?_
   refine W_runX [] .normal 111 [(3, (.ptr 3 0)), (6, (.ptr 6 0)), (10, (jI (wordI s (cond (aPQ s i) (i + 1) i)))), (11, (jS (ByteArray.extract s (Int.toNat (cond (aPQ s i) (i + 1) i)) (Int.toNat (wordI s (cond (aPQ s i) (i + 1) i)))))), (50, (jB (!eqs a.fID (⟨#[]⟩))))] [(6, (.cells 38 [(jS (⟨#[]⟩)), .nil, .nil])), (3, (.cells 38 [(jS a.fID), (.own (1001, 10) g1 1 (a.fClasses.map strAV)), (.own (1002, 44) g2 2 (a.fPairs.map aPair))]))] [((1001, 10), g1), ((1002, 44), g2)] (akn 3 an) (by kernel_rfl) ?_
   show W _ _ _ _
   rcases Bool.eq_false_or_eq_true (!eqs a.fID (⟨#[]⟩)) with hb5 | hb5
   ·refine W_condT (b := (!eqs a.fID (⟨#[]⟩))) (by kernel_rfl) hb5 ?_
    have hb5n := nott hb5
    have hb5z := size_neqs_t hb5
    refine W_runX [] .ret 111 [(6, (.ptr 6 0)), (7, (jI 0)), (8, (jI 7))] [(6, (.cells 38 [(jS a.fID), (.own (1001, 10) g1 1 (a.fClasses.map strAV)), (.own (1002, 44) g2 2 (a.fPairs.map aPair))]))] [((1001, 10), g1), ((1002, 44), g2)] (akn 4 an) (by kernel_rfl) ?_
    refine skipS ?_ (by simp)
    refine skipS ?_ (by simp)
    refine ⟨_, (Ghost.trans (Ghost.trans (Ghost.refl _) (ghost_bump (1001, 10))) (ghost_bump (1002, 44))), ?_⟩
    exact endsK (r := (.tp [(.a [(.av (vS a.fID)), (.own (1001, 10) (g1 + 1) 1 (a.fClasses.map strAV)), (.own (1002, 44) (g2 + 1) 2 (a.fPairs.map aPair))]), (.c (.av (vI 0))), (.c (.av (vI 7)))])) (by simp) (by kernel_rfl) (by rw [show itemA a s i = (a, 0, 7) from by rw [itemA]; exact (cF hb3).trans ((cT hb4).trans (cT hb5))]; first | done | first | rfl | (simp [strAV, vU, aPair_eq, aAttr_eq, aCited_eq, aInline_eq, aBlock_eq, aDoc_eq, aPoint_eq, aRange_eq, cPair, cAttr, cCited, cInline, cBlock, cDoc, cPoint, cRange]; done)) (by simp) (by intro p hp; simp only [List.mem_cons, List.not_mem_nil, or_false] at hp; rcases hp with rfl | rfl <;> rfl)
   ·refine W_condF (b := (!eqs a.fID (⟨#[]⟩))) (by kernel_rfl) hb5 ?_
    have hb5n := notf hb5
    have hb5z := size_neqs_f hb5
    refine W_runX [] .normal 111 [(3, (.ptr 3 0)), (6, (.ptr 6 0)), (10, (jI (wordI s (cond (aPQ s i) (i + 1) i)))), (11, (jS (ByteArray.extract s (Int.toNat (cond (aPQ s i) (i + 1) i)) (Int.toNat (wordI s (cond (aPQ s i) (i + 1) i))))))] [(6, (.cells 38 [(jS (⟨#[]⟩)), .nil, .nil])), (3, (.cells 38 [(jS a.fID), (.own (1001, 10) g1 1 (a.fClasses.map strAV)), (.own (1002, 44) g2 2 (a.fPairs.map aPair))]))] [((1001, 10), g1), ((1002, 44), g2)] an (by kernel_rfl) ?_
    show W _ _ _ _
    refine W_runX [] .ret 111 [(6, (.ptr 6 0)), (7, (jI (wordI s (cond (aPQ s i) (i + 1) i)))), (8, (jI 0))] [(6, (.cells 38 [(jS (ByteArray.extract s (Int.toNat (cond (aPQ s i) (i + 1) i)) (Int.toNat (wordI s (cond (aPQ s i) (i + 1) i))))), (.own (1001, 10) g1 1 (a.fClasses.map strAV)), (.own (1002, 44) g2 2 (a.fPairs.map aPair))]))] [((1001, 10), g1), ((1002, 44), g2)] (akn 8 an) (by kernel_rfl) ?_
    refine skipS ?_ (by simp)
    refine ⟨_, (Ghost.trans (Ghost.trans (Ghost.refl _) (ghost_bump (1001, 10))) (ghost_bump (1002, 44))), ?_⟩
    exact endsK (r := (.tp [(.a [(.av (vS (ByteArray.extract s (Int.toNat (cond (aPQ s i) (i + 1) i)) (Int.toNat (wordI s (cond (aPQ s i) (i + 1) i)))))), (.own (1001, 10) (g1 + 1) 1 (a.fClasses.map strAV)), (.own (1002, 44) (g2 + 1) 2 (a.fPairs.map aPair))]), (.c (.av (vI (wordI s (cond (aPQ s i) (i + 1) i))))), (.c (.av (vI 0)))])) (by simp) (by kernel_rfl) (by rw [show itemA a s i = (DAttr.mk (ByteArray.extract s (Int.toNat (cond (aPQ s i) (i + 1) i)) (Int.toNat (wordI s (cond (aPQ s i) (i + 1) i)))) a.fClasses a.fPairs, wordI s (cond (aPQ s i) (i + 1) i), 0) from by rw [itemA]; exact (cF hb3).trans ((cT hb4).trans (cF hb5))]; first | done | first | rfl | (simp [strAV, vU, aPair_eq, aAttr_eq, aCited_eq, aInline_eq, aBlock_eq, aDoc_eq, aPoint_eq, aRange_eq, cPair, cAttr, cCited, cInline, cBlock, cDoc, cPoint, cRange]; done)) (by simp) (by intro p hp; simp only [List.mem_cons, List.not_mem_nil, or_false] at hp; rcases hp with rfl | rfl <;> rfl)
  ·refine W_condF (b := (((byt s (Int.toNat i) : Nat) : Int) == 35)) (by kernel_rfl) hb4 ?_
   have hb4p := ne_of_beq_false hb4
   refine W_runX [] .normal 111 [(1, (jS s)), (2, (jI i)), (3, (.ptr 3 0)), (6, (.ptr 6 0)), (10, (jI (wordI s (cond (aPQ s i) (i + 1) i)))), (11, (jS (ByteArray.extract s (Int.toNat (cond (aPQ s i) (i + 1) i)) (Int.toNat (wordI s (cond (aPQ s i) (i + 1) i))))))] [(6, (.cells 38 [(jS (⟨#[]⟩)), .nil, .nil])), (3, (.cells 38 [(jS a.fID), (.own (1001, 10) g1 1 (a.fClasses.map strAV)), (.own (1002, 44) g2 2 (a.fPairs.map aPair))]))] [((1001, 10), g1), ((1002, 44), g2)] an (by kernel_rfl) ?_
   show W _ _ _ _
   refine W_seq ?_
   refine W_seq ?_
   refine W_runX [] .normal 111 [(1, (jS s)), (3, (.ptr 3 0)), (6, (.ptr 6 0)), (10, (jI (wordI s (cond (aPQ s i) (i + 1) i)))), (11, (jS (ByteArray.extract s (Int.toNat (cond (aPQ s i) (i + 1) i)) (Int.toNat (wordI s (cond (aPQ s i) (i + 1) i)))))), (59, (jB (((byt s (Int.toNat i) : Nat) : Int) == 46)))] [(6, (.cells 38 [(jS (⟨#[]⟩)), .nil, .nil])), (3, (.cells 38 [(jS a.fID), (.own (1001, 10) g1 1 (a.fClasses.map strAV)), (.own (1002, 44) g2 2 (a.fPairs.map aPair))]))] [((1001, 10), g1), ((1002, 44), g2)] (akn 2 (ac (show 0 ≤ (i : Int) ∧ (i : Int) < ((ByteArray.size s : Nat) : Int) from (by omega)) (ak an))) (by kernel_rfl) ?_
   show W _ _ _ _
   rcases Bool.eq_false_or_eq_true (((byt s (Int.toNat i) : Nat) : Int) == 46) with hb6 | hb6
   ·refine W_condT (b := (((byt s (Int.toNat i) : Nat) : Int) == 46)) (by kernel_rfl) hb6 ?_
    have hb6p := eq_of_beq hb6
    have := clsA_bd a (ByteArray.extract s (Int.toNat (cond (aPQ s i) (i + 1) i)) (Int.toNat (wordI s (cond (aPQ s i) (i + 1) i)))) (by omega)
    refine W_runX [.c (.tp [(.a [(.av (vS (((clsA a (ByteArray.extract s (Int.toNat (cond (aPQ s i) (i + 1) i)) (Int.toNat (wordI s (cond (aPQ s i) (i + 1) i))))).1).fID))), (.own (1001, 10) (g1 + 1) 1 ((((clsA a (ByteArray.extract s (Int.toNat (cond (aPQ s i) (i + 1) i)) (Int.toNat (wordI s (cond (aPQ s i) (i + 1) i))))).1).fClasses).map strAV)), (.own (1002, 44) (g2 + 1) 2 ((((clsA a (ByteArray.extract s (Int.toNat (cond (aPQ s i) (i + 1) i)) (Int.toNat (wordI s (cond (aPQ s i) (i + 1) i))))).1).fPairs).map aPair))]), (.c (.av (vI ((clsA a (ByteArray.extract s (Int.toNat (cond (aPQ s i) (i + 1) i)) (Int.toNat (wordI s (cond (aPQ s i) (i + 1) i))))).2))))]) [] [((1001, 10), g1), ((1002, 44), g2)] [((1001, 10), g1 + 1), ((1002, 44), g2 + 1)]] .ret 111 [(6, (.ptr 6 0)), (7, (jI (wordI s (cond (aPQ s i) (i + 1) i)))), (8, (jI ((clsA a (ByteArray.extract s (Int.toNat (cond (aPQ s i) (i + 1) i)) (Int.toNat (wordI s (cond (aPQ s i) (i + 1) i))))).2)))] [(6, (.cells 38 [(jS (((clsA a (ByteArray.extract s (Int.toNat (cond (aPQ s i) (i + 1) i)) (Int.toNat (wordI s (cond (aPQ s i) (i + 1) i))))).1).fID)), (.own (1001, 10) (g1 + 1) 1 ((((clsA a (ByteArray.extract s (Int.toNat (cond (aPQ s i) (i + 1) i)) (Int.toNat (wordI s (cond (aPQ s i) (i + 1) i))))).1).fClasses).map strAV)), (.own (1002, 44) (g2 + 1) 2 ((((clsA a (ByteArray.extract s (Int.toNat (cond (aPQ s i) (i + 1) i)) (Int.toNat (wordI s (cond (aPQ s i) (i + 1) i))))).1).fPairs).map aPair))]))] [((1001, 10), g1 + 1), ((1002, 44), g2 + 1)] (akn 2 (ac (clsA_to a (ByteArray.extract s (Int.toNat (cond (aPQ s i) (i + 1) i)) (Int.toNat (wordI s (cond (aPQ s i) (i + 1) i)))) g1 g2 (by omega)) (ac (show (g1 : Nat) = g1 ∧ (g2 : Nat) = g2 ∧ True from ⟨rfl, rfl, trivial⟩) (akn 12 an)))) (by kernel_rfl) ?_
    refine skipS ?_ (by simp)
    refine ⟨_, Ghost.refl _, ?_⟩
    exact endsK (r := (.tp [(.a [(.av (vS (((clsA a (ByteArray.extract s (Int.toNat (cond (aPQ s i) (i + 1) i)) (Int.toNat (wordI s (cond (aPQ s i) (i + 1) i))))).1).fID))), (.own (1001, 10) (g1 + 1) 1 ((((clsA a (ByteArray.extract s (Int.toNat (cond (aPQ s i) (i + 1) i)) (Int.toNat (wordI s (cond (aPQ s i) (i + 1) i))))).1).fClasses).map strAV)), (.own (1002, 44) (g2 + 1) 2 ((((clsA a (ByteArray.extract s (Int.toNat (cond (aPQ s i) (i + 1) i)) (Int.toNat (wordI s (cond (aPQ s i) (i + 1) i))))).1).fPairs).map aPair))]), (.c (.av (vI (wordI s (cond (aPQ s i) (i + 1) i))))), (.c (.av (vI ((clsA a (ByteArray.extract s (Int.toNat (cond (aPQ s i) (i + 1) i)) (Int.toNat (wordI s (cond (aPQ s i) (i + 1) i))))).2))))])) (by simp) (by kernel_rfl) (by rw [show itemA a s i = ((clsA a (ByteArray.extract s (Int.toNat (cond (aPQ s i) (i + 1) i)) (Int.toNat (wordI s (cond (aPQ s i) (i + 1) i))))).1, wordI s (cond (aPQ s i) (i + 1) i), (clsA a (ByteArray.extract s (Int.toNat (cond (aPQ s i) (i + 1) i)) (Int.toNat (wordI s (cond (aPQ s i) (i + 1) i))))).2) from by rw [itemA]; exact (cF hb3).trans ((cF hb4).trans (cT hb6))]; first | done | first | rfl | (simp [strAV, vU, aPair_eq, aAttr_eq, aCited_eq, aInline_eq, aBlock_eq, aDoc_eq, aPoint_eq, aRange_eq, cPair, cAttr, cCited, cInline, cBlock, cDoc, cPoint, cRange]; done)) (by simp) (by intro p hp; simp only [List.mem_cons, List.not_mem_nil, or_false] at hp; rcases hp with rfl | rfl <;> rfl)
   ·refine W_condF (b := (((byt s (Int.toNat i) : Nat) : Int) == 46)) (by kernel_rfl) hb6 ?_
    have hb6p := ne_of_beq_false hb6
    refine W_runX [] .normal 111 [(1, (jS s)), (3, (.ptr 3 0)), (6, (.ptr 6 0)), (10, (jI (wordI s (cond (aPQ s i) (i + 1) i)))), (11, (jS (ByteArray.extract s (Int.toNat (cond (aPQ s i) (i + 1) i)) (Int.toNat (wordI s (cond (aPQ s i) (i + 1) i))))))] [(6, (.cells 38 [(jS (⟨#[]⟩)), .nil, .nil])), (3, (.cells 38 [(jS a.fID), (.own (1001, 10) g1 1 (a.fClasses.map strAV)), (.own (1002, 44) g2 2 (a.fPairs.map aPair))]))] [((1001, 10), g1), ((1002, 44), g2)] an (by kernel_rfl) ?_
    show W _ _ _ _
    refine W_seq ?_
    refine W_mid (S' := (sx 111 [(1, (jS s)), (3, (.ptr 3 0)), (6, (.ptr 6 0)), (10, (jI (wordI s (cond (aPQ s i) (i + 1) i)))), (11, (jS (ByteArray.extract s (Int.toNat (cond (aPQ s i) (i + 1) i)) (Int.toNat (wordI s (cond (aPQ s i) (i + 1) i)))))), (78, (jB (cond (decide ((wordI s (cond (aPQ s i) (i + 1) i) : Int) ≥ ((ByteArray.size s : Nat) : Int))) true (((byt s (Int.toNat (wordI s (cond (aPQ s i) (i + 1) i))) : Nat) : Int) != 61))))] [(6, (.cells 38 [(jS (⟨#[]⟩)), .nil, .nil])), (3, (.cells 38 [(jS a.fID), (.own (1001, 10) g1 1 (a.fClasses.map strAV)), (.own (1002, 44) g2 2 (a.fPairs.map aPair))]))] [((1001, 10), g1), ((1002, 44), g2)])) ?_ ?_
    ·rcases Bool.eq_false_or_eq_true (decide ((wordI s (cond (aPQ s i) (i + 1) i) : Int) ≥ ((ByteArray.size s : Nat) : Int))) with hb7 | hb7
     ·have hb7p := of_decide_eq_true hb7
      refine W_runX (rp 5 oT []) .normal 111 [(1, (jS s)), (3, (.ptr 3 0)), (6, (.ptr 6 0)), (10, (jI (wordI s (cond (aPQ s i) (i + 1) i)))), (11, (jS (ByteArray.extract s (Int.toNat (cond (aPQ s i) (i + 1) i)) (Int.toNat (wordI s (cond (aPQ s i) (i + 1) i)))))), (78, (jB true))] [(6, (.cells 38 [(jS (⟨#[]⟩)), .nil, .nil])), (3, (.cells 38 [(jS a.fID), (.own (1001, 10) g1 1 (a.fClasses.map strAV)), (.own (1002, 44) g2 2 (a.fPairs.map aPair))]))] [((1001, 10), g1), ((1002, 44), g2)] (akn 5 (acn 5 hb7 an)) (by kernel_rfl) ?_
      exact ⟨rfl, (weak_sx (show WkX _ _ _ from ⟨rfl, rfl, rfl, rfl, rfl, (show ((jB true) : SV) = (jB (cond (decide ((wordI s (cond (aPQ s i) (i + 1) i) : Int) ≥ ((ByteArray.size s : Nat) : Int))) true (((byt s (Int.toNat (wordI s (cond (aPQ s i) (i + 1) i))) : Nat) : Int) != 61))) from by rw [hb7, cond_true]), trivial⟩) (show WkBx _ _ from ⟨⟨rfl, ⟨rfl, rfl, rfl, trivial⟩⟩, ⟨rfl, ⟨rfl, ⟨rfl, rfl, rfl, rfl⟩, ⟨rfl, rfl, rfl, rfl⟩, trivial⟩⟩, trivial⟩) (show WkG _ _ _ from ⟨rfl, rfl, rfl, rfl, trivial⟩))⟩
     ·have hb7p := of_decide_eq_false hb7
      refine W_runX (rp 5 oF []) .normal 111 [(1, (jS s)), (3, (.ptr 3 0)), (6, (.ptr 6 0)), (10, (jI (wordI s (cond (aPQ s i) (i + 1) i)))), (11, (jS (ByteArray.extract s (Int.toNat (cond (aPQ s i) (i + 1) i)) (Int.toNat (wordI s (cond (aPQ s i) (i + 1) i)))))), (78, (jB (((byt s (Int.toNat (wordI s (cond (aPQ s i) (i + 1) i))) : Nat) : Int) != 61)))] [(6, (.cells 38 [(jS (⟨#[]⟩)), .nil, .nil])), (3, (.cells 38 [(jS a.fID), (.own (1001, 10) g1 1 (a.fClasses.map strAV)), (.own (1002, 44) g2 2 (a.fPairs.map aPair))]))] [((1001, 10), g1), ((1002, 44), g2)] (akn 5 (apn 2 hb7 (ac hb7 (ac (show 0 ≤ (wordI s (cond (aPQ s i) (i + 1) i) : Int) ∧ (wordI s (cond (aPQ s i) (i + 1) i) : Int) < ((ByteArray.size s : Nat) : Int) from (by omega)) (ac hb7 (ak (ac hb7 an))))))) (by kernel_rfl) ?_
      exact ⟨rfl, (weak_sx (show WkX _ _ _ from ⟨rfl, rfl, rfl, rfl, rfl, (show ((jB (((byt s (Int.toNat (wordI s (cond (aPQ s i) (i + 1) i))) : Nat) : Int) != 61)) : SV) = (jB (cond (decide ((wordI s (cond (aPQ s i) (i + 1) i) : Int) ≥ ((ByteArray.size s : Nat) : Int))) true (((byt s (Int.toNat (wordI s (cond (aPQ s i) (i + 1) i))) : Nat) : Int) != 61))) from by rw [hb7, cond_false]), trivial⟩) (show WkBx _ _ from ⟨⟨rfl, ⟨rfl, rfl, rfl, trivial⟩⟩, ⟨rfl, ⟨rfl, ⟨rfl, rfl, rfl, rfl⟩, ⟨rfl, rfl, rfl, rfl⟩, trivial⟩⟩, trivial⟩) (show WkG _ _ _ from ⟨rfl, rfl, rfl, rfl, trivial⟩))⟩
    rcases Bool.eq_false_or_eq_true (cond (decide ((wordI s (cond (aPQ s i) (i + 1) i) : Int) ≥ ((ByteArray.size s : Nat) : Int))) true (((byt s (Int.toNat (wordI s (cond (aPQ s i) (i + 1) i))) : Nat) : Int) != 61)) with hb8 | hb8
    ·refine W_condT (b := cond (decide ((wordI s (cond (aPQ s i) (i + 1) i) : Int) ≥ ((ByteArray.size s : Nat) : Int))) true (((byt s (Int.toNat (wordI s (cond (aPQ s i) (i + 1) i))) : Nat) : Int) != 61)) (by kernel_rfl) hb8 ?_
     refine W_runX [] .ret 111 [(6, (.ptr 6 0)), (7, (jI 0)), (8, (jI 5))] [(6, (.cells 38 [(jS a.fID), (.own (1001, 10) g1 1 (a.fClasses.map strAV)), (.own (1002, 44) g2 2 (a.fPairs.map aPair))]))] [((1001, 10), g1), ((1002, 44), g2)] (akn 4 an) (by kernel_rfl) ?_
     refine skipS ?_ (by simp)
     refine ⟨_, (Ghost.trans (Ghost.trans (Ghost.refl _) (ghost_bump (1001, 10))) (ghost_bump (1002, 44))), ?_⟩
     exact endsK (r := (.tp [(.a [(.av (vS a.fID)), (.own (1001, 10) (g1 + 1) 1 (a.fClasses.map strAV)), (.own (1002, 44) (g2 + 1) 2 (a.fPairs.map aPair))]), (.c (.av (vI 0))), (.c (.av (vI 5)))])) (by simp) (by kernel_rfl) (by rw [show itemA a s i = (a, 0, 5) from by rw [itemA]; exact (cF hb3).trans ((cF hb4).trans ((cF hb6).trans (cT hb8)))]; first | done | first | rfl | (simp [strAV, vU, aPair_eq, aAttr_eq, aCited_eq, aInline_eq, aBlock_eq, aDoc_eq, aPoint_eq, aRange_eq, cPair, cAttr, cCited, cInline, cBlock, cDoc, cPoint, cRange]; done)) (by simp) (by intro p hp; simp only [List.mem_cons, List.not_mem_nil, or_false] at hp; rcases hp with rfl | rfl <;> rfl)
    ·refine W_condF (b := cond (decide ((wordI s (cond (aPQ s i) (i + 1) i) : Int) ≥ ((ByteArray.size s : Nat) : Int))) true (((byt s (Int.toNat (wordI s (cond (aPQ s i) (i + 1) i))) : Nat) : Int) != 61)) (by kernel_rfl) hb8 ?_
     obtain ⟨hb8a, hb8o⟩ := cond_tt hb8
     have hb8ap := of_decide_eq_false hb8a
     have hb8op := eq_of_bne_false hb8o
     refine W_runX [] .normal 111 [(1, (jS s)), (3, (.ptr 3 0)), (6, (.ptr 6 0)), (10, (jI (wordI s (cond (aPQ s i) (i + 1) i)))), (11, (jS (ByteArray.extract s (Int.toNat (cond (aPQ s i) (i + 1) i)) (Int.toNat (wordI s (cond (aPQ s i) (i + 1) i))))))] [(6, (.cells 38 [(jS (⟨#[]⟩)), .nil, .nil])), (3, (.cells 38 [(jS a.fID), (.own (1001, 10) g1 1 (a.fClasses.map strAV)), (.own (1002, 44) g2 2 (a.fPairs.map aPair))]))] [((1001, 10), g1), ((1002, 44), g2)] an (by kernel_rfl) ?_
     show W _ _ _ _
     refine W_seq ?_
     have := vluR_bd s ((wordI s (cond (aPQ s i) (i + 1) i)) + 1) (by omega) (by omega)
     refine W_runX [.n ((wordI s (cond (aPQ s i) (i + 1) i)) + 1), .c (.av (.tup [(vS ((vluR s ((wordI s (cond (aPQ s i) (i + 1) i)) + 1)).1)), (vI ((vluR s ((wordI s (cond (aPQ s i) (i + 1) i)) + 1)).2.1)), (vB ((vluR s ((wordI s (cond (aPQ s i) (i + 1) i)) + 1)).2.2))])) [] [] []] .normal 111 [(3, (.ptr 3 0)), (6, (.ptr 6 0)), (11, (jS (ByteArray.extract s (Int.toNat (cond (aPQ s i) (i + 1) i)) (Int.toNat (wordI s (cond (aPQ s i) (i + 1) i)))))), (14, (jS ((vluR s ((wordI s (cond (aPQ s i) (i + 1) i)) + 1)).1))), (15, (jI ((vluR s ((wordI s (cond (aPQ s i) (i + 1) i)) + 1)).2.1))), (16, (jB ((vluR s ((wordI s (cond (aPQ s i) (i + 1) i)) + 1)).2.2)))] [(6, (.cells 38 [(jS (⟨#[]⟩)), .nil, .nil])), (3, (.cells 38 [(jS a.fID), (.own (1001, 10) g1 1 (a.fClasses.map strAV)), (.own (1002, 44) g2 2 (a.fPairs.map aPair))]))] [((1001, 10), g1), ((1002, 44), g2)] (akn 2 (ac (wrE ((wordI s (cond (aPQ s i) (i + 1) i)) + 1) ((wordI s (cond (aPQ s i) (i + 1) i)) + 1) (by omega)) (ac (vluR_to s ((wordI s (cond (aPQ s i) (i + 1) i)) + 1) (by omega) (by omega) (by omega)) (akn 8 an)))) (by kernel_rfl) ?_
     show W _ _ _ _
     refine W_seq ?_
     refine W_seq ?_
     refine W_runX [] .normal 111 [(3, (.ptr 3 0)), (6, (.ptr 6 0)), (11, (jS (ByteArray.extract s (Int.toNat (cond (aPQ s i) (i + 1) i)) (Int.toNat (wordI s (cond (aPQ s i) (i + 1) i)))))), (14, (jS ((vluR s ((wordI s (cond (aPQ s i) (i + 1) i)) + 1)).1))), (15, (jI ((vluR s ((wordI s (cond (aPQ s i) (i + 1) i)) + 1)).2.1))), (89, (jB (!(vluR s ((wordI s (cond (aPQ s i) (i + 1) i)) + 1)).2.2)))] [(6, (.cells 38 [(jS (⟨#[]⟩)), .nil, .nil])), (3, (.cells 38 [(jS a.fID), (.own (1001, 10) g1 1 (a.fClasses.map strAV)), (.own (1002, 44) g2 2 (a.fPairs.map aPair))]))] [((1001, 10), g1), ((1002, 44), g2)] (akn 2 an) (by kernel_rfl) ?_
     show W _ _ _ _
     rcases Bool.eq_false_or_eq_true (!(vluR s ((wordI s (cond (aPQ s i) (i + 1) i)) + 1)).2.2) with hb9 | hb9
     ·refine W_condT (b := (!(vluR s ((wordI s (cond (aPQ s i) (i + 1) i)) + 1)).2.2)) (by kernel_rfl) hb9 ?_
      have hb9n := nott hb9
      refine W_runX [] .ret 111 [(6, (.ptr 6 0)), (7, (jI 0)), (8, (jI 5))] [(6, (.cells 38 [(jS a.fID), (.own (1001, 10) g1 1 (a.fClasses.map strAV)), (.own (1002, 44) g2 2 (a.fPairs.map aPair))]))] [((1001, 10), g1), ((1002, 44), g2)] (akn 4 an) (by kernel_rfl) ?_
      refine skipS ?_ (by simp)
      refine ⟨_, (Ghost.trans (Ghost.trans (Ghost.refl _) (ghost_bump (1001, 10))) (ghost_bump (1002, 44))), ?_⟩
      exact endsK (r := (.tp [(.a [(.av (vS a.fID)), (.own (1001, 10) (g1 + 1) 1 (a.fClasses.map strAV)), (.own (1002, 44) (g2 + 1) 2 (a.fPairs.map aPair))]), (.c (.av (vI 0))), (.c (.av (vI 5)))])) (by simp) (by kernel_rfl) (by rw [show itemA a s i = (a, 0, 5) from by rw [itemA]; exact (cF hb3).trans ((cF hb4).trans ((cF hb6).trans ((cF hb8).trans (cT hb9))))]; first | done | first | rfl | (simp [strAV, vU, aPair_eq, aAttr_eq, aCited_eq, aInline_eq, aBlock_eq, aDoc_eq, aPoint_eq, aRange_eq, cPair, cAttr, cCited, cInline, cBlock, cDoc, cPoint, cRange]; done)) (by simp) (by intro p hp; simp only [List.mem_cons, List.not_mem_nil, or_false] at hp; rcases hp with rfl | rfl <;> rfl)
     ·refine W_condF (b := (!(vluR s ((wordI s (cond (aPQ s i) (i + 1) i)) + 1)).2.2)) (by kernel_rfl) hb9 ?_
      have hb9n := notf hb9
      refine W_runX [] .normal 111 [(3, (.ptr 3 0)), (6, (.ptr 6 0)), (11, (jS (ByteArray.extract s (Int.toNat (cond (aPQ s i) (i + 1) i)) (Int.toNat (wordI s (cond (aPQ s i) (i + 1) i)))))), (14, (jS ((vluR s ((wordI s (cond (aPQ s i) (i + 1) i)) + 1)).1))), (15, (jI ((vluR s ((wordI s (cond (aPQ s i) (i + 1) i)) + 1)).2.1)))] [(6, (.cells 38 [(jS (⟨#[]⟩)), .nil, .nil])), (3, (.cells 38 [(jS a.fID), (.own (1001, 10) g1 1 (a.fClasses.map strAV)), (.own (1002, 44) g2 2 (a.fPairs.map aPair))]))] [((1001, 10), g1), ((1002, 44), g2)] an (by kernel_rfl) ?_
      show W _ _ _ _
      refine W_seq ?_
      refine W_seq ?_
      refine W_runX [.c (jB (hasK a.fPairs (ByteArray.extract s (Int.toNat (cond (aPQ s i) (i + 1) i)) (Int.toNat (wordI s (cond (aPQ s i) (i + 1) i)))))) [] [] []] .normal 111 [(3, (.ptr 3 0)), (6, (.ptr 6 0)), (11, (jS (ByteArray.extract s (Int.toNat (cond (aPQ s i) (i + 1) i)) (Int.toNat (wordI s (cond (aPQ s i) (i + 1) i)))))), (14, (jS ((vluR s ((wordI s (cond (aPQ s i) (i + 1) i)) + 1)).1))), (15, (jI ((vluR s ((wordI s (cond (aPQ s i) (i + 1) i)) + 1)).2.1))), (94, (jB (hasK a.fPairs (ByteArray.extract s (Int.toNat (cond (aPQ s i) (i + 1) i)) (Int.toNat (wordI s (cond (aPQ s i) (i + 1) i)))))))] [(6, (.cells 38 [(jS (⟨#[]⟩)), .nil, .nil])), (3, (.cells 38 [(jS a.fID), (.own (1001, 10) g1 1 (a.fClasses.map strAV)), (.own (1002, 44) g2 2 (a.fPairs.map aPair))]))] [((1001, 10), g1), ((1002, 44), g2)] (akn 3 (ac (hasK_to a.fPairs (ByteArray.extract s (Int.toNat (cond (aPQ s i) (i + 1) i)) (Int.toNat (wordI s (cond (aPQ s i) (i + 1) i)))) (by omega)) (ak an))) (by kernel_rfl) ?_
      show W _ _ _ _
      rcases Bool.eq_false_or_eq_true (hasK a.fPairs (ByteArray.extract s (Int.toNat (cond (aPQ s i) (i + 1) i)) (Int.toNat (wordI s (cond (aPQ s i) (i + 1) i))))) with hb10 | hb10
      ·refine W_condT (b := hasK a.fPairs (ByteArray.extract s (Int.toNat (cond (aPQ s i) (i + 1) i)) (Int.toNat (wordI s (cond (aPQ s i) (i + 1) i))))) (by kernel_rfl) hb10 ?_
       refine W_runX [] .ret 111 [(6, (.ptr 6 0)), (7, (jI 0)), (8, (jI 7))] [(6, (.cells 38 [(jS a.fID), (.own (1001, 10) g1 1 (a.fClasses.map strAV)), (.own (1002, 44) g2 2 (a.fPairs.map aPair))]))] [((1001, 10), g1), ((1002, 44), g2)] (akn 4 an) (by kernel_rfl) ?_
       refine skipS ?_ (by simp)
       refine ⟨_, (Ghost.trans (Ghost.trans (Ghost.refl _) (ghost_bump (1001, 10))) (ghost_bump (1002, 44))), ?_⟩
       exact endsK (r := (.tp [(.a [(.av (vS a.fID)), (.own (1001, 10) (g1 + 1) 1 (a.fClasses.map strAV)), (.own (1002, 44) (g2 + 1) 2 (a.fPairs.map aPair))]), (.c (.av (vI 0))), (.c (.av (vI 7)))])) (by simp) (by kernel_rfl) (by rw [show itemA a s i = (a, 0, 7) from by rw [itemA]; exact (cF hb3).trans ((cF hb4).trans ((cF hb6).trans ((cF hb8).trans ((cF hb9).trans (cT hb10)))))]; first | done | first | rfl | (simp [strAV, vU, aPair_eq, aAttr_eq, aCited_eq, aInline_eq, aBlock_eq, aDoc_eq, aPoint_eq, aRange_eq, cPair, cAttr, cCited, cInline, cBlock, cDoc, cPoint, cRange]; done)) (by simp) (by intro p hp; simp only [List.mem_cons, List.not_mem_nil, or_false] at hp; rcases hp with rfl | rfl <;> rfl)
      ·refine W_condF (b := hasK a.fPairs (ByteArray.extract s (Int.toNat (cond (aPQ s i) (i + 1) i)) (Int.toNat (wordI s (cond (aPQ s i) (i + 1) i))))) (by kernel_rfl) hb10 ?_
       refine W_runX [] .normal 111 [(3, (.ptr 3 0)), (6, (.ptr 6 0)), (11, (jS (ByteArray.extract s (Int.toNat (cond (aPQ s i) (i + 1) i)) (Int.toNat (wordI s (cond (aPQ s i) (i + 1) i)))))), (14, (jS ((vluR s ((wordI s (cond (aPQ s i) (i + 1) i)) + 1)).1))), (15, (jI ((vluR s ((wordI s (cond (aPQ s i) (i + 1) i)) + 1)).2.1)))] [(6, (.cells 38 [(jS (⟨#[]⟩)), .nil, .nil])), (3, (.cells 38 [(jS a.fID), (.own (1001, 10) g1 1 (a.fClasses.map strAV)), (.own (1002, 44) g2 2 (a.fPairs.map aPair))]))] [((1001, 10), g1), ((1002, 44), g2)] an (by kernel_rfl) ?_
       show W _ _ _ _
       refine W_seq ?_
       refine W_seq ?_
       refine W_runX [] .normal 111 [(3, (.ptr 3 0)), (6, (.ptr 6 0)), (11, (jS (ByteArray.extract s (Int.toNat (cond (aPQ s i) (i + 1) i)) (Int.toNat (wordI s (cond (aPQ s i) (i + 1) i)))))), (14, (jS ((vluR s ((wordI s (cond (aPQ s i) (i + 1) i)) + 1)).1))), (15, (jI ((vluR s ((wordI s (cond (aPQ s i) (i + 1) i)) + 1)).2.1))), (99, (jB (decide (((lenM aPair a.fPairs : Nat) : Int) ≥ 32))))] [(6, (.cells 38 [(jS (⟨#[]⟩)), .nil, .nil])), (3, (.cells 38 [(jS a.fID), (.own (1001, 10) g1 1 (a.fClasses.map strAV)), (.own (1002, 44) g2 2 (a.fPairs.map aPair))]))] [((1001, 10), g1), ((1002, 44), g2)] (akn 4 an) (by kernel_rfl) ?_
       show W _ _ _ _
       rcases Bool.eq_false_or_eq_true (decide (((lenM aPair a.fPairs : Nat) : Int) ≥ 32)) with hb11 | hb11
       ·refine W_condT (b := decide (((lenM aPair a.fPairs : Nat) : Int) ≥ 32)) (by kernel_rfl) hb11 ?_
        have hb11p := of_decide_eq_true hb11
        simp only [lenM_eq] at hb11p
        have hb11m : (decide (((List.length a.fPairs : Nat) : Int) ≥ 32)) = true := by simpa only [lenM_eq] using hb11
        refine W_runX [] .ret 111 [(6, (.ptr 6 0)), (7, (jI 0)), (8, (jI 3))] [(6, (.cells 38 [(jS a.fID), (.own (1001, 10) g1 1 (a.fClasses.map strAV)), (.own (1002, 44) g2 2 (a.fPairs.map aPair))]))] [((1001, 10), g1), ((1002, 44), g2)] (akn 4 an) (by kernel_rfl) ?_
        refine skipS ?_ (by simp)
        refine ⟨_, (Ghost.trans (Ghost.trans (Ghost.refl _) (ghost_bump (1001, 10))) (ghost_bump (1002, 44))), ?_⟩
        exact endsK (r := (.tp [(.a [(.av (vS a.fID)), (.own (1001, 10) (g1 + 1) 1 (a.fClasses.map strAV)), (.own (1002, 44) (g2 + 1) 2 (a.fPairs.map aPair))]), (.c (.av (vI 0))), (.c (.av (vI 3)))])) (by simp) (by kernel_rfl) (by rw [show itemA a s i = (a, 0, 3) from by rw [itemA]; exact (cF hb3).trans ((cF hb4).trans ((cF hb6).trans ((cF hb8).trans ((cF hb9).trans ((cF hb10).trans (cT hb11m))))))]; first | done | first | rfl | (simp [strAV, vU, aPair_eq, aAttr_eq, aCited_eq, aInline_eq, aBlock_eq, aDoc_eq, aPoint_eq, aRange_eq, cPair, cAttr, cCited, cInline, cBlock, cDoc, cPoint, cRange]; done)) (by simp) (by intro p hp; simp only [List.mem_cons, List.not_mem_nil, or_false] at hp; rcases hp with rfl | rfl <;> rfl)
       ·refine W_condF (b := decide (((lenM aPair a.fPairs : Nat) : Int) ≥ 32)) (by kernel_rfl) hb11 ?_
        have hb11p := of_decide_eq_false hb11
        simp only [lenM_eq] at hb11p
        have hb11m : (decide (((List.length a.fPairs : Nat) : Int) ≥ 32)) = false := by simpa only [lenM_eq] using hb11
        refine W_runX [] .normal 111 [(3, (.ptr 3 0)), (6, (.ptr 6 0)), (11, (jS (ByteArray.extract s (Int.toNat (cond (aPQ s i) (i + 1) i)) (Int.toNat (wordI s (cond (aPQ s i) (i + 1) i)))))), (14, (jS ((vluR s ((wordI s (cond (aPQ s i) (i + 1) i)) + 1)).1))), (15, (jI ((vluR s ((wordI s (cond (aPQ s i) (i + 1) i)) + 1)).2.1)))] [(6, (.cells 38 [(jS (⟨#[]⟩)), .nil, .nil])), (3, (.cells 38 [(jS a.fID), (.own (1001, 10) g1 1 (a.fClasses.map strAV)), (.own (1002, 44) g2 2 (a.fPairs.map aPair))]))] [((1001, 10), g1), ((1002, 44), g2)] an (by kernel_rfl) ?_
        show W _ _ _ _
        refine W_runX [] .ret 111 [(6, (.ptr 6 0)), (7, (jI ((vluR s ((wordI s (cond (aPQ s i) (i + 1) i)) + 1)).2.1))), (8, (jI 0))] [(6, (.cells 38 [(jS a.fID), (.own (1001, 10) g1 1 (a.fClasses.map strAV)), (.own (1002, 44) (g2 + 1) 2 ((a.fPairs.map aPair) ++ [(.agg [(vS (ByteArray.extract s (Int.toNat (cond (aPQ s i) (i + 1) i)) (Int.toNat (wordI s (cond (aPQ s i) (i + 1) i))))), (vS ((vluR s ((wordI s (cond (aPQ s i) (i + 1) i)) + 1)).1))])]))]))] [((1002, 44), g2 + 1), ((1001, 10), g1)] (akn 5 (ac (show Uni 2 [(.agg [(vS (ByteArray.extract s (Int.toNat (cond (aPQ s i) (i + 1) i)) (Int.toNat (wordI s (cond (aPQ s i) (i + 1) i))))), (vS ((vluR s ((wordI s (cond (aPQ s i) (i + 1) i)) + 1)).1))])] from (uni_one rfl rfl)) (ac (show (g2 : Nat) = g2 ∧ Uni 2 [(.agg [(vS (ByteArray.extract s (Int.toNat (cond (aPQ s i) (i + 1) i)) (Int.toNat (wordI s (cond (aPQ s i) (i + 1) i))))), (vS ((vluR s ((wordI s (cond (aPQ s i) (i + 1) i)) + 1)).1))])] ∧ (((a.fPairs.map aPair) : List AV).length + ([(.agg [(vS (ByteArray.extract s (Int.toNat (cond (aPQ s i) (i + 1) i)) (Int.toNat (wordI s (cond (aPQ s i) (i + 1) i))))), (vS ((vluR s ((wordI s (cond (aPQ s i) (i + 1) i)) + 1)).1))])] : List AV).length) * 32 ≤ 140737488355328 from ⟨rfl, uni_one rfl rfl, by first | omega | (simp; done) | (simp; omega)⟩) (akn 7 an)))) (by kernel_rfl) ?_
        refine ⟨_, (Ghost.trans (Ghost.refl _) (ghost_bump (1001, 10))), ?_⟩
        exact endsK (r := (.tp [(.a [(.av (vS a.fID)), (.own (1001, 10) (g1 + 1) 1 (a.fClasses.map strAV)), (.own (1002, 44) (g2 + 1) 2 ((a.fPairs.map aPair) ++ [(.agg [(vS (ByteArray.extract s (Int.toNat (cond (aPQ s i) (i + 1) i)) (Int.toNat (wordI s (cond (aPQ s i) (i + 1) i))))), (vS ((vluR s ((wordI s (cond (aPQ s i) (i + 1) i)) + 1)).1))])]))]), (.c (.av (vI ((vluR s ((wordI s (cond (aPQ s i) (i + 1) i)) + 1)).2.1)))), (.c (.av (vI 0)))])) (by simp) (by kernel_rfl) (by rw [show itemA a s i = (DAttr.mk a.fID a.fClasses (a.fPairs ++ ([DPair.mk (ByteArray.extract s (Int.toNat (cond (aPQ s i) (i + 1) i)) (Int.toNat (wordI s (cond (aPQ s i) (i + 1) i)))) ((vluR s ((wordI s (cond (aPQ s i) (i + 1) i)) + 1)).1)])), (vluR s ((wordI s (cond (aPQ s i) (i + 1) i)) + 1)).2.1, 0) from by rw [itemA]; exact (cF hb3).trans ((cF hb4).trans ((cF hb6).trans ((cF hb8).trans ((cF hb9).trans ((cF hb10).trans (cF hb11m))))))]; first | done | first | rfl | (simp [strAV, vU, aPair_eq, aAttr_eq, aCited_eq, aInline_eq, aBlock_eq, aDoc_eq, aPoint_eq, aRange_eq, cPair, cAttr, cCited, cInline, cBlock, cDoc, cPoint, cRange]; done)) (by simp) (by intro p hp; simp only [List.mem_cons, List.not_mem_nil, or_false] at hp; rcases hp with rfl | rfl <;> rfl)
end Go.Proofs.YtdaglbjgdakmcaaGreat
