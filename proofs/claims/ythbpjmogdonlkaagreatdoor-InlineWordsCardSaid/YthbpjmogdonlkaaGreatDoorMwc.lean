/- Texts joined by a program (merge.py). -/
import Derived.Test.YthbpjmogdonlkaaGreatDoorMwb
import Derived.Orders
set_option linter.unusedSimpArgs false
set_option linter.unusedVariables false
open Option.some renaming injEq -> Za
open Option renaming map_eq_some_iff -> Zb
open Prod.mk renaming injEq -> Zc
namespace Go.Eng
def Vbr : Op -> Bool
 | .alloc _ | .box _ _ | .makeMap _ _ => false
 | _ => true
def Vc5 : Op -> Bool
 | .alloc _ => true
 | _ => false
def Vcw (r : Res) (fr : List SV) : Res := ⟨r.ok, r.v, ⟨fr, r.st.bx, r.st.gn⟩⟩
theorem res_self {r : Res} {S : St} (h : r.st = S) : r = ⟨r.ok, r.v, S⟩ := by subst h; rfl
section
variable {P : Program} {fr fr' : List SV} {bx : List (Nat × ABox)} {gn : List (Key × Nat)} {r : Res}
theorem loc_pick {c x y : SV} (h : aPick c x y ⟨fr, bx, gn⟩ = some r) : aPick c x y ⟨fr', bx, gn⟩ = some (Vcw r fr') := by
 unfold aPick at h ⊢; split at h
 ·simp only [Za] at h; subst h; rfl
 ·simp at h
theorem loc_lookup {t : TypeId} {x i : SV} {ok : Bool} (h : Vee P t x i ok ⟨fr, bx, gn⟩ = some r) : Vee P t x i ok ⟨fr', bx, gn⟩ = some (Vcw r fr') := by
 unfold Vee at h ⊢
 split at h
 ·split at h
  ·split at h
   ·rename_i hk; rw [if_pos hk]
    split at h
    ·split at h
     ·split at h
      ·rename_i hb
       have hb' : List.lookup _ bx = some _ := hb; simp only [Za] at h; subst h; simp only [hb']; rfl
      ·simp at h
     ·simp only [Za] at h; subst h; rfl
     ·simp only [Za] at h; subst h; rfl
     ·simp at h
    ·simp at h
   ·simp at h
  ·simp at h
 ·simp at h
theorem loc_update {t : TypeId} {x i y : SV} (h : Vdp P t x i y ⟨fr, bx, gn⟩ = some r) : Vdp P t x i y ⟨fr', bx, gn⟩ = some (Vcw r fr') := by
 unfold Vdp at h ⊢
 split at h
 ·split at h
  ·rename_i hk; rw [if_pos hk]
   split at h
   ·split at h
    ·rename_i hb
     have hb' : List.lookup _ bx = some _ := hb; simp only [Za] at h; subst h; simp only [hb']; rfl
    ·simp at h
   ·simp at h
  ·simp at h
 ·simp at h
theorem loc_bin {op : BinOp} {t : TypeId} {x y : SV} (h : aBinS P op t x y ⟨fr, bx, gn⟩ = some r) : aBinS P op t x y ⟨fr', bx, gn⟩ = some (Vcw r fr') := by
 unfold aBinS at h ⊢; split at h
 ·unfold aBinB at h ⊢
  split at h
  ·split at h
   ·simp only [Za] at h; subst h; rfl
   ·simp only [Za] at h; subst h; rfl
   ·simp at h
  ·simp at h
 ·simp only [Zb] at h ⊢; obtain ⟨q, h1, rfl⟩ := h; exact ⟨q, h1, rfl⟩
 ·unfold aBinA at h ⊢
  split at h
  ·split at h
   ·rename_i hc; rw [if_pos hc]
    split at h
    ·simp only [Za] at h; subst h; rfl
    ·simp only [Za] at h; subst h; rfl
    ·simp at h
   ·simp at h
  ·simp at h
 ·simp at h
theorem loc_un {op : UnOp} {x : SV} (h : aUnS op x ⟨fr, bx, gn⟩ = some r) : aUnS op x ⟨fr', bx, gn⟩ = some (Vcw r fr') := by
 unfold aUnS at h ⊢; split at h
 ·simp only [Zb] at h ⊢; obtain ⟨q, h1, rfl⟩ := h; exact ⟨q, h1, rfl⟩
 ·simp at h
theorem loc_extract {x : SV} {i : Nat} (h : Vef x i ⟨fr, bx, gn⟩ = some r) : Vef x i ⟨fr', bx, gn⟩ = some (Vcw r fr') := by
 unfold Vef at h ⊢; split at h
 ·simp only [Zb] at h ⊢; obtain ⟨q, h1, rfl⟩ := h; exact ⟨q, h1, rfl⟩
 ·simp only [Zb] at h ⊢; obtain ⟨q, h1, rfl⟩ := h; exact ⟨q, h1, rfl⟩
 ·simp at h
theorem Vp0 {x : SV} (h : Vct x ⟨fr, bx, gn⟩ = some r) : Vct x ⟨fr', bx, gn⟩ = some (Vcw r fr') := by
 unfold Vct at h ⊢; split at h
 ·simp only [Za] at h; subst h; rfl
 ·simp only [Za] at h; subst h; rfl
 ·simp at h
theorem loc_field {s : TypeId} {x : SV} {f : Nat} (h : Vi5 P s x f ⟨fr, bx, gn⟩ = some r) : Vi5 P s x f ⟨fr', bx, gn⟩ = some (Vcw r fr') := by
 unfold Vi5 at h ⊢; split at h
 ·split at h
  ·split at h
   ·simp at h
   ·rename_i h0; rw [if_neg h0]
    split at h
    ·simp only [Za] at h; subst h; rfl
    ·simp only [Za] at h; subst h; rfl
    ·simp only [Za] at h; subst h; rfl
    ·simp at h
  ·simp at h
 ·simp at h
theorem loc_load {t : TypeId} {x : SV} (h : Vho P t x ⟨fr, bx, gn⟩ = some r) : Vho P t x ⟨fr', bx, gn⟩ = some (Vcw r fr') := by
 unfold Vho at h ⊢; split at h
 ·split at h
  ·simp only at h ⊢
   split at h
   ·simp only [Zb] at h ⊢; obtain ⟨q, h1, rfl⟩ := h; exact ⟨q, h1, rfl⟩
   ·simp at h
  ·simp only [Zb] at h ⊢; obtain ⟨q, h1, rfl⟩ := h; exact ⟨q, h1, rfl⟩
  ·simp at h
 ·split at h
  ·split at h
   ·simp only at h ⊢
    split at h
    ·split at h
     ·split at h
      ·split at h
       ·rename_i h1; rw [if_pos h1]; simp only [Za] at h; subst h; rfl
       ·simp at h
      ·simp at h
     ·split at h
      ·split at h
       ·rename_i h1; rw [if_pos h1]; simp only [Za] at h; subst h; rfl
       ·simp at h
      ·simp at h
    ·simp at h
   ·split at h
    ·rename_i h1; rw [if_pos h1]; simp only [Za] at h; subst h; rfl
    ·simp at h
   ·simp at h
  ·simp at h
 ·simp at h
theorem loc_store {t : TypeId} {x y : SV} (h : Vq3 P t x y ⟨fr, bx, gn⟩ = some r) : Vq3 P t x y ⟨fr', bx, gn⟩ = some (Vcw r fr') := by
 unfold Vq3 at h ⊢; split at h
 ·split at h
  ·simp only at h ⊢
   split at h
   ·split at h
    ·rename_i h1; rw [if_pos h1]; simp only [Za] at h; subst h; rfl
    ·simp at h
   ·simp at h
  ·simp only at h ⊢
   split at h
   ·split at h
    ·rename_i h1; rw [if_pos h1]; simp only [Za] at h; subst h; rfl
    ·simp at h
   ·simp at h
  ·simp at h
 ·simp at h
theorem Vjj {S S' : St} : ∀ {l : List (Nat × Operand)}, (∀ p ∈ l, S.ev p.2 = S'.ev p.2) -> Ve2 S l = Ve2 S' l
 | [], _ => rfl
 | (i, x) :: l, h => by
  have ih := Vjj (S := S) (S' := S') (l := l) (fun p hp => h p (by simp [hp])); simp only [Ve2, h (i, x) (by simp), ih]
theorem Vjl {S S' : St} : ∀ {l : List Operand}, (∀ p ∈ l, S.ev p = S'.ev p) -> Vcs S l = Vcs S' l
 | [], _ => rfl
 | x :: l, h => by
  have ih := Vjl (S := S) (S' := S') (l := l) (fun p hp => h p (by simp [hp])); simp only [Vcs, h x (by simp), ih]
theorem Vjk {S S' : St} : ∀ {l : List Operand}, (∀ p ∈ l, S.ev p = S'.ev p) -> Vq2 S l = Vq2 S' l
 | [], _ => rfl
 | x :: l, h => by
  have ih := Vjk (S := S) (S' := S') (l := l) (fun p hp => h p (by simp [hp])); simp only [Vq2, h x (by simp), ih]
def isVs : SV -> Bool
 | .vs _ _ => true
 | _ => false
def opVs (o : Oper) (S : St) : Bool := match o.op with
 | .call { callee := .builtin .append, args, argTypes := _ } => match args.toList with
  | [x, _] => isVs (S.ev x)
  | _ => false
 | _ => false
theorem opVs_local {o : Oper} (he : ∀ x ∈ o.op.operands, (⟨fr, bx, gn⟩ : St).ev x = (⟨fr', bx, gn⟩ : St).ev x) : opVs o ⟨fr, bx, gn⟩ = opVs o ⟨fr', bx, gn⟩ := by
  unfold opVs
  split
  · rename_i args tys ho
    split
    · rename_i x y ha
      rw [he x (by simp [ho, Op.operands, Call.operands]; have : x ∈ args.toList := by (rw [ha]; simp)
                   simpa using this)]
    · rfl
  · rfl
theorem Vec {o : Oper} (hl : Vbr o.op = true) (hv : opVs o ⟨fr, bx, gn⟩ = false) (he : ∀ x ∈ o.op.operands, (⟨fr, bx, gn⟩ : St).ev x = (⟨fr', bx, gn⟩ : St).ev x) (h : Vaq P o ⟨fr, bx, gn⟩ = some r) : Vaq P o ⟨fr', bx, gn⟩ = some (Vcw r fr') := by
 unfold Vaq at h ⊢
 split at h
 ·rename_i x ho
  have e1 := he x (by simp [ho, Op.operands]); simp only [Za] at h ⊢; subst h; rw [Vcw, e1]
 ·rename_i x ho
  have e1 := he x (by simp [ho, Op.operands]); simp only [Za] at h ⊢; subst h; rw [Vcw, e1]
 ·rename_i c x y ho; rw [<- he c (by simp [ho, Op.operands]), <- he x (by simp [ho, Op.operands]), <- he y (by simp [ho, Op.operands])]; exact loc_pick h
 ·rename_i op t x y t' ho; rw [<- he x (by simp [ho, Op.operands]), <- he y (by simp [ho, Op.operands])]; exact loc_bin h
 ·rename_i op t x ho; rw [<- he x (by simp [ho, Op.operands])]; exact loc_un h
 ·rename_i x i ho; rw [<- he x (by simp [ho, Op.operands])]; exact loc_extract h
 ·rename_i x ho; rw [<- he x (by simp [ho, Op.operands])]; exact Vp0 h
 ·rename_i s x f ho; rw [<- he x (by simp [ho, Op.operands])]; exact loc_field h
 ·rename_i t x ho; rw [<- he x (by simp [ho, Op.operands])]; exact loc_load h
 ·rename_i t x y ho; rw [<- he x (by simp [ho, Op.operands]), <- he y (by simp [ho, Op.operands])]; exact loc_store h
 ·rename_i t ho; simp [ho, Vbr] at hl
 ·rename_i t x ho; simp [ho, Vbr] at hl
 ·rename_i t parts ho; unfold Vq8 at h ⊢; rw [<- Vjj (S := ⟨fr, bx, gn⟩) (S' := ⟨fr', bx, gn⟩) (fun p hp => he p.2 (by simp only [ho, Op.operands]; simp; exact ⟨p.1, by simpa using hp⟩))]
  split at h
  ·rename_i z pl ps h1 h2 h3
   split at h
   ·rename_i hc; rw [if_pos hc]; simp only [Zb] at h ⊢; obtain ⟨q, h4, rfl⟩ := h; exact ⟨q, h4, rfl⟩
   ·simp at h
  ·simp at h
 ·rename_i t n parts ho; unfold Vbw at h ⊢; rw [<- Vjl (S := ⟨fr, bx, gn⟩) (S' := ⟨fr', bx, gn⟩) (fun p hp => he p (by simp only [ho, Op.operands]; simp only [List.mem_map] at hp; obtain ⟨q, hq, rfl⟩ := hp; simp; exact ⟨q.1, by simpa using hq⟩))]
  split at h
  ·split at h
   ·split at h
    ·rename_i hc; rw [if_pos hc]; simp only [Za] at h; subst h; rfl
    ·simp at h
   ·simp at h
  ·simp at h
 ·rename_i t x i ho; rw [<- he x (by simp [ho, Op.operands]), <- he i (by simp [ho, Op.operands])]; unfold Vdq at h ⊢
  split at h
  ·split at h
   ·simp only [Za] at h; subst h; rfl
   ·simp at h
  ·split at h
   ·split at h
    ·rename_i hc; simp only [if_pos hc]; simp only [Za] at h; subst h; rfl
    ·simp at h
   ·simp at h
  ·split at h
   ·split at h
    ·split at h
     ·rename_i hc; rw [if_pos hc]; simp only [Za] at h; subst h; rfl
     ·simp at h
    ·simp at h
   ·simp at h
 ·rename_i t x i ho; rw [<- he x (by simp [ho, Op.operands]), <- he i (by simp [ho, Op.operands])]; unfold Vq7 at h ⊢
  split at h
  ·split at h
   ·rename_i hc; rw [if_pos hc]; simp only [Za] at h; subst h; rfl
   ·simp at h
  ·split at h
   ·split at h
    ·simp only [Za] at h; subst h; rfl
    ·simp at h
   ·simp at h
  ·simp at h
 ·rename_i t x lo hi ho
  have e1 := he x (by simp [ho, Op.operands])
  have e2 : lo.map (⟨fr', bx, gn⟩ : St).ev = lo.map (⟨fr, bx, gn⟩ : St).ev := by
   cases lo with
   | none => rfl
   | some y => simp only [Option.map_some]; rw [he y (by simp [ho, Op.operands])]
  have e3 : hi.map (⟨fr', bx, gn⟩ : St).ev = hi.map (⟨fr, bx, gn⟩ : St).ev := by
   cases hi with
   | none => rfl
   | some y => simp only [Option.map_some]; rw [he y (by simp [ho, Op.operands])]
  rw [<- e1, e2, e3]; unfold Vq4 at h ⊢
  split at h
  ·split at h
   ·split at h
    ·split at h
     ·simp only [Za] at h; subst h; rfl
     ·simp only [Za] at h; subst h; rfl
    ·simp at h
   ·simp at h
  split at h
  ·split at h
   ·split at h
    ·rename_i hc; rw [if_pos hc]; simp only [Za] at h; subst h; rfl
    ·simp at h
   ·simp at h
  ·split at h
   ·split at h
    ·simp only [Za] at h; subst h; rfl
    ·simp at h
   ·simp at h
  ·simp at h
 ·rename_i fn first captured ho
  unfold Vkr at h ⊢
  rw [<- Vjk (S := ⟨fr, bx, gn⟩) (S' := ⟨fr', bx, gn⟩) (l := first.toList) (fun p hp => he p (by simp only [ho, Op.operands]; simp; exact .inl (by simpa using hp))),
   <- Vjk (S := ⟨fr, bx, gn⟩) (S' := ⟨fr', bx, gn⟩) (l := captured.toList) (fun p hp => he p (by simp only [ho, Op.operands]; simp; exact .inr (by simpa using hp)))]
  split at h
  ·simp only [Za] at h; subst h; rfl
  ·simp at h
 ·rename_i b args tys ho
  have hev : ∀ x ∈ args.toList, (⟨fr, bx, gn⟩ : St).ev x = (⟨fr', bx, gn⟩ : St).ev x := fun x hx => he x (by simp [ho, Op.operands, Call.operands]; simpa using hx)
  unfold Vd4 at h ⊢
  split at h
  ·rename_i x t hx ht; rw [<- hev x (by simp [hx])]; unfold aLen at h ⊢
   split at h
   ·split at h
    ·rename_i hc; rw [if_pos hc]; simp only [Za] at h; subst h; rfl
    ·simp at h
   ·split at h
    ·rename_i hc; rw [if_pos hc]; simp only [Za] at h; subst h; rfl
    ·simp at h
   split at h
   ·split at h
    ·rename_i hc; rw [if_pos hc]; simp only [Za] at h; subst h; rfl
    ·simp at h
   ·split at h
    ·rename_i hc; rw [if_pos hc]; simp only [Za] at h; subst h; rfl
    ·simp at h
   ·simp at h
  ·rename_i x y t t2 hx ht; rw [<- hev x (by simp [hx]), <- hev y (by simp [hx])]; unfold Vf9 at h ⊢
   split at h
   ·split at h
    ·split at h
     ·rename_i hc; rw [if_pos hc]
      split at h
      ·split at h
       ·split at h
        ·rename_i hk; rw [if_pos hk]; simp only [Za] at h; subst h; rfl
        ·simp at h
       ·rename_i hvs; simp [opVs, ho, hx, hvs, isVs] at hv
       ·simp only [Za] at h; subst h; rfl
       ·simp only [Za] at h; subst h; rfl
       ·simp at h
      ·simp at h
     ·simp at h
    ·simp at h
   ·simp at h
  ·rename_i x y hx; rw [<- hev x (by simp [hx]), <- hev y (by simp [hx])]
   split at h
   ·split at h
    ·rename_i hk; rw [if_pos hk]; simp only [Za] at h; subst h; rfl
    ·simp at h
   ·simp at h
  ·rename_i x y z hx; rw [<- hev x (by simp [hx]), <- hev y (by simp [hx]), <- hev z (by simp [hx])]
   split at h
   ·split at h
    ·rename_i hk; rw [if_pos hk]; simp only [Za] at h; subst h; rfl
    ·simp at h
   ·simp at h
  ·rename_i x y hx; rw [<- hev x (by simp [hx]), <- hev y (by simp [hx])]
   split at h
   ·split at h
    ·rename_i hk; rw [if_pos hk]; simp only [Za] at h; subst h; rfl
    ·simp at h
   ·simp at h
  ·rename_i x t hx ht; rw [<- hev x (by simp [hx])]
   split at h
   ·split at h
    ·rename_i h3; have h4 : List.lookup _ bx = some _ := h3; simp only [Za] at h; subst h; simp only [h4]; rfl
    ·simp at h
   ·simp at h
  ·simp at h
 ·rename_i ho; simp [ho, Vbr] at hl
 ·rename_i t x i ok ho; rw [<- he x (by simp [ho, Op.operands]), <- he i (by simp [ho, Op.operands])]; exact loc_lookup h
 ·rename_i t x i y ho; rw [<- he x (by simp [ho, Op.operands]), <- he i (by simp [ho, Op.operands]), <- he y (by simp [ho, Op.operands])]; exact loc_update h
 ·rename_i src dst x ho; rw [<- he x (by simp [ho, Op.operands])]; unfold Vgq at h ⊢
  split at h
  ·split at h
   ·simp only [Za] at h; subst h; rfl
   ·simp at h
  ·split at h
   ·simp only [Za] at h; subst h; rfl
   ·simp at h
  ·simp at h
 ·rename_i t x y ho; rw [<- he x (by simp [ho, Op.operands]), <- he y (by simp [ho, Op.operands])]; unfold aMake at h ⊢
  split at h
  ·split at h
   ·split at h
    ·rename_i hc; rw [if_pos hc]; simp only [Za] at h; subst h; rfl
    ·simp at h
   ·simp at h
  ·simp at h
 ·simp at h
theorem Vda {S S' : St} {fs cs : List PV} {l : List Operand} {keep : Bool} (h : ∀ p ∈ l, S.ev p = S'.ev p) : Ve9 S fs l cs keep = Ve9 S' fs l cs keep := by
 unfold Ve9; congr 2; exact List.map_congr_left (fun x hx => by rw [h x hx])
theorem gnOk_local {l : List (Key × Nat)} : gnOk ⟨fr, bx, gn⟩ l = gnOk ⟨fr', bx, gn⟩ l := by
 induction l with
 | nil => rfl
 | cons p l ih => obtain ⟨k, g⟩ := p; simp only [gnOk, ih]; rfl
def Vge (P : Program) (o : Oper) (ors : List Or) (S : St) : Option (List Prop × SV × List (Nat × ABox) × List (Key × Nat)) :=
 match o.op with
 | .pick c x y => match S.ev c, ors with
  | .av (.val (.bool p)), [.b d] => some ([p = d], (match d with | true => S.ev x | false => S.ev y), S.bx, S.gn)
  | _, _ => none
 | .binOp .add _ x y _ => match S.ev x, S.ev y, ors with
  | .av (.val (.int k i)), .av (.val (.int k' j)), [.n m] => if k = k' then some ([k.wrap (i + j) = m], .av (.val (.int k m)), S.bx, S.gn) else none
  | .av (.val (.string a)), .av (.val (.string b)), [] => some ([((a.size + b.size : Nat) : Int) <= IntKind.i64.max], .av (.val (.string (a ++ b))), S.bx, S.gn)
  | _, _, _ => none
 | .binOp .sub _ x y _ => match S.ev x, S.ev y, ors with
  | .av (.val (.int k i)), .av (.val (.int k' j)), [.n m] => if k = k' then some ([k.wrap (i - j) = m], .av (.val (.int k m)), S.bx, S.gn) else none
  | _, _, _ => none
 | .binOp .mul _ x y _ => match S.ev x, S.ev y, ors with
  | .av (.val (.int k i)), .av (.val (.int k' j)), [.n m] => if k = k' then some ([k.wrap (i * j) = m], .av (.val (.int k m)), S.bx, S.gn) else none
  | _, _, _ => none
 | .indexAddr t x i => match tElem P t with
  | some e => match tInfo P e, (S.ev x).toAV, S.ev i, ors with
   | some (sz, _, _), some (.sl l), .av (.val (.int _ i)), [.e y] => if 0 < sz /\ y.cells.length = sz /\ y.isTup = false then some ([0 <= i /\ l[i.toNat]? = some y], .av (.ro y.cells 0), S.bx, S.gn) else none
   | _, _, _, _ => none
  | none => none
 | .call { callee := .value x, args, argTypes := _ } => match S.ev x, ors with
  | .fn f fs cs, [.c res bx' gn gn'] => match Vay bx' with
   | [] => some ([CallTo P f (Ve9 S fs args.toList cs (!gn.isEmpty)) (S.bx.filter (fun p => (bx'.map (·.1)).contains p.1)) gn res bx' gn', gnOk S gn], res, (S.upd bx' gn').bx, (S.upd bx' gn').gn)
   | _ :: _ => none
  | _, _ => none
 | .lookup _ _ _ _ => match Vaq P o S, ors with
  | some ⟨ok, .av v, _⟩, [.e y] => some ([ok, v = y], .av y, S.bx, S.gn)
  | _, _ => none
 | _ => match (Vbr o.op && !opVs o S) || Vc5 o.op, Vaq P o S, ors with
  | true, some r, [] => some ([r.ok], r.v, r.st.bx, r.st.gn)
  | _, _, _ => none
def runV (P : Program) (o : Oper) (ors : List Or) (S : St) : Option (List Prop × SV × List (Nat × ABox) × List (Key × Nat)) :=
 match Vas P o ors S with
 | some (c, [], v) => some (c, v, S.bx, S.gn)
 | some _ => none
 | none => Vge P o ors S
theorem Vme {o : Oper} {ors : List Or} (he : ∀ x ∈ o.op.operands, (⟨fr, bx, gn⟩ : St).ev x = (⟨fr', bx, gn⟩ : St).ev x) : Vas P o ors ⟨fr, bx, gn⟩ = Vas P o ors ⟨fr', bx, gn⟩ := by
 unfold Vas
 split
 ·rename_i t x y ors2 ho; rw [he x (by simp [ho, Op.operands])]
 ·rename_i ors2 t x i ho; rw [he x (by simp [ho, Op.operands]), he i (by simp [ho, Op.operands])]
 ·rfl
theorem Vkm {o : Oper} (ha : Vc5 o.op = true) (hal : ∀ id, o.dst = some id -> fr'.any (SV.names id) = false) (h : Vaq P o ⟨fr, bx, gn⟩ = some r) : Vaq P o ⟨fr', bx, gn⟩ = some (Vcw r fr') := by
 unfold Vc5 at ha
 split at ha
 ·rename_i t ho; unfold Vaq at h ⊢; simp only [ho] at h ⊢; unfold Vq9 at h ⊢
  split at h
  ·rename_i id _ _ z hd hi
   split at h
   ·rename_i hc; obtain ⟨c1, c2, c3⟩ := hc
    have : (⟨fr', bx, gn⟩ : St).names id = false := by
     simp only [St.names, Bool.or_eq_false_iff] at c3 ⊢; exact ⟨hal id hd, c3.2⟩
    rw [if_pos ⟨c1, c2, this⟩]; simp only [Za] at h; subst h; rfl
   ·simp at h
  ·simp at h
 ·simp at ha
theorem runV0_local {o : Oper} {ors : List Or} {cs : List Prop} {v : SV} {bx' : List (Nat × ABox)} {gn' : List (Key × Nat)} (he : ∀ x ∈ o.op.operands, (⟨fr, bx, gn⟩ : St).ev x = (⟨fr', bx, gn⟩ : St).ev x) (hal : Vc5 o.op = true -> ∀ id, o.dst = some id -> fr'.any (SV.names id) = false) (h : Vge P o ors ⟨fr, bx, gn⟩ = some (cs, v, bx', gn')) : Vge P o ors ⟨fr', bx, gn⟩ = some (cs, v, bx', gn') := by
 unfold Vge at h ⊢
 split at h
 ·rename_i c x y ho; rw [<- he c (by simp [ho, Op.operands]), <- he x (by simp [ho, Op.operands]), <- he y (by simp [ho, Op.operands])]; exact h
 ·rename_i t x y t' ho; rw [<- he x (by simp [ho, Op.operands]), <- he y (by simp [ho, Op.operands])]; exact h
 ·rename_i t x y t' ho; rw [<- he x (by simp [ho, Op.operands]), <- he y (by simp [ho, Op.operands])]; exact h
 ·rename_i t x y t' ho; rw [<- he x (by simp [ho, Op.operands]), <- he y (by simp [ho, Op.operands])]; exact h
 ·rename_i t x i ho; rw [<- he x (by simp [ho, Op.operands]), <- he i (by simp [ho, Op.operands])]; exact h
 ·rename_i x args tys ho; rw [<- he x (by simp [ho, Op.operands, Call.operands])]
  split at h
  ·rename_i f fs cs' res bx2 gn2 gn3 hx; rw [<- Vda (S := ⟨fr, bx, gn⟩) (S' := ⟨fr', bx, gn⟩) (fun p hp => he p (by simp [ho, Op.operands, Call.operands]; exact .inr (by simpa using hp))), <- gnOk_local (fr := fr)]
   split at h
   ·rename_i hvi; rw [Vfs hvi] at h; simp only [hvi, Vfs hvi]; exact h
   ·simp at h
  ·simp at h
 ·rename_i t x i ok ho
  have ho' : Vbr o.op = true := by rw [ho]; rfl
  have hv : opVs o ⟨fr, bx, gn⟩ = false := by unfold opVs; rw [ho]
  split at h
  ·rename_i ok' v' st' y h2
   have := Vec ho' hv he h2; rw [this]; exact h
  ·simp at h
 ·split at h
  ·rename_i r h1 h2; rw [<- opVs_local he, h1]; rcases Bool.or_eq_true _ _ ▸ h1 with h3 | h3
   ·have h4 : Vbr o.op = true /\ opVs o ⟨fr, bx, gn⟩ = false := by simpa using h3
    have := Vec h4.1 h4.2 he h2; rw [this]; exact h
   ·have := Vkm h3 (hal h3) h2; rw [this]; exact h
  ·simp at h
theorem Vlg {o : Oper} {ors : List Or} {cs : List Prop} {v : SV} {bx' : List (Nat × ABox)} {gn' : List (Key × Nat)} (he : ∀ x ∈ o.op.operands, (⟨fr, bx, gn⟩ : St).ev x = (⟨fr', bx, gn⟩ : St).ev x) (hal : Vc5 o.op = true -> ∀ id, o.dst = some id -> fr'.any (SV.names id) = false) (h : runV P o ors ⟨fr, bx, gn⟩ = some (cs, v, bx', gn')) : runV P o ors ⟨fr', bx, gn⟩ = some (cs, v, bx', gn') := by
 unfold runV at h ⊢; rw [Vme (fr' := fr') he] at h
 split at h
 ·exact h
 ·simp at h
 ·exact runV0_local he hal h
theorem lookup_st {t : TypeId} {x i : SV} {ok : Bool} {S : St} (h : Vee P t x i ok S = some r) : r.st = S := by
 unfold Vee at h
 repeat' split at h
 all_goals first | (simp at h; done) | (simp only [Za] at h; subst h; rfl)
theorem runV0_key {o : Oper} {ors : List Or} {S : St} {cs : List Prop} {v : SV} {bx' : List (Nat × ABox)} {gn' : List (Key × Nat)} (h : Vge P o ors S = some (cs, v, bx', gn')) : ∃ S', Vgf P o ors S = some (cs, [], S') /\ S' = (⟨S.fr, bx', gn'⟩ : St).put o.dst v := by
  unfold Vge at h; unfold Vgf
  split at h
  ·rename_i c x y ho
   split at h
   ·rename_i hp; simp only [Za, Zc] at h; obtain ⟨rfl, rfl, rfl, rfl⟩ := h; simp only [ho, hp]; exact ⟨_, rfl, rfl⟩
   ·simp at h
  ·rename_i t x y t' ho
   split at h
   ·rename_i hx hy
    split at h
    ·rename_i hk; simp only [Za, Zc] at h; obtain ⟨rfl, rfl, rfl, rfl⟩ := h; simp only [ho, hx, hy, if_pos hk]; exact ⟨_, rfl, rfl⟩
    ·simp at h
   ·rename_i hx hy; simp only [Za, Zc] at h; obtain ⟨rfl, rfl, rfl, rfl⟩ := h; simp only [ho, hx, hy]; exact ⟨_, rfl, rfl⟩
   ·simp at h
  ·rename_i t x y t' ho
   split at h
   ·rename_i hx hy
    split at h
    ·rename_i hk; simp only [Za, Zc] at h; obtain ⟨rfl, rfl, rfl, rfl⟩ := h; simp only [ho, hx, hy, if_pos hk]; exact ⟨_, rfl, rfl⟩
    ·simp at h
   ·simp at h
  ·rename_i t x y t' ho
   split at h
   ·rename_i hx hy
    split at h
    ·rename_i hk; simp only [Za, Zc] at h; obtain ⟨rfl, rfl, rfl, rfl⟩ := h; simp only [ho, hx, hy, if_pos hk]; exact ⟨_, rfl, rfl⟩
    ·simp at h
   ·simp at h
  ·rename_i t x i ho
   split at h
   ·rename_i e he
    split at h
    ·rename_i h2 h3 h4
     split at h
     ·rename_i hk; simp only [Za, Zc] at h; obtain ⟨rfl, rfl, rfl, rfl⟩ := h; simp only [ho, he, h2, h3, h4, if_pos hk]; exact ⟨_, rfl, rfl⟩
     ·simp at h
    ·simp at h
   ·simp at h
  ·rename_i x args tys ho
   split at h
   ·rename_i hx
    split at h
    ·rename_i hvi; simp only [Za, Zc] at h; obtain ⟨rfl, rfl, rfl, rfl⟩ := h; simp only [ho, hx, hvi, List.all_nil]; exact ⟨_, rfl, by rw [Vfs hvi]⟩
    ·simp at h
   ·simp at h
  ·rename_i t x i ok ho
   split at h
   ·rename_i ok' v' st' y h2; simp only [Za, Zc] at h; obtain ⟨rfl, rfl, rfl, rfl⟩ := h
    have hst : st' = S := by
     have h3 := h2; unfold Vaq at h3; simp only [ho] at h3; exact lookup_st h3
    subst hst; simp only [ho, h2]; exact ⟨_, rfl, rfl⟩
   ·simp at h
  ·rename_i n0 n1 n2 n3 n4 n5 n6
   split at h
   ·rename_i r h1 h2; simp only [Za, Zc] at h; obtain ⟨rfl, rfl, rfl, rfl⟩ := h
    have hfr : r.st.fr = S.fr := by
     obtain ⟨fr, bx, gn⟩ := S; rcases Bool.or_eq_true _ _ ▸ h1 with h3 | h3
     ·have h4 : Vbr o.op = true /\ opVs o ⟨fr, bx, gn⟩ = false := by simpa using h3
      have := Vec (fr' := fr) h4.1 h4.2 (fun _ _ => rfl) h2; rw [h2] at this; simp only [Za] at this; rw [this]; rfl
     ·have hn : ∀ id, o.dst = some id -> fr.any (SV.names id) = false := by
       intro id hid; unfold Vc5 at h3
       split at h3
       ·rename_i t ho
        have h2 := h2; unfold Vaq at h2; simp only [ho] at h2; unfold Vq9 at h2
        split at h2
        ·rename_i id' _ _ z hd hi
         split at h2
         ·rename_i hc; rw [hid] at hd; simp only [Za] at hd; subst hd
          have := hc.2.2; simp only [St.names, Bool.or_eq_false_iff] at this; exact this.1
         ·simp at h2
        ·simp at h2
       ·simp at h3
      have := Vkm (fr' := fr) h3 hn h2; rw [h2] at this; simp only [Za] at this; rw [this]; rfl
    refine ⟨r.st.put o.dst r.v, ?_, ?_⟩
    ·split
     ·rename_i ho; exact (n0 _ _ _ ho).elim
     ·rename_i ho; exact (n1 _ _ _ _ ho).elim
     ·rename_i ho; exact (n2 _ _ _ _ ho).elim
     ·rename_i ho; exact (n3 _ _ _ _ ho).elim
     ·rename_i ho; exact (n4 _ _ _ ho).elim
     ·rename_i ho; exact (n5 _ _ _ ho).elim
     ·rename_i ho; exact (n6 _ _ _ _ ho).elim
     ·rw [h2]
    ·obtain ⟨ok, v, ⟨f, b, g⟩⟩ := r; simp only at hfr; subst hfr; rfl
   ·simp at h
theorem Vdf {o : Oper} {ors : List Or} {S : St} {cs : List Prop} {v : SV} {bx' : List (Nat × ABox)} {gn' : List (Key × Nat)} (h : runV P o ors S = some (cs, v, bx', gn')) (hc : All cs) {G : Gh} {w : World} {a : Act} (hr : Rel G w S a) {Q : Exit -> Act -> World -> Prop} {next : Act -> World -> Prop}
  (hn : ∀ G' a' w', Step G w G' w' -> Rel G' w' ((⟨S.fr, bx', gn'⟩ : St).put o.dst v) a' -> (∀ i, Fx i -> G'.ow (i, 0) = G.ow (i, 0)) -> next a' w') : o.wp P a w next Q := by
 have key : ∃ S', Vfj P o ors S = some (cs, [], S') /\ S' = (⟨S.fr, bx', gn'⟩ : St).put o.dst v := by
  unfold runV at h; unfold Vfj
  split at h
  ·rename_i c v' hv; simp only [Za, Zc] at h; obtain ⟨rfl, rfl, rfl, rfl⟩ := h; rw [hv]; exact ⟨_, rfl, rfl⟩
  ·simp at h
  ·rename_i hv; rw [hv]; exact runV0_key h
 obtain ⟨S', h1, rfl⟩ := key; exact Vbb h1 hc hr hn
end
end Go.Eng
