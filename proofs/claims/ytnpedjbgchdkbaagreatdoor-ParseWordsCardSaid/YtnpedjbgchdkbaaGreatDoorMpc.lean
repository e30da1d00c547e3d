/- Texts joined by a program (merge.py). -/
import Derived.Test.YtnpedjbgchdkbaaGreatDoorMpb
import Derived.Orders
set_option linter.unusedSimpArgs false
set_option linter.unusedVariables false
open Option.some renaming injEq -> Za
open Option renaming map_eq_some_iff -> Zb
open Prod.mk renaming injEq -> Zc
namespace Go.Eng
def Vc0 : Op -> Bool
 | .alloc _ | .box _ _ | .makeMap _ _ => false
 | _ => true
def Vcg : Op -> Bool
 | .alloc _ => true
 | _ => false
def Vd5 (r : Res) (fr : List SV) : Res := ⟨r.ok, r.v, ⟨fr, r.st.bx, r.st.gn⟩⟩
theorem res_self {r : Res} {S : St} (h : r.st = S) : r = ⟨r.ok, r.v, S⟩ := by subst h; rfl
section
variable {P : Program} {fr fr' : List SV} {bx : List (Nat × ABox)} {gn : List (Key × Nat)} {r : Res}
theorem loc_pick {c x y : SV} (h : aPick c x y ⟨fr, bx, gn⟩ = some r) : aPick c x y ⟨fr', bx, gn⟩ = some (Vd5 r fr') := by
 unfold aPick at h ⊢; split at h
 ·simp only [Za] at h; subst h; rfl
 ·simp at h
theorem loc_lookup {t : TypeId} {x i : SV} {ok : Bool} (h : Ven P t x i ok ⟨fr, bx, gn⟩ = some r) : Ven P t x i ok ⟨fr', bx, gn⟩ = some (Vd5 r fr') := by
 unfold Ven at h ⊢
 split at h
 ·split at h
  ·split at h
   ·rename_i hk; rw [if_pos hk]
    split at h
    ·split at h
     ·split at h
      ·rename_i hb
       have hb' : List.lookup _ bx = some _ := hb; simp only [Za] at h; subst h; simp only [hb']; rfl
      ·simp at h
     ·simp only [Za] at h; subst h; rfl
     ·simp only [Za] at h; subst h; rfl
     ·simp at h
    ·simp at h
   ·simp at h
  ·simp at h
 ·simp at h
theorem loc_update {t : TypeId} {x i y : SV} (h : Ve0 P t x i y ⟨fr, bx, gn⟩ = some r) : Ve0 P t x i y ⟨fr', bx, gn⟩ = some (Vd5 r fr') := by
 unfold Ve0 at h ⊢
 split at h
 ·split at h
  ·rename_i hk; rw [if_pos hk]
   split at h
   ·split at h
    ·rename_i hb
     have hb' : List.lookup _ bx = some _ := hb; simp only [Za] at h; subst h; simp only [hb']; rfl
    ·simp at h
   ·simp at h
  ·simp at h
 ·simp at h
theorem loc_bin {op : BinOp} {t : TypeId} {x y : SV} (h : aBinS P op t x y ⟨fr, bx, gn⟩ = some r) : aBinS P op t x y ⟨fr', bx, gn⟩ = some (Vd5 r fr') := by
 unfold aBinS at h ⊢; split at h
 ·unfold aBinB at h ⊢
  split at h
  ·split at h
   ·simp only [Za] at h; subst h; rfl
   ·simp only [Za] at h; subst h; rfl
   ·simp at h
  ·simp at h
 ·simp only [Zb] at h ⊢; obtain ⟨q, h1, rfl⟩ := h; exact ⟨q, h1, rfl⟩
 ·unfold aBinA at h ⊢
  split at h
  ·split at h
   ·rename_i hc; rw [if_pos hc]
    split at h
    ·simp only [Za] at h; subst h; rfl
    ·simp only [Za] at h; subst h; rfl
    ·simp at h
   ·simp at h
  ·simp at h
 ·simp at h
theorem loc_un {op : UnOp} {x : SV} (h : aUnS op x ⟨fr, bx, gn⟩ = some r) : aUnS op x ⟨fr', bx, gn⟩ = some (Vd5 r fr') := by
 unfold aUnS at h ⊢; split at h
 ·simp only [Zb] at h ⊢; obtain ⟨q, h1, rfl⟩ := h; exact ⟨q, h1, rfl⟩
 ·simp at h
theorem loc_extract {x : SV} {i : Nat} (h : Veo x i ⟨fr, bx, gn⟩ = some r) : Veo x i ⟨fr', bx, gn⟩ = some (Vd5 r fr') := by
 unfold Veo at h ⊢; split at h
 ·simp only [Zb] at h ⊢; obtain ⟨q, h1, rfl⟩ := h; exact ⟨q, h1, rfl⟩
 ·simp only [Zb] at h ⊢; obtain ⟨q, h1, rfl⟩ := h; exact ⟨q, h1, rfl⟩
 ·simp at h
theorem Vpq {x : SV} (h : Vd1 x ⟨fr, bx, gn⟩ = some r) : Vd1 x ⟨fr', bx, gn⟩ = some (Vd5 r fr') := by
 unfold Vd1 at h ⊢; split at h
 ·simp only [Za] at h; subst h; rfl
 ·simp only [Za] at h; subst h; rfl
 ·simp at h
theorem loc_field {s : TypeId} {x : SV} {f : Nat} (h : Vil P s x f ⟨fr, bx, gn⟩ = some r) : Vil P s x f ⟨fr', bx, gn⟩ = some (Vd5 r fr') := by
 unfold Vil at h ⊢; split at h
 ·split at h
  ·split at h
   ·simp at h
   ·rename_i h0; rw [if_neg h0]
    split at h
    ·simp only [Za] at h; subst h; rfl
    ·simp only [Za] at h; subst h; rfl
    ·simp only [Za] at h; subst h; rfl
    ·simp at h
  ·simp at h
 ·simp at h
theorem loc_load {t : TypeId} {x : SV} (h : Vi4 P t x ⟨fr, bx, gn⟩ = some r) : Vi4 P t x ⟨fr', bx, gn⟩ = some (Vd5 r fr') := by
 unfold Vi4 at h ⊢; split at h
 ·split at h
  ·simp only at h ⊢
   split at h
   ·simp only [Zb] at h ⊢; obtain ⟨q, h1, rfl⟩ := h; exact ⟨q, h1, rfl⟩
   ·simp at h
  ·simp only [Zb] at h ⊢; obtain ⟨q, h1, rfl⟩ := h; exact ⟨q, h1, rfl⟩
  ·simp at h
 ·split at h
  ·split at h
   ·simp only at h ⊢
    split at h
    ·split at h
     ·split at h
      ·split at h
       ·rename_i h1; rw [if_pos h1]; simp only [Za] at h; subst h; rfl
       ·simp at h
      ·simp at h
     ·split at h
      ·split at h
       ·rename_i h1; rw [if_pos h1]; simp only [Za] at h; subst h; rfl
       ·simp at h
      ·simp at h
    ·simp at h
   ·split at h
    ·rename_i h1; rw [if_pos h1]; simp only [Za] at h; subst h; rfl
    ·simp at h
   ·simp at h
  ·simp at h
 ·simp at h
theorem loc_store {t : TypeId} {x y : SV} (h : Vqr P t x y ⟨fr, bx, gn⟩ = some r) : Vqr P t x y ⟨fr', bx, gn⟩ = some (Vd5 r fr') := by
 unfold Vqr at h ⊢; split at h
 ·split at h
  ·simp only at h ⊢
   split at h
   ·split at h
    ·rename_i h1; rw [if_pos h1]; simp only [Za] at h; subst h; rfl
    ·simp at h
   ·simp at h
  ·simp only at h ⊢
   split at h
   ·split at h
    ·rename_i h1; rw [if_pos h1]; simp only [Za] at h; subst h; rfl
    ·simp at h
   ·simp at h
  ·simp at h
 ·simp at h
theorem Vk4 {S S' : St} : ∀ {l : List (Nat × Operand)}, (∀ p ∈ l, S.ev p.2 = S'.ev p.2) -> Vec S l = Vec S' l
 | [], _ => rfl
 | (i, x) :: l, h => by
  have ih := Vk4 (S := S) (S' := S') (l := l) (fun p hp => h p (by simp [hp])); simp only [Vec, h (i, x) (by simp), ih]
theorem Vk6 {S S' : St} : ∀ {l : List Operand}, (∀ p ∈ l, S.ev p = S'.ev p) -> Vch S l = Vch S' l
 | [], _ => rfl
 | x :: l, h => by
  have ih := Vk6 (S := S) (S' := S') (l := l) (fun p hp => h p (by simp [hp])); simp only [Vch, h x (by simp), ih]
theorem Vk5 {S S' : St} : ∀ {l : List Operand}, (∀ p ∈ l, S.ev p = S'.ev p) -> Vqq S l = Vqq S' l
 | [], _ => rfl
 | x :: l, h => by
  have ih := Vk5 (S := S) (S' := S') (l := l) (fun p hp => h p (by simp [hp])); simp only [Vqq, h x (by simp), ih]
def isVs : SV -> Bool
 | .vs _ _ => true
 | _ => false
def opVs (o : Oper) (S : St) : Bool := match o.op with
 | .call { callee := .builtin .append, args, argTypes := _ } => match args.toList with
  | [x, _] => isVs (S.ev x)
  | _ => false
 | _ => false
theorem opVs_local {o : Oper} (he : ∀ x ∈ o.op.operands, (⟨fr, bx, gn⟩ : St).ev x = (⟨fr', bx, gn⟩ : St).ev x) : opVs o ⟨fr, bx, gn⟩ = opVs o ⟨fr', bx, gn⟩ := by
  unfold opVs
  split
  · rename_i args tys ho
    split
    · rename_i x y ha
      rw [he x (by simp [ho, Op.operands, Call.operands]; have : x ∈ args.toList := by (rw [ha]; simp)
                   simpa using this)]
    · rfl
  · rfl
theorem Vel {o : Oper} (hl : Vc0 o.op = true) (hv : opVs o ⟨fr, bx, gn⟩ = false) (he : ∀ x ∈ o.op.operands, (⟨fr, bx, gn⟩ : St).ev x = (⟨fr', bx, gn⟩ : St).ev x) (h : Vaw P o ⟨fr, bx, gn⟩ = some r) : Vaw P o ⟨fr', bx, gn⟩ = some (Vd5 r fr') := by
 unfold Vaw at h ⊢
 split at h
 ·rename_i x ho
  have e1 := he x (by simp [ho, Op.operands]); simp only [Za] at h ⊢; subst h; rw [Vd5, e1]
 ·rename_i x ho
  have e1 := he x (by simp [ho, Op.operands]); simp only [Za] at h ⊢; subst h; rw [Vd5, e1]
 ·rename_i c x y ho; rw [<- he c (by simp [ho, Op.operands]), <- he x (by simp [ho, Op.operands]), <- he y (by simp [ho, Op.operands])]; exact loc_pick h
 ·rename_i op t x y t' ho; rw [<- he x (by simp [ho, Op.operands]), <- he y (by simp [ho, Op.operands])]; exact loc_bin h
 ·rename_i op t x ho; rw [<- he x (by simp [ho, Op.operands])]; exact loc_un h
 ·rename_i x i ho; rw [<- he x (by simp [ho, Op.operands])]; exact loc_extract h
 ·rename_i x ho; rw [<- he x (by simp [ho, Op.operands])]; exact Vpq h
 ·rename_i s x f ho; rw [<- he x (by simp [ho, Op.operands])]; exact loc_field h
 ·rename_i t x ho; rw [<- he x (by simp [ho, Op.operands])]; exact loc_load h
 ·rename_i t x y ho; rw [<- he x (by simp [ho, Op.operands]), <- he y (by simp [ho, Op.operands])]; exact loc_store h
 ·rename_i t ho; simp [ho, Vc0] at hl
 ·rename_i t x ho; simp [ho, Vc0] at hl
 ·rename_i t parts ho; unfold Vqw at h ⊢; rw [<- Vk4 (S := ⟨fr, bx, gn⟩) (S' := ⟨fr', bx, gn⟩) (fun p hp => he p.2 (by simp only [ho, Op.operands]; simp; exact ⟨p.1, by simpa using hp⟩))]
  split at h
  ·rename_i z pl ps h1 h2 h3
   split at h
   ·rename_i hc; rw [if_pos hc]; simp only [Zb] at h ⊢; obtain ⟨q, h4, rfl⟩ := h; exact ⟨q, h4, rfl⟩
   ·simp at h
  ·simp at h
 ·rename_i t n parts ho; unfold Vc5 at h ⊢; rw [<- Vk6 (S := ⟨fr, bx, gn⟩) (S' := ⟨fr', bx, gn⟩) (fun p hp => he p (by simp only [ho, Op.operands]; simp only [List.mem_map] at hp; obtain ⟨q, hq, rfl⟩ := hp; simp; exact ⟨q.1, by simpa using hq⟩))]
  split at h
  ·split at h
   ·split at h
    ·rename_i hc; rw [if_pos hc]; simp only [Za] at h; subst h; rfl
    ·simp at h
   ·simp at h
  ·simp at h
 ·rename_i t x i ho; rw [<- he x (by simp [ho, Op.operands]), <- he i (by simp [ho, Op.operands])]; unfold Ve1 at h ⊢
  split at h
  ·split at h
   ·simp only [Za] at h; subst h; rfl
   ·simp at h
  ·split at h
   ·split at h
    ·rename_i hc; simp only [if_pos hc]; simp only [Za] at h; subst h; rfl
    ·simp at h
   ·simp at h
  ·split at h
   ·split at h
    ·split at h
     ·rename_i hc; rw [if_pos hc]; simp only [Za] at h; subst h; rfl
     ·simp at h
    ·simp at h
   ·simp at h
 ·rename_i t x i ho; rw [<- he x (by simp [ho, Op.operands]), <- he i (by simp [ho, Op.operands])]; unfold Vqv at h ⊢
  split at h
  ·split at h
   ·rename_i hc; rw [if_pos hc]; simp only [Za] at h; subst h; rfl
   ·simp at h
  ·split at h
   ·split at h
    ·simp only [Za] at h; subst h; rfl
    ·simp at h
   ·simp at h
  ·simp at h
 ·rename_i t x lo hi ho
  have e1 := he x (by simp [ho, Op.operands])
  have e2 : lo.map (⟨fr', bx, gn⟩ : St).ev = lo.map (⟨fr, bx, gn⟩ : St).ev := by
   cases lo with
   | none => rfl
   | some y => simp only [Option.map_some]; rw [he y (by simp [ho, Op.operands])]
  have e3 : hi.map (⟨fr', bx, gn⟩ : St).ev = hi.map (⟨fr, bx, gn⟩ : St).ev := by
   cases hi with
   | none => rfl
   | some y => simp only [Option.map_some]; rw [he y (by simp [ho, Op.operands])]
  rw [<- e1, e2, e3]; unfold Vqs at h ⊢
  split at h
  ·split at h
   ·split at h
    ·split at h
     ·simp only [Za] at h; subst h; rfl
     ·simp only [Za] at h; subst h; rfl
    ·simp at h
   ·simp at h
  split at h
  ·split at h
   ·split at h
    ·rename_i hc; rw [if_pos hc]; simp only [Za] at h; subst h; rfl
    ·simp at h
   ·simp at h
  ·split at h
   ·split at h
    ·simp only [Za] at h; subst h; rfl
    ·simp at h
   ·simp at h
  ·simp at h
 ·rename_i fn first captured ho
  unfold Vla at h ⊢
  rw [<- Vk5 (S := ⟨fr, bx, gn⟩) (S' := ⟨fr', bx, gn⟩) (l := first.toList) (fun p hp => he p (by simp only [ho, Op.operands]; simp; exact .inl (by simpa using hp))),
   <- Vk5 (S := ⟨fr, bx, gn⟩) (S' := ⟨fr', bx, gn⟩) (l := captured.toList) (fun p hp => he p (by simp only [ho, Op.operands]; simp; exact .inr (by simpa using hp)))]
  split at h
  ·simp only [Za] at h; subst h; rfl
  ·simp at h
 ·rename_i b args tys ho
  have hev : ∀ x ∈ args.toList, (⟨fr, bx, gn⟩ : St).ev x = (⟨fr', bx, gn⟩ : St).ev x := fun x hx => he x (by simp [ho, Op.operands, Call.operands]; simpa using hx)
  unfold Vde at h ⊢
  split at h
  ·rename_i x t hx ht; rw [<- hev x (by simp [hx])]; unfold aLen at h ⊢
   split at h
   ·split at h
    ·rename_i hc; rw [if_pos hc]; simp only [Za] at h; subst h; rfl
    ·simp at h
   ·split at h
    ·rename_i hc; rw [if_pos hc]; simp only [Za] at h; subst h; rfl
    ·simp at h
   split at h
   ·split at h
    ·rename_i hc; rw [if_pos hc]; simp only [Za] at h; subst h; rfl
    ·simp at h
   ·split at h
    ·rename_i hc; rw [if_pos hc]; simp only [Za] at h; subst h; rfl
    ·simp at h
   ·simp at h
  ·rename_i x y t t2 hx ht; rw [<- hev x (by simp [hx]), <- hev y (by simp [hx])]; unfold Vfm at h ⊢
   split at h
   ·split at h
    ·split at h
     ·rename_i hc; rw [if_pos hc]
      split at h
      ·split at h
       ·split at h
        ·rename_i hk; rw [if_pos hk]; simp only [Za] at h; subst h; rfl
        ·simp at h
       ·rename_i hvs; simp [opVs, ho, hx, hvs, isVs] at hv
       ·simp only [Za] at h; subst h; rfl
       ·simp only [Za] at h; subst h; rfl
       ·simp at h
      ·simp at h
     ·simp at h
    ·simp at h
   ·simp at h
  ·rename_i x y hx; rw [<- hev x (by simp [hx]), <- hev y (by simp [hx])]
   split at h
   ·split at h
    ·rename_i hk; rw [if_pos hk]; simp only [Za] at h; subst h; rfl
    ·simp at h
   ·simp at h
  ·rename_i x y z hx; rw [<- hev x (by simp [hx]), <- hev y (by simp [hx]), <- hev z (by simp [hx])]
   split at h
   ·split at h
    ·rename_i hk; rw [if_pos hk]; simp only [Za] at h; subst h; rfl
    ·simp at h
   ·simp at h
  ·rename_i x y hx; rw [<- hev x (by simp [hx]), <- hev y (by simp [hx])]
   split at h
   ·split at h
    ·rename_i hk; rw [if_pos hk]; simp only [Za] at h; subst h; rfl
    ·simp at h
   ·simp at h
  ·rename_i x t hx ht; rw [<- hev x (by simp [hx])]
   split at h
   ·split at h
    ·rename_i h3; have h4 : List.lookup _ bx = some _ := h3; simp only [Za] at h; subst h; simp only [h4]; rfl
    ·simp at h
   ·simp at h
  ·simp at h
 ·rename_i ho; simp [ho, Vc0] at hl
 ·rename_i t x i ok ho; rw [<- he x (by simp [ho, Op.operands]), <- he i (by simp [ho, Op.operands])]; exact loc_lookup h
 ·rename_i t x i y ho; rw [<- he x (by simp [ho, Op.operands]), <- he i (by simp [ho, Op.operands]), <- he y (by simp [ho, Op.operands])]; exact loc_update h
 ·rename_i src dst x ho; rw [<- he x (by simp [ho, Op.operands])]; unfold Vh4 at h ⊢
  split at h
  ·split at h
   ·simp only [Za] at h; subst h; rfl
   ·simp at h
  ·split at h
   ·simp only [Za] at h; subst h; rfl
   ·simp at h
  ·simp at h
 ·rename_i t x y ho; rw [<- he x (by simp [ho, Op.operands]), <- he y (by simp [ho, Op.operands])]; unfold aMake at h ⊢
  split at h
  ·split at h
   ·split at h
    ·rename_i hc; rw [if_pos hc]; simp only [Za] at h; subst h; rfl
    ·simp at h
   ·simp at h
  ·simp at h
 ·simp at h
theorem Vdk {S S' : St} {fs cs : List PV} {l : List Operand} {keep : Bool} (h : ∀ p ∈ l, S.ev p = S'.ev p) : Vdb S fs l cs keep = Vdb S' fs l cs keep := by
 unfold Vdb; congr 2; exact List.map_congr_left (fun x hx => by rw [h x hx])
theorem gnOk_local {l : List (Key × Nat)} : gnOk ⟨fr, bx, gn⟩ l = gnOk ⟨fr', bx, gn⟩ l := by
 induction l with
 | nil => rfl
 | cons p l ih => obtain ⟨k, g⟩ := p; simp only [gnOk, ih]; rfl
def Vgs (P : Program) (o : Oper) (ors : List Or) (S : St) : Option (List Prop × SV × List (Nat × ABox) × List (Key × Nat)) :=
 match o.op with
 | .pick c x y => match S.ev c, ors with
  | .av (.val (.bool p)), [.b d] => some ([p = d], (match d with | true => S.ev x | false => S.ev y), S.bx, S.gn)
  | _, _ => none
 | .binOp .add _ x y _ => match S.ev x, S.ev y, ors with
  | .av (.val (.int k i)), .av (.val (.int k' j)), [.n m] => if k = k' then some ([k.wrap (i + j) = m], .av (.val (.int k m)), S.bx, S.gn) else none
  | .av (.val (.string a)), .av (.val (.string b)), [] => some ([((a.size + b.size : Nat) : Int) <= IntKind.i64.max], .av (.val (.string (a ++ b))), S.bx, S.gn)
  | _, _, _ => none
 | .binOp .sub _ x y _ => match S.ev x, S.ev y, ors with
  | .av (.val (.int k i)), .av (.val (.int k' j)), [.n m] => if k = k' then some ([k.wrap (i - j) = m], .av (.val (.int k m)), S.bx, S.gn) else none
  | _, _, _ => none
 | .binOp .mul _ x y _ => match S.ev x, S.ev y, ors with
  | .av (.val (.int k i)), .av (.val (.int k' j)), [.n m] => if k = k' then some ([k.wrap (i * j) = m], .av (.val (.int k m)), S.bx, S.gn) else none
  | _, _, _ => none
 | .indexAddr t x i => match tElem P t with
  | some e => match tInfo P e, (S.ev x).toAV, S.ev i, ors with
   | some (sz, _, _), some (.sl l), .av (.val (.int _ i)), [.e y] => if 0 < sz /\ y.cells.length = sz /\ y.isTup = false then some ([0 <= i /\ l[i.toNat]? = some y], .av (.ro y.cells 0), S.bx, S.gn) else none
   | _, _, _, _ => none
  | none => none
 | .call { callee := .value x, args, argTypes := _ } => match S.ev x, ors with
  | .fn f fs cs, [.c res bx' gn gn'] => match Vb5 bx' with
   | [] => some ([CallTo P f (Vdb S fs args.toList cs (!gn.isEmpty)) (S.bx.filter (fun p => (bx'.map (·.1)).contains p.1)) gn res bx' gn', gnOk S gn], res, (S.upd bx' gn').bx, (S.upd bx' gn').gn)
   | _ :: _ => none
  | _, _ => none
 | .lookup _ _ _ _ => match Vaw P o S, ors with
  | some ⟨ok, .av v, _⟩, [.e y] => some ([ok, v = y], .av y, S.bx, S.gn)
  | _, _ => none
 | _ => match (Vc0 o.op && !opVs o S) || Vcg o.op, Vaw P o S, ors with
  | true, some r, [] => some ([r.ok], r.v, r.st.bx, r.st.gn)
  | _, _, _ => none
def runV (P : Program) (o : Oper) (ors : List Or) (S : St) : Option (List Prop × SV × List (Nat × ABox) × List (Key × Nat)) :=
 match Vaz P o ors S with
 | some (c, [], v) => some (c, v, S.bx, S.gn)
 | some _ => none
 | none => Vgs P o ors S
theorem Vn1 {o : Oper} {ors : List Or} (he : ∀ x ∈ o.op.operands, (⟨fr, bx, gn⟩ : St).ev x = (⟨fr', bx, gn⟩ : St).ev x) : Vaz P o ors ⟨fr, bx, gn⟩ = Vaz P o ors ⟨fr', bx, gn⟩ := by
 unfold Vaz
 split
 ·rename_i t x y ors2 ho; rw [he x (by simp [ho, Op.operands])]
 ·rename_i ors2 t x i ho; rw [he x (by simp [ho, Op.operands]), he i (by simp [ho, Op.operands])]
 ·rfl
theorem Vl4 {o : Oper} (ha : Vcg o.op = true) (hal : ∀ id, o.dst = some id -> fr'.any (SV.names id) = false) (h : Vaw P o ⟨fr, bx, gn⟩ = some r) : Vaw P o ⟨fr', bx, gn⟩ = some (Vd5 r fr') := by
 unfold Vcg at ha
 split at ha
 ·rename_i t ho; unfold Vaw at h ⊢; simp only [ho] at h ⊢; unfold Vqx at h ⊢
  split at h
  ·rename_i id _ _ z hd hi
   split at h
   ·rename_i hc; obtain ⟨c1, c2, c3⟩ := hc
    have : (⟨fr', bx, gn⟩ : St).names id = false := by
     simp only [St.names, Bool.or_eq_false_iff] at c3 ⊢; exact ⟨hal id hd, c3.2⟩
    rw [if_pos ⟨c1, c2, this⟩]; simp only [Za] at h; subst h; rfl
   ·simp at h
  ·simp at h
 ·simp at ha
theorem runV0_local {o : Oper} {ors : List Or} {cs : List Prop} {v : SV} {bx' : List (Nat × ABox)} {gn' : List (Key × Nat)} (he : ∀ x ∈ o.op.operands, (⟨fr, bx, gn⟩ : St).ev x = (⟨fr', bx, gn⟩ : St).ev x) (hal : Vcg o.op = true -> ∀ id, o.dst = some id -> fr'.any (SV.names id) = false) (h : Vgs P o ors ⟨fr, bx, gn⟩ = some (cs, v, bx', gn')) : Vgs P o ors ⟨fr', bx, gn⟩ = some (cs, v, bx', gn') := by
 unfold Vgs at h ⊢
 split at h
 ·rename_i c x y ho; rw [<- he c (by simp [ho, Op.operands]), <- he x (by simp [ho, Op.operands]), <- he y (by simp [ho, Op.operands])]; exact h
 ·rename_i t x y t' ho; rw [<- he x (by simp [ho, Op.operands]), <- he y (by simp [ho, Op.operands])]; exact h
 ·rename_i t x y t' ho; rw [<- he x (by simp [ho, Op.operands]), <- he y (by simp [ho, Op.operands])]; exact h
 ·rename_i t x y t' ho; rw [<- he x (by simp [ho, Op.operands]), <- he y (by simp [ho, Op.operands])]; exact h
 ·rename_i t x i ho; rw [<- he x (by simp [ho, Op.operands]), <- he i (by simp [ho, Op.operands])]; exact h
 ·rename_i x args tys ho; rw [<- he x (by simp [ho, Op.operands, Call.operands])]
  split at h
  ·rename_i f fs cs' res bx2 gn2 gn3 hx; rw [<- Vdk (S := ⟨fr, bx, gn⟩) (S' := ⟨fr', bx, gn⟩) (fun p hp => he p (by simp [ho, Op.operands, Call.operands]; exact .inr (by simpa using hp))), <- gnOk_local (fr := fr)]
   split at h
   ·rename_i hvi; rw [Vg8 hvi] at h; simp only [hvi, Vg8 hvi]; exact h
   ·simp at h
  ·simp at h
 ·rename_i t x i ok ho
  have ho' : Vc0 o.op = true := by rw [ho]; rfl
  have hv : opVs o ⟨fr, bx, gn⟩ = false := by unfold opVs; rw [ho]
  split at h
  ·rename_i ok' v' st' y h2
   have := Vel ho' hv he h2; rw [this]; exact h
  ·simp at h
 ·split at h
  ·rename_i r h1 h2; rw [<- opVs_local he, h1]; rcases Bool.or_eq_true _ _ ▸ h1 with h3 | h3
   ·have h4 : Vc0 o.op = true /\ opVs o ⟨fr, bx, gn⟩ = false := by simpa using h3
    have := Vel h4.1 h4.2 he h2; rw [this]; exact h
   ·have := Vl4 h3 (hal h3) h2; rw [this]; exact h
  ·simp at h
theorem Vm5 {o : Oper} {ors : List Or} {cs : List Prop} {v : SV} {bx' : List (Nat × ABox)} {gn' : List (Key × Nat)} (he : ∀ x ∈ o.op.operands, (⟨fr, bx, gn⟩ : St).ev x = (⟨fr', bx, gn⟩ : St).ev x) (hal : Vcg o.op = true -> ∀ id, o.dst = some id -> fr'.any (SV.names id) = false) (h : runV P o ors ⟨fr, bx, gn⟩ = some (cs, v, bx', gn')) : runV P o ors ⟨fr', bx, gn⟩ = some (cs, v, bx', gn') := by
 unfold runV at h ⊢; rw [Vn1 (fr' := fr') he] at h
 split at h
 ·exact h
 ·simp at h
 ·exact runV0_local he hal h
theorem lookup_st {t : TypeId} {x i : SV} {ok : Bool} {S : St} (h : Ven P t x i ok S = some r) : r.st = S := by
 unfold Ven at h
 repeat' split at h
 all_goals first | (simp at h; done) | (simp only [Za] at h; subst h; rfl)
theorem runV0_key {o : Oper} {ors : List Or} {S : St} {cs : List Prop} {v : SV} {bx' : List (Nat × ABox)} {gn' : List (Key × Nat)} (h : Vgs P o ors S = some (cs, v, bx', gn')) : ∃ S', Vgt P o ors S = some (cs, [], S') /\ S' = (⟨S.fr, bx', gn'⟩ : St).put o.dst v := by
  unfold Vgs at h; unfold Vgt
  split at h
  ·rename_i c x y ho
   split at h
   ·rename_i hp; simp only [Za, Zc] at h; obtain ⟨rfl, rfl, rfl, rfl⟩ := h; simp only [ho, hp]; exact ⟨_, rfl, rfl⟩
   ·simp at h
  ·rename_i t x y t' ho
   split at h
   ·rename_i hx hy
    split at h
    ·rename_i hk; simp only [Za, Zc] at h; obtain ⟨rfl, rfl, rfl, rfl⟩ := h; simp only [ho, hx, hy, if_pos hk]; exact ⟨_, rfl, rfl⟩
    ·simp at h
   ·rename_i hx hy; simp only [Za, Zc] at h; obtain ⟨rfl, rfl, rfl, rfl⟩ := h; simp only [ho, hx, hy]; exact ⟨_, rfl, rfl⟩
   ·simp at h
  ·rename_i t x y t' ho
   split at h
   ·rename_i hx hy
    split at h
    ·rename_i hk; simp only [Za, Zc] at h; obtain ⟨rfl, rfl, rfl, rfl⟩ := h; simp only [ho, hx, hy, if_pos hk]; exact ⟨_, rfl, rfl⟩
    ·simp at h
   ·simp at h
  ·rename_i t x y t' ho
   split at h
   ·rename_i hx hy
    split at h
    ·rename_i hk; simp only [Za, Zc] at h; obtain ⟨rfl, rfl, rfl, rfl⟩ := h; simp only [ho, hx, hy, if_pos hk]; exact ⟨_, rfl, rfl⟩
    ·simp at h
   ·simp at h
  ·rename_i t x i ho
   split at h
   ·rename_i e he
    split at h
    ·rename_i h2 h3 h4
     split at h
     ·rename_i hk; simp only [Za, Zc] at h; obtain ⟨rfl, rfl, rfl, rfl⟩ := h; simp only [ho, he, h2, h3, h4, if_pos hk]; exact ⟨_, rfl, rfl⟩
     ·simp at h
    ·simp at h
   ·simp at h
  ·rename_i x args tys ho
   split at h
   ·rename_i hx
    split at h
    ·rename_i hvi; simp only [Za, Zc] at h; obtain ⟨rfl, rfl, rfl, rfl⟩ := h; simp only [ho, hx, hvi, List.all_nil]; exact ⟨_, rfl, by rw [Vg8 hvi]⟩
    ·simp at h
   ·simp at h
  ·rename_i t x i ok ho
   split at h
   ·rename_i ok' v' st' y h2; simp only [Za, Zc] at h; obtain ⟨rfl, rfl, rfl, rfl⟩ := h
    have hst : st' = S := by
     have h3 := h2; unfold Vaw at h3; simp only [ho] at h3; exact lookup_st h3
    subst hst; simp only [ho, h2]; exact ⟨_, rfl, rfl⟩
   ·simp at h
  ·rename_i n0 n1 n2 n3 n4 n5 n6
   split at h
   ·rename_i r h1 h2; simp only [Za, Zc] at h; obtain ⟨rfl, rfl, rfl, rfl⟩ := h
    have hfr : r.st.fr = S.fr := by
     obtain ⟨fr, bx, gn⟩ := S; rcases Bool.or_eq_true _ _ ▸ h1 with h3 | h3
     ·have h4 : Vc0 o.op = true /\ opVs o ⟨fr, bx, gn⟩ = false := by simpa using h3
      have := Vel (fr' := fr) h4.1 h4.2 (fun _ _ => rfl) h2; rw [h2] at this; simp only [Za] at this; rw [this]; rfl
     ·have hn : ∀ id, o.dst = some id -> fr.any (SV.names id) = false := by
       intro id hid; unfold Vcg at h3
       split at h3
       ·rename_i t ho
        have h2 := h2; unfold Vaw at h2; simp only [ho] at h2; unfold Vqx at h2
        split at h2
        ·rename_i id' _ _ z hd hi
         split at h2
         ·rename_i hc; rw [hid] at hd; simp only [Za] at hd; subst hd
          have := hc.2.2; simp only [St.names, Bool.or_eq_false_iff] at this; exact this.1
         ·simp at h2
        ·simp at h2
       ·simp at h3
      have := Vl4 (fr' := fr) h3 hn h2; rw [h2] at this; simp only [Za] at this; rw [this]; rfl
    refine ⟨r.st.put o.dst r.v, ?_, ?_⟩
    ·split
     ·rename_i ho; exact (n0 _ _ _ ho).elim
     ·rename_i ho; exact (n1 _ _ _ _ ho).elim
     ·rename_i ho; exact (n2 _ _ _ _ ho).elim
     ·rename_i ho; exact (n3 _ _ _ _ ho).elim
     ·rename_i ho; exact (n4 _ _ _ ho).elim
     ·rename_i ho; exact (n5 _ _ _ ho).elim
     ·rename_i ho; exact (n6 _ _ _ _ ho).elim
     ·rw [h2]
    ·obtain ⟨ok, v, ⟨f, b, g⟩⟩ := r; simp only at hfr; subst hfr; rfl
   ·simp at h
theorem Vdp {o : Oper} {ors : List Or} {S : St} {cs : List Prop} {v : SV} {bx' : List (Nat × ABox)} {gn' : List (Key × Nat)} (h : runV P o ors S = some (cs, v, bx', gn')) (hc : All cs) {G : Gh} {w : World} {a : Act} (hr : Rel G w S a) {Q : Exit -> Act -> World -> Prop} {next : Act -> World -> Prop}
  (hn : ∀ G' a' w', Step G w G' w' -> Rel G' w' ((⟨S.fr, bx', gn'⟩ : St).put o.dst v) a' -> (∀ i, Fx i -> G'.ow (i, 0) = G.ow (i, 0)) -> next a' w') : o.wp P a w next Q := by
 have key : ∃ S', Vg1 P o ors S = some (cs, [], S') /\ S' = (⟨S.fr, bx', gn'⟩ : St).put o.dst v := by
  unfold runV at h; unfold Vg1
  split at h
  ·rename_i c v' hv; simp only [Za, Zc] at h; obtain ⟨rfl, rfl, rfl, rfl⟩ := h; rw [hv]; exact ⟨_, rfl, rfl⟩
  ·simp at h
  ·rename_i hv; rw [hv]; exact runV0_key h
 obtain ⟨S', h1, rfl⟩ := key; exact Vbl h1 hc hr hn
end
end Go.Eng
