/- Texts joined by a program (merge.py). -/
import Derived.Test.YthbpjmogdonlkaaGreatDoorMlb
import Derived.Orders
set_option linter.unusedSimpArgs false
set_option linter.unusedVariables false
open Option.some renaming injEq -> Za
open Option renaming map_eq_some_iff -> Zb
open Prod.mk renaming injEq -> Zc
namespace Go.Eng
def Vch:Op->Bool
 | .alloc _| .box _ _| .makeMap _ _=>false
 |_=>true
def Vcv:Op->Bool
 | .alloc _=>true
 |_=>false
def Vdm(r:Res)(fr:List SV):Res:=⟨r.ok,r.v,⟨fr,r.st.bx,r.st.gn⟩⟩
theorem res_self{r:Res}{S:St}(h:r.st=S):r=⟨r.ok,r.v,S⟩:=by subst h;rfl
section
variable {P:Program} {fr fr':List SV} {bx:List (Nat×ABox)} {gn:List (Key×Nat)} {r:Res}
theorem loc_pick{c x y:SV}(h:aPick c x y ⟨fr,bx,gn⟩=some r):aPick c x y ⟨fr',bx,gn⟩=some (Vdm r fr'):=by
 unfold aPick at h ⊢;split at h
 ·simp only[Za]at h;subst h;rfl
 ·simp at h
theorem loc_lookup{t:TypeId}{x i:SV}{ok:Bool}(h:Vf0 P t x i ok ⟨fr,bx,gn⟩=some r):Vf0 P t x i ok ⟨fr',bx,gn⟩=some (Vdm r fr'):=by
 unfold Vf0 at h ⊢
 split at h
 ·split at h
  ·split at h
   ·rename_i hk;rw[if_pos hk]
    split at h
    ·split at h
     ·split at h
      ·rename_i hb
       have hb':List.lookup _ bx=some _:=hb;simp only[Za]at h;subst h;simp only[hb'];rfl
      ·simp at h
     ·simp only[Za]at h;subst h;rfl
     ·simp only[Za]at h;subst h;rfl
     ·simp at h
    ·simp at h
   ·simp at h
  ·simp at h
 ·simp at h
theorem loc_update{t:TypeId}{x i y:SV}(h:Veb P t x i y ⟨fr,bx,gn⟩=some r):Veb P t x i y ⟨fr',bx,gn⟩=some (Vdm r fr'):=by
 unfold Veb at h ⊢
 split at h
 ·split at h
  ·rename_i hk;rw[if_pos hk]
   split at h
   ·split at h
    ·rename_i hb
     have hb':List.lookup _ bx=some _:=hb;simp only[Za]at h;subst h;simp only[hb'];rfl
    ·simp at h
   ·simp at h
  ·simp at h
 ·simp at h
theorem loc_bin{op:BinOp}{t:TypeId}{x y:SV}(h:aBinS P op t x y ⟨fr,bx,gn⟩=some r):aBinS P op t x y ⟨fr',bx,gn⟩=some (Vdm r fr'):=by
 unfold aBinS at h ⊢;split at h
 ·unfold aBinB at h ⊢
  split at h
  ·split at h
   ·simp only[Za]at h;subst h;rfl
   ·simp only[Za]at h;subst h;rfl
   ·simp at h
  ·simp at h
 ·simp only[Zb]at h ⊢;obtain⟨q,h1,rfl⟩:=h;exact⟨q,h1,rfl⟩
 ·unfold aBinA at h ⊢
  split at h
  ·split at h
   ·rename_i hc;rw[if_pos hc]
    split at h
    ·simp only[Za]at h;subst h;rfl
    ·simp only[Za]at h;subst h;rfl
    ·simp at h
   ·simp at h
  ·simp at h
 ·simp at h
theorem loc_un{op:UnOp}{x:SV}(h:aUnS op x ⟨fr,bx,gn⟩=some r):aUnS op x ⟨fr',bx,gn⟩=some (Vdm r fr'):=by
 unfold aUnS at h ⊢;split at h
 ·simp only[Zb]at h ⊢;obtain⟨q,h1,rfl⟩:=h;exact⟨q,h1,rfl⟩
 ·simp at h
theorem loc_extract{x:SV}{i:Nat}(h:Vf1 x i ⟨fr,bx,gn⟩=some r):Vf1 x i ⟨fr',bx,gn⟩=some (Vdm r fr'):=by
 unfold Vf1 at h ⊢;split at h
 ·simp only[Zb]at h ⊢;obtain⟨q,h1,rfl⟩:=h;exact⟨q,h1,rfl⟩
 ·simp only[Zb]at h ⊢;obtain⟨q,h1,rfl⟩:=h;exact⟨q,h1,rfl⟩
 ·simp at h
theorem Vpi{x:SV}(h:Vdj x ⟨fr,bx,gn⟩=some r):Vdj x ⟨fr',bx,gn⟩=some (Vdm r fr'):=by
 unfold Vdj at h ⊢;split at h
 ·simp only[Za]at h;subst h;rfl
 ·simp only[Za]at h;subst h;rfl
 ·simp at h
theorem loc_field{s:TypeId}{x:SV}{f:Nat}(h:Viy P s x f ⟨fr,bx,gn⟩=some r):Viy P s x f ⟨fr',bx,gn⟩=some (Vdm r fr'):=by
 unfold Viy at h ⊢;split at h
 ·split at h
  ·split at h
   ·simp at h
   ·rename_i h0;rw[if_neg h0]
    split at h
    ·simp only[Za]at h;subst h;rfl
    ·simp only[Za]at h;subst h;rfl
    ·simp only[Za]at h;subst h;rfl
    ·simp at h
  ·simp at h
 ·simp at h
theorem loc_load{t:TypeId}{x:SV}(h:Vin P t x ⟨fr,bx,gn⟩=some r):Vin P t x ⟨fr',bx,gn⟩=some (Vdm r fr'):=by
 unfold Vin at h ⊢;split at h
 ·split at h
  ·simp only at h ⊢
   split at h
   ·simp only[Zb]at h ⊢;obtain⟨q,h1,rfl⟩:=h;exact⟨q,h1,rfl⟩
   ·simp at h
  ·simp only[Zb]at h ⊢;obtain⟨q,h1,rfl⟩:=h;exact⟨q,h1,rfl⟩
  ·simp at h
 ·split at h
  ·split at h
   ·simp only at h ⊢
    split at h
    ·split at h
     ·split at h
      ·split at h
       ·rename_i h1;rw[if_pos h1];simp only[Za]at h;subst h;rfl
       ·simp at h
      ·simp at h
     ·split at h
      ·split at h
       ·rename_i h1;rw[if_pos h1];simp only[Za]at h;subst h;rfl
       ·simp at h
      ·simp at h
    ·simp at h
   ·split at h
    ·rename_i h1;rw[if_pos h1];simp only[Za]at h;subst h;rfl
    ·simp at h
   ·simp at h
  ·simp at h
 ·simp at h
theorem loc_store{t:TypeId}{x y:SV}(h:Vqi P t x y ⟨fr,bx,gn⟩=some r):Vqi P t x y ⟨fr',bx,gn⟩=some (Vdm r fr'):=by
 unfold Vqi at h ⊢;split at h
 ·split at h
  ·simp only at h ⊢
   split at h
   ·split at h
    ·rename_i h1;rw[if_pos h1];simp only[Za]at h;subst h;rfl
    ·simp at h
   ·simp at h
  ·simp only at h ⊢
   split at h
   ·split at h
    ·rename_i h1;rw[if_pos h1];simp only[Za]at h;subst h;rfl
    ·simp at h
   ·simp at h
  ·simp at h
 ·simp at h
theorem Vkh{S S':St}:∀ {l:List (Nat×Operand)},(∀p∈l,S.ev p.2=S'.ev p.2)->Vdz S l=Vdz S' l
 |[],_=>rfl
 |(i,x)::l,h=>by
  have ih:=Vkh (S:=S) (S':=S') (l:=l) (λp hp=>h p (by simp[hp]));simp only[Vdz,h (i,x) ku,ih]
theorem Vkj{S S':St}:∀ {l:List Operand},(∀p∈l,S.ev p=S'.ev p)->Vcw S l=Vcw S' l
 |[],_=>rfl
 |x::l,h=>by
  have ih:=Vkj (S:=S) (S':=S') (l:=l) (λp hp=>h p (by simp[hp]));simp only[Vcw,h x ku,ih]
theorem Vki{S S':St}:∀ {l:List Operand},(∀p∈l,S.ev p=S'.ev p)->Vqf S l=Vqf S' l
 |[],_=>rfl
 |x::l,h=>by
  have ih:=Vki (S:=S) (S':=S') (l:=l) (λp hp=>h p (by simp[hp]));simp only[Vqf,h x ku,ih]
def isVs:SV->Bool
 | .vs _ _=>true
 |_=>false
def opVs(o:Oper)(S:St):Bool:=match o.op with
 | .call {callee:=.builtin .append,args,argTypes:=_}=>match args.toList with
  |[x,_]=>isVs (S.ev x)
  |_=>false
 |_=>false
theorem opVs_local{o:Oper}(he:∀ x∈o.op.operands,(⟨fr,bx,gn⟩:St).ev x=(⟨fr',bx,gn⟩:St).ev x):opVs o ⟨fr,bx,gn⟩=opVs o ⟨fr',bx,gn⟩:=by
  unfold opVs
  split
  · rename_i args tys ho
    split
    · rename_i x y ha
      rw [he x (by simp[ho,Op.operands,Call.operands];have:x∈args.toList:=by(rw[ha];simp)
                   simpa using this)]
    · rfl
  · rfl
theorem Vey{o:Oper}(hl:Vch o.op=true)(hv:opVs o ⟨fr,bx,gn⟩=false)(he:∀ x∈o.op.operands,(⟨fr,bx,gn⟩:St).ev x=(⟨fr',bx,gn⟩:St).ev x)(h:Vb6 P o ⟨fr,bx,gn⟩=some r):Vb6 P o ⟨fr',bx,gn⟩=some (Vdm r fr'):=by
 unfold Vb6 at h ⊢
 split at h
 ·rename_i x ho
  have e1:=he x (by simp[ho,Op.operands]);simp only[Za]at h ⊢;subst h;rw[Vdm,e1]
 ·rename_i x ho
  have e1:=he x (by simp[ho,Op.operands]);simp only[Za]at h ⊢;subst h;rw[Vdm,e1]
 ·rename_i c x y ho;rw[<-he c (by simp[ho,Op.operands]), <-he x (by simp[ho,Op.operands]), <-he y (by simp[ho,Op.operands])];exact loc_pick h
 ·rename_i op t x y t' ho;rw[<-he x (by simp[ho,Op.operands]), <-he y (by simp[ho,Op.operands])];exact loc_bin h
 ·rename_i op t x ho;rw[<-he x (by simp[ho,Op.operands])];exact loc_un h
 ·rename_i x i ho;rw[<-he x (by simp[ho,Op.operands])];exact loc_extract h
 ·rename_i x ho;rw[<-he x (by simp[ho,Op.operands])];exact Vpi h
 ·rename_i s x f ho;rw[<-he x (by simp[ho,Op.operands])];exact loc_field h
 ·rename_i t x ho;rw[<-he x (by simp[ho,Op.operands])];exact loc_load h
 ·rename_i t x y ho;rw[<-he x (by simp[ho,Op.operands]), <-he y (by simp[ho,Op.operands])];exact loc_store h
 ·rename_i t ho;simp[ho,Vch]at hl
 ·rename_i t x ho;simp[ho,Vch]at hl
 ·rename_i t parts ho;unfold Vqn at h ⊢;rw[<-Vkh (S:=⟨fr,bx,gn⟩) (S':=⟨fr',bx,gn⟩) (λp hp=>he p.2 (by simp only[ho,Op.operands];simp;exact⟨p.1,by simpa using hp⟩))]
  split at h
  ·rename_i z pl ps h1 h2 h3
   split at h
   ·rename_i hc;rw[if_pos hc];simp only[Zb]at h ⊢;obtain⟨q,h4,rfl⟩:=h;exact⟨q,h4,rfl⟩
   ·simp at h
  ·simp at h
 ·rename_i t n parts ho;unfold Vbz at h ⊢;rw[<-Vkj (S:=⟨fr,bx,gn⟩) (S':=⟨fr',bx,gn⟩) (λp hp=>he p (by simp only[ho,Op.operands];simp only[List.mem_map]at hp;obtain⟨q,hq,rfl⟩:=hp;simp;exact⟨q.1,by simpa using hq⟩))]
  split at h
  ·split at h
   ·split at h
    ·rename_i hc;rw[if_pos hc];simp only[Za]at h;subst h;rfl
    ·simp at h
   ·simp at h
  ·simp at h
 ·rename_i t x i ho;rw[<-he x (by simp[ho,Op.operands]), <-he i (by simp[ho,Op.operands])];unfold Vec at h ⊢
  split at h
  ·split at h
   ·simp only[Za]at h;subst h;rfl
   ·simp at h
  ·split at h
   ·split at h
    ·rename_i hc;simp only[if_pos hc];simp only[Za]at h;subst h;rfl
    ·simp at h
   ·simp at h
  ·split at h
   ·split at h
    ·split at h
     ·rename_i hc;rw[if_pos hc];simp only[Za]at h;subst h;rfl
     ·simp at h
    ·simp at h
   ·split at h
    ·split at h
     ·simp only[Za]at h;subst h;rfl
     ·simp at h
    ·simp at h
 ·rename_i t x i ho;rw[<-he x (by simp[ho,Op.operands]), <-he i (by simp[ho,Op.operands])];unfold Vqm at h ⊢
  split at h
  ·split at h
   ·rename_i hc;rw[if_pos hc];simp only[Za]at h;subst h;rfl
   ·simp at h
  ·split at h
   ·split at h
    ·simp only[Za]at h;subst h;rfl
    ·simp at h
   ·simp at h
  ·simp at h
 ·rename_i t x lo hi ho
  have e1:=he x (by simp[ho,Op.operands])
  have e2:lo.map (⟨fr',bx,gn⟩:St).ev=lo.map (⟨fr,bx,gn⟩:St).ev:=by
   cases lo with
   |none=>rfl
   |some y=>simp only[Option.map_some];rw[he y (by simp[ho,Op.operands])]
  have e3:hi.map (⟨fr',bx,gn⟩:St).ev=hi.map (⟨fr,bx,gn⟩:St).ev:=by
   cases hi with
   |none=>rfl
   |some y=>simp only[Option.map_some];rw[he y (by simp[ho,Op.operands])]
  rw[<-e1,e2,e3];unfold Vqj at h ⊢
  split at h
  ·split at h
   ·split at h
    ·split at h
     ·simp only[Za]at h;subst h;rfl
     ·simp only[Za]at h;subst h;rfl
    ·simp at h
   ·simp at h
  split at h
  ·split at h
   ·split at h
    ·rename_i hc;rw[if_pos hc];simp only[Za]at h;subst h;rfl
    ·simp at h
   ·simp at h
  ·split at h
   ·split at h
    ·simp only[Za]at h;subst h;rfl
    ·simp at h
   ·simp at h
  ·simp at h
 ·rename_i fn first captured ho
  unfold Vl9 at h ⊢
  rw[<-Vki (S:=⟨fr,bx,gn⟩) (S':=⟨fr',bx,gn⟩) (l:=first.toList) (λp hp=>he p (by simp only[ho,Op.operands];simp;exact .inl (by simpa using hp))),
   <-Vki (S:=⟨fr,bx,gn⟩) (S':=⟨fr',bx,gn⟩) (l:=captured.toList) (λp hp=>he p (by simp only[ho,Op.operands];simp;exact .inr (by simpa using hp)))]
  split at h
  ·simp only[Za]at h;subst h;rfl
  ·simp at h
 ·rename_i b args tys ho
  have hev:∀ x∈args.toList,(⟨fr,bx,gn⟩:St).ev x=(⟨fr',bx,gn⟩:St).ev x:=λx hx=>he x (by simp[ho,Op.operands,Call.operands];simpa using hx)
  unfold Vdv at h ⊢
  split at h
  ·rename_i x t hx ht;rw[<-hev x (by simp[hx])];unfold aLen at h ⊢
   split at h
   ·split at h
    ·rename_i hc;rw[if_pos hc];simp only[Za]at h;subst h;rfl
    ·simp at h
   ·split at h
    ·rename_i hc;rw[if_pos hc];simp only[Za]at h;subst h;rfl
    ·simp at h
   split at h
   ·split at h
    ·rename_i hc;rw[if_pos hc];simp only[Za]at h;subst h;rfl
    ·simp at h
   ·split at h
    ·rename_i hc;rw[if_pos hc];simp only[Za]at h;subst h;rfl
    ·simp at h
   ·simp at h
  ·rename_i x y t t2 hx ht;rw[<-hev x (by simp[hx]), <-hev y (by simp[hx])];unfold Vfu at h ⊢
   split at h
   ·split at h
    ·split at h
     ·rename_i hc;rw[if_pos hc]
      split at h
      ·split at h
       ·split at h
        ·rename_i hk;rw[if_pos hk];simp only[Za]at h;subst h;rfl
        ·simp at h
       ·rename_i hvs;simp[opVs,ho,hx,hvs,isVs]at hv
       ·simp only[Za]at h;subst h;rfl
       ·simp only[Za]at h;subst h;rfl
       ·simp at h
      ·simp at h
     ·simp at h
    ·simp at h
   ·simp at h
  ·rename_i x y hx;rw[<-hev x (by simp[hx]), <-hev y (by simp[hx])]
   split at h
   ·split at h
    ·rename_i hk;rw[if_pos hk];simp only[Za]at h;subst h;rfl
    ·simp at h
   ·simp at h
  ·rename_i x y z hx;rw[<-hev x (by simp[hx]), <-hev y (by simp[hx]), <-hev z (by simp[hx])]
   split at h
   ·split at h
    ·rename_i hk;rw[if_pos hk];simp only[Za]at h;subst h;rfl
    ·simp at h
   ·simp at h
  ·rename_i x y hx;rw[<-hev x (by simp[hx]), <-hev y (by simp[hx])]
   split at h
   ·split at h
    ·rename_i hk;rw[if_pos hk];simp only[Za]at h;subst h;rfl
    ·simp at h
   ·simp at h
  ·rename_i x t hx ht;rw[<-hev x (by simp[hx])]
   split at h
   ·split at h
    ·rename_i h3;have h4:List.lookup _ bx=some _:=h3;simp only[Za]at h;subst h;simp only[h4];rfl
    ·simp at h
   ·simp at h
  ·simp at h
 ·rename_i ho;simp[ho,Vch]at hl
 ·rename_i t x i ok ho;rw[<-he x (by simp[ho,Op.operands]), <-he i (by simp[ho,Op.operands])];exact loc_lookup h
 ·rename_i t x i y ho;rw[<-he x (by simp[ho,Op.operands]), <-he i (by simp[ho,Op.operands]), <-he y (by simp[ho,Op.operands])];exact loc_update h
 ·rename_i src dst x ho;rw[<-he x (by simp[ho,Op.operands])];unfold Vhm at h ⊢
  split at h
  ·split at h
   ·simp only[Za]at h;subst h;rfl
   ·simp at h
  ·split at h
   ·simp only[Za]at h;subst h;rfl
   ·simp at h
  ·split at h
   ·simp only[Za]at h;subst h;rfl
   ·simp at h
  ·simp at h
 ·rename_i t x y ho;rw[<-he x (by simp[ho,Op.operands]), <-he y (by simp[ho,Op.operands])];unfold aMake at h ⊢
  split at h
  ·split at h
   ·split at h
    ·rename_i hc;rw[if_pos hc];simp only[Za]at h;subst h;rfl
    ·simp at h
   ·simp at h
  ·simp at h
 ·simp at h
theorem Ve1{S S':St}{fs cs:List PV}{l:List Operand}{keep:Bool}(h:∀ p∈l,S.ev p=S'.ev p):Vew S fs l cs keep=Vew S' fs l cs keep:=by
 unfold Vew;congr 2;exact List.map_congr_left (λx hx=>by rw[h x hx])
theorem gnOk_local{l:List (Key×Nat)}:gnOk ⟨fr,bx,gn⟩ l=gnOk ⟨fr',bx,gn⟩ l:=by
 induction l with
 |nil=>rfl
 |cons p l ih=>obtain⟨k,g⟩:=p;simp only[gnOk,ih];rfl
def Vh5(P:Program)(o:Oper)(ors:List Or)(S:St):Option (List Prop×SV×List (Nat×ABox)×List (Key×Nat)):=
 match o.op with
 | .pick c x y=>match S.ev c,ors with
  | .av (.val (.bool p)),[.b d]=>some ([p=d],(match d with|true=>S.ev x|false=>S.ev y),S.bx,S.gn)
  |_,_=>none
 | .binOp .add _ x y _=>match S.ev x,S.ev y,ors with
  | .av (.val (.int k i)),.av (.val (.int k' j)),[.n m]=>if k=k' then some ([k.wrap (i+j)=m],.av (.val (.int k m)),S.bx,S.gn)else none
  | .av (.val (.string a)),.av (.val (.string b)),[]=>some ([((a.size+b.size:Nat):Int)<=IntKind.i64.max],.av (.val (.string (a++b))),S.bx,S.gn)
  |_,_,_=>none
 | .binOp .sub _ x y _=>match S.ev x,S.ev y,ors with
  | .av (.val (.int k i)),.av (.val (.int k' j)),[.n m]=>if k=k' then some ([k.wrap (i-j)=m],.av (.val (.int k m)),S.bx,S.gn)else none
  |_,_,_=>none
 | .binOp .mul _ x y _=>match S.ev x,S.ev y,ors with
  | .av (.val (.int k i)),.av (.val (.int k' j)),[.n m]=>if k=k' then some ([k.wrap (i*j)=m],.av (.val (.int k m)),S.bx,S.gn)else none
  |_,_,_=>none
 | .indexAddr t x i=>match Vbb P t with
  |some e=>match Vak P e,(S.ev x).toAV,S.ev i,ors with
   |some (sz,_,_),some (.sl l),.av (.val (.int _ i)),[.e y]=>if 0<sz/\y.cells.length=sz/\y.isTup=false then some ([0<=i/\l[i.toNat]? =some y],.av (.ro y.cells 0),S.bx,S.gn)else none
   |_,_,_,_=>none
  | none=>match S.ev x,S.ev i,tArr P t,ors with
   | .ptr b k,.av (.val (.int _ i)),some (n,e),[]=>match Vak P e with
    |some (sz,_,_)=>some ([0<=i/\i<n],.ptr b (k+i.toNat*sz),S.bx,S.gn)
    |none=>none
   |_,_,_,_=>none
 | .call {callee:=.value x,args,argTypes:=_}=>match S.ev x,ors with
  | .fn f fs cs,[.c res bx' gn gn']=>match Vb8 bx' with
   |[]=>some ([Va2 P f (Vew S fs args.toList cs (!gn.isEmpty)) (S.bx.filter (λp=>(bx'.map (·.1)).contains p.1)) gn res bx' gn',gnOk S gn],res,(S.upd bx' gn').bx,(S.upd bx' gn').gn)
   |_::_=>none
  |_,_=>none
 | .lookup _ _ _ _=>match Vb6 P o S,ors with
  |some ⟨ok,.av v,_⟩,[.e y]=>some ([ok,v=y],.av y,S.bx,S.gn)
  |_,_=>none
 |_=>match(Vch o.op&& !opVs o S)||Vcv o.op,Vb6 P o S,ors with
  |true,some r,[]=>some ([r.ok],r.v,r.st.bx,r.st.gn)
  |_,_,_=>none
def runV(P:Program)(o:Oper)(ors:List Or)(S:St):Option (List Prop×SV×List (Nat×ABox)×List (Key×Nat)):=
 match Vbd P o ors S with
 |some (c,[],v)=>some (c,v,S.bx,S.gn)
 |some _=>none
 |none=>Vh5 P o ors S
theorem Vmv{o:Oper}{ors:List Or}(he:∀ x∈o.op.operands,(⟨fr,bx,gn⟩:St).ev x=(⟨fr',bx,gn⟩:St).ev x):Vbd P o ors ⟨fr,bx,gn⟩=Vbd P o ors ⟨fr',bx,gn⟩:=by
 unfold Vbd
 split
 ·rename_i t x y ors2 ho;rw[he x (by simp[ho,Op.operands])]
 ·rename_i ors2 t x i ho;rw[he x (by simp[ho,Op.operands]),he i (by simp[ho,Op.operands])]
 ·rfl
theorem Vl5{o:Oper}(ha:Vcv o.op=true)(hal:∀ id,o.dst=some id->fr'.any (SV.names id)=false)(h:Vb6 P o ⟨fr,bx,gn⟩=some r):Vb6 P o ⟨fr',bx,gn⟩=some (Vdm r fr'):=by
 unfold Vcv at ha
 split at ha
 ·rename_i t ho;unfold Vb6 at h ⊢;simp only[ho]at h ⊢;unfold Vqo at h ⊢
  split at h
  ·rename_i id _ _ z hd hi
   split at h
   ·rename_i hc;obtain⟨c1,c2,c3⟩:=hc
    have:(⟨fr',bx,gn⟩:St).names id=false:=by
     simp only[St.names,Bool.or_eq_false_iff]at c3 ⊢;exact⟨hal id hd,c3.2⟩
    rw[if_pos ⟨c1,c2,this⟩];simp only[Za]at h;subst h;rfl
   ·simp at h
  ·simp at h
 ·simp at ha
theorem runV0_local{o:Oper}{ors:List Or}{cs:List Prop}{v:SV}{bx':List (Nat×ABox)}{gn':List (Key×Nat)}(he:∀ x∈o.op.operands,(⟨fr,bx,gn⟩:St).ev x=(⟨fr',bx,gn⟩:St).ev x)(hal:Vcv o.op=true->∀ id,o.dst=some id->fr'.any (SV.names id)=false)(h:Vh5 P o ors ⟨fr,bx,gn⟩=some (cs,v,bx',gn')):Vh5 P o ors ⟨fr',bx,gn⟩=some (cs,v,bx',gn'):=by
 unfold Vh5 at h ⊢
 split at h
 ·rename_i c x y ho;rw[<-he c (by simp[ho,Op.operands]), <-he x (by simp[ho,Op.operands]), <-he y (by simp[ho,Op.operands])];exact h
 ·rename_i t x y t' ho;rw[<-he x (by simp[ho,Op.operands]), <-he y (by simp[ho,Op.operands])];exact h
 ·rename_i t x y t' ho;rw[<-he x (by simp[ho,Op.operands]), <-he y (by simp[ho,Op.operands])];exact h
 ·rename_i t x y t' ho;rw[<-he x (by simp[ho,Op.operands]), <-he y (by simp[ho,Op.operands])];exact h
 ·rename_i t x i ho;rw[<-he x (by simp[ho,Op.operands]), <-he i (by simp[ho,Op.operands])];exact h
 ·rename_i x args tys ho;rw[<-he x (by simp[ho,Op.operands,Call.operands])]
  split at h
  ·rename_i f fs cs' res bx2 gn2 gn3 hx;rw[<-Ve1 (S:=⟨fr,bx,gn⟩) (S':=⟨fr',bx,gn⟩) (λp hp=>he p (by simp[ho,Op.operands,Call.operands];exact .inr (by simpa using hp))), <-gnOk_local (fr:=fr)]
   split at h
   ·rename_i hvi;rw[Vgf hvi]at h;simp only[hvi,Vgf hvi];exact h
   ·simp at h
  ·simp at h
 ·rename_i t x i ok ho
  have ho':Vch o.op=true:=by rw[ho];rfl
  have hv:opVs o ⟨fr,bx,gn⟩=false:=by unfold opVs;rw[ho]
  split at h
  ·rename_i ok' v' st' y h2
   have:=Vey ho' hv he h2;rw[this];exact h
  ·simp at h
 ·split at h
  ·rename_i r h1 h2;rw[<-opVs_local he,h1];rcases Bool.or_eq_true _ _ ▸ h1 with h3|h3
   ·have h4:Vch o.op=true/\opVs o ⟨fr,bx,gn⟩=false:=by simpa using h3
    have:=Vey h4.1 h4.2 he h2;rw[this];exact h
   ·have:=Vl5 h3 (hal h3) h2;rw[this];exact h
  ·simp at h
theorem Vm0{o:Oper}{ors:List Or}{cs:List Prop}{v:SV}{bx':List (Nat×ABox)}{gn':List (Key×Nat)}(he:∀ x∈o.op.operands,(⟨fr,bx,gn⟩:St).ev x=(⟨fr',bx,gn⟩:St).ev x)(hal:Vcv o.op=true->∀ id,o.dst=some id->fr'.any (SV.names id)=false)(h:runV P o ors ⟨fr,bx,gn⟩=some (cs,v,bx',gn')):runV P o ors ⟨fr',bx,gn⟩=some (cs,v,bx',gn'):=by
 unfold runV at h ⊢;rw[Vmv (fr':=fr') he]at h
 split at h
 ·exact h
 ·simp at h
 ·exact runV0_local he hal h
theorem lookup_st{t:TypeId}{x i:SV}{ok:Bool}{S:St}(h:Vf0 P t x i ok S=some r):r.st=S:=by
 unfold Vf0 at h
 repeat' split at h
 all_goals first|(simp at h;done)|(simp only[Za]at h;subst h;rfl)
theorem runV0_key{o:Oper}{ors:List Or}{S:St}{cs:List Prop}{v:SV}{bx':List (Nat×ABox)}{gn':List (Key×Nat)}(h:Vh5 P o ors S=some (cs,v,bx',gn')):∃ S',Vh6 P o ors S=some (cs,[],S')/\S'=(⟨S.fr,bx',gn'⟩:St).put o.dst v:=by
  unfold Vh5 at h;unfold Vh6
  split at h
  ·rename_i c x y ho
   split at h
   ·rename_i hp;simp only[Za,Zc]at h;obtain⟨rfl,rfl,rfl,rfl⟩:=h;simp only[ho,hp];exact⟨_,rfl,rfl⟩
   ·simp at h
  ·rename_i t x y t' ho
   split at h
   ·rename_i hx hy
    split at h
    ·rename_i hk;simp only[Za,Zc]at h;obtain⟨rfl,rfl,rfl,rfl⟩:=h;simp only[ho,hx,hy,if_pos hk];exact⟨_,rfl,rfl⟩
    ·simp at h
   ·rename_i hx hy;simp only[Za,Zc]at h;obtain⟨rfl,rfl,rfl,rfl⟩:=h;simp only[ho,hx,hy];exact⟨_,rfl,rfl⟩
   ·simp at h
  ·rename_i t x y t' ho
   split at h
   ·rename_i hx hy
    split at h
    ·rename_i hk;simp only[Za,Zc]at h;obtain⟨rfl,rfl,rfl,rfl⟩:=h;simp only[ho,hx,hy,if_pos hk];exact⟨_,rfl,rfl⟩
    ·simp at h
   ·simp at h
  ·rename_i t x y t' ho
   split at h
   ·rename_i hx hy
    split at h
    ·rename_i hk;simp only[Za,Zc]at h;obtain⟨rfl,rfl,rfl,rfl⟩:=h;simp only[ho,hx,hy,if_pos hk];exact⟨_,rfl,rfl⟩
    ·simp at h
   ·simp at h
  ·rename_i t x i ho
   split at h
   ·rename_i e he
    split at h
    ·rename_i h2 h3 h4
     split at h
     ·rename_i hk;simp only[Za,Zc]at h;obtain⟨rfl,rfl,rfl,rfl⟩:=h;simp only[ho,he,h2,h3,h4,if_pos hk];exact⟨_,rfl,rfl⟩
     ·simp at h
    ·simp at h
   ·rename_i he
    split at h
    ·rename_i h2 h3 h4
     split at h
     ·rename_i h5;simp only[Za,Zc]at h;obtain⟨rfl,rfl,rfl,rfl⟩:=h;simp only[ho,he,h2,h3,h4,h5];exact⟨_,rfl,rfl⟩
     ·simp at h
    ·simp at h
  ·rename_i x args tys ho
   split at h
   ·rename_i hx
    split at h
    ·rename_i hvi;simp only[Za,Zc]at h;obtain⟨rfl,rfl,rfl,rfl⟩:=h;simp only[ho,hx,hvi,List.all_nil];exact⟨_,rfl,by rw[Vgf hvi]⟩
    ·simp at h
   ·simp at h
  ·rename_i t x i ok ho
   split at h
   ·rename_i ok' v' st' y h2;simp only[Za,Zc]at h;obtain⟨rfl,rfl,rfl,rfl⟩:=h
    have hst:st'=S:=by
     have h3:=h2;unfold Vb6 at h3;simp only[ho]at h3;exact lookup_st h3
    subst hst;simp only[ho,h2];exact⟨_,rfl,rfl⟩
   ·simp at h
  ·rename_i n0 n1 n2 n3 n4 n5 n6
   split at h
   ·rename_i r h1 h2;simp only[Za,Zc]at h;obtain⟨rfl,rfl,rfl,rfl⟩:=h
    have hfr:r.st.fr=S.fr:=by
     obtain⟨fr,bx,gn⟩:=S;rcases Bool.or_eq_true _ _ ▸ h1 with h3|h3
     ·have h4:Vch o.op=true/\opVs o ⟨fr,bx,gn⟩=false:=by simpa using h3
      have:=Vey (fr':=fr) h4.1 h4.2 (λ_ _=>rfl) h2;rw[h2]at this;simp only[Za]at this;rw[this];rfl
     ·have hn:∀ id,o.dst=some id->fr.any (SV.names id)=false:=by
       intro id hid;unfold Vcv at h3
       split at h3
       ·rename_i t ho
        have h2:=h2;unfold Vb6 at h2;simp only[ho]at h2;unfold Vqo at h2
        split at h2
        ·rename_i id' _ _ z hd hi
         split at h2
         ·rename_i hc;rw[hid]at hd;simp only[Za]at hd;subst hd
          have:=hc.2.2;simp only[St.names,Bool.or_eq_false_iff]at this;exact this.1
         ·simp at h2
        ·simp at h2
       ·simp at h3
      have:=Vl5 (fr':=fr) h3 hn h2;rw[h2]at this;simp only[Za]at this;rw[this];rfl
    refine⟨r.st.put o.dst r.v,?_,?_⟩
    ·split
     ·rename_i ho;exact(n0 _ _ _ ho).elim
     ·rename_i ho;exact(n1 _ _ _ _ ho).elim
     ·rename_i ho;exact(n2 _ _ _ _ ho).elim
     ·rename_i ho;exact(n3 _ _ _ _ ho).elim
     ·rename_i ho;exact(n4 _ _ _ ho).elim
     ·rename_i ho;exact(n5 _ _ _ ho).elim
     ·rename_i ho;exact(n6 _ _ _ _ ho).elim
     ·rw[h2]
    ·obtain⟨ok,v,⟨f,b,g⟩⟩:=r;simp only at hfr;subst hfr;rfl
   ·simp at h
theorem Ve6{o:Oper}{ors:List Or}{S:St}{cs:List Prop}{v:SV}{bx':List (Nat×ABox)}{gn':List (Key×Nat)}(h:runV P o ors S=some (cs,v,bx',gn'))(hc:All cs){G:Gh}{w:World}{a:Act}(hr:Rel G w S a){Q:Exit->Act->World->Prop}{next:Act->World->Prop}
  (hn:∀ G' a' w',Step G w G' w'->Rel G' w' ((⟨S.fr,bx',gn'⟩:St).put o.dst v) a'->(∀i,Fx i->G'.ow (i,0)=G.ow (i,0))->next a' w'):o.wp P a w next Q:=by
 have key:∃ S',Vg4 P o ors S=some (cs,[],S')/\S'=(⟨S.fr,bx',gn'⟩:St).put o.dst v:=by
  unfold runV at h;unfold Vg4
  split at h
  ·rename_i c v' hv;simp only[Za,Zc]at h;obtain⟨rfl,rfl,rfl,rfl⟩:=h;rw[hv];exact⟨_,rfl,rfl⟩
  ·simp at h
  ·rename_i hv;rw[hv];exact runV0_key h
 obtain⟨S',h1,rfl⟩:=key;exact Vbx h1 hc hr hn
end
end Go.Eng
