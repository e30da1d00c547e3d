/- Texts joined by a program (merge.py). -/
import Derived.Test.YthbpjmogdonlkaaGreatDoorMea
import Derived.Orders
set_option linter.unusedSimpArgs false
set_option linter.unusedVariables false
open Option.some renaming injEq->I
open Go.Op renaming operands->Za
open Option renaming map_eq_some_iff->Zb,some->Ze,none->Zh,map_some->Zk
open Prod.mk renaming injEq->Zc
open _root_ renaming if_pos->Zd,List->Zf,Nat->Zo,Bool->Zr
open Go.Call renaming operands->Zg
open Bool renaming false->Zi,or_eq_true->Zl,true->Zp
open Go renaming TypeId->Zj,Oper->Zm,Operand->Zn,Program->Zq
namespace Go.Eng
def Vcq:Op->Zr
 | .alloc _| .box _ _| .makeMap _ _=>Zi
 |_=>Zp
def Vd4:Op->Zr
 | .alloc _=>Zp
 |_=>Zi
def Vdx(r:Res)(fr:Zf SV):Res:=⟨r.ok,r.v,⟨fr,r.st.bx,r.st.gn⟩⟩
theorem res_self{r:Res}{S:St}(h:r.st=S):r=⟨r.ok,r.v,S⟩:=by subst h;rfl
section
variable {P:Zq} {fr fr':Zf SV} {bx:Zf (Zo×ABox)} {gn:Zf (Key×Zo)} {r:Res}
theorem loc_pick{c x y:SV}(h:aPick c x y ⟨fr,bx,gn⟩=Ze r):aPick c x y ⟨fr',bx,gn⟩=Ze (Vdx r fr'):=by
 unfold aPick at h ⊢;split at h
 ·simp only[I]at h;subst h;rfl
 ·simp at h
theorem loc_lookup{t:Zj}{x i:SV}{ok:Zr}(h:Vfh P t x i ok ⟨fr,bx,gn⟩=Ze r):Vfh P t x i ok ⟨fr',bx,gn⟩=Ze (Vdx r fr'):=by
 unfold Vfh at h ⊢
 split at h
 ·split at h
  ·split at h
   ·rename_i hk;rw[Zd hk]
    split at h
    ·split at h
     ·split at h
      ·rename_i hb;have hb':List.lookup _ bx=Ze _:=hb;simp only[I]at h;subst h;simp only[hb'];rfl
      ·simp at h
     ·simp only[I]at h;subst h;rfl
     ·simp only[I]at h;subst h;rfl
     ·simp at h
    ·simp at h
   ·simp at h
  ·simp at h
 ·simp at h
theorem loc_update{t:Zj}{x i y:SV}(h:Ven P t x i y ⟨fr,bx,gn⟩=Ze r):Ven P t x i y ⟨fr',bx,gn⟩=Ze (Vdx r fr'):=by
 unfold Ven at h ⊢
 split at h
 ·split at h
  ·rename_i hk;rw[Zd hk]
   split at h
   ·split at h
    ·rename_i hb;have hb':List.lookup _ bx=Ze _:=hb;simp only[I]at h;subst h;simp only[hb'];rfl
    ·simp at h
   ·simp at h
  ·simp at h
 ·simp at h
theorem loc_bin{op:BinOp}{t:Zj}{x y:SV}(h:aBinS P op t x y ⟨fr,bx,gn⟩=Ze r):aBinS P op t x y ⟨fr',bx,gn⟩=Ze (Vdx r fr'):=by
 unfold aBinS at h ⊢;split at h
 ·unfold aBinB at h ⊢
  split at h
  ·split at h
   ·simp only[I]at h;subst h;rfl
   ·simp only[I]at h;subst h;rfl
   ·simp at h
  ·simp at h
 ·simp only[Zb]at h ⊢;obtain⟨q,h1,rfl⟩:=h;exact⟨q,h1,rfl⟩
 ·unfold aBinA at h ⊢
  split at h
  ·split at h
   ·rename_i hc;rw[Zd hc]
    split at h
    ·simp only[I]at h;subst h;rfl
    ·simp only[I]at h;subst h;rfl
    ·simp at h
   ·simp at h
  ·simp at h
 ·simp at h
theorem loc_un{op:UnOp}{x:SV}(h:aUnS op x ⟨fr,bx,gn⟩=Ze r):aUnS op x ⟨fr',bx,gn⟩=Ze (Vdx r fr'):=by
 unfold aUnS at h ⊢;split at h
 ·simp only[Zb]at h ⊢;obtain⟨q,h1,rfl⟩:=h;exact⟨q,h1,rfl⟩
 ·simp at h
theorem loc_extract{x:SV}{i:Zo}(h:Vfi x i ⟨fr,bx,gn⟩=Ze r):Vfi x i ⟨fr',bx,gn⟩=Ze (Vdx r fr'):=by
 unfold Vfi at h ⊢;split at h
 ·simp only[Zb]at h ⊢;obtain⟨q,h1,rfl⟩:=h;exact⟨q,h1,rfl⟩
 ·simp only[Zb]at h ⊢;obtain⟨q,h1,rfl⟩:=h;exact⟨q,h1,rfl⟩
 ·simp at h
theorem Vr5{x:SV}(h:Vdu x ⟨fr,bx,gn⟩=Ze r):Vdu x ⟨fr',bx,gn⟩=Ze (Vdx r fr'):=by
 unfold Vdu at h ⊢;split at h
 ·simp only[I]at h;subst h;rfl
 ·simp only[I]at h;subst h;rfl
 ·simp at h
theorem loc_field{s:Zj}{x:SV}{f:Zo}(h:Vjt P s x f ⟨fr,bx,gn⟩=Ze r):Vjt P s x f ⟨fr',bx,gn⟩=Ze (Vdx r fr'):=by
 unfold Vjt at h ⊢;split at h
 ·split at h
  ·split at h
   ·simp at h
   ·rename_i h0;rw[if_neg h0]
    split at h
    ·simp only[I]at h;subst h;rfl
    ·simp only[I]at h;subst h;rfl
    ·simp only[I]at h;subst h;rfl
    ·simp at h
  ·simp at h
 ·simp at h
theorem loc_load{t:Zj}{x:SV}(h:Vjj P t x ⟨fr,bx,gn⟩=Ze r):Vjj P t x ⟨fr',bx,gn⟩=Ze (Vdx r fr'):=by
 unfold Vjj at h ⊢;split at h
 ·split at h
  ·simp only at h ⊢
   split at h
   ·simp only[Zb]at h ⊢;obtain⟨q,h1,rfl⟩:=h;exact⟨q,h1,rfl⟩
   ·simp at h
  ·simp only[Zb]at h ⊢;obtain⟨q,h1,rfl⟩:=h;exact⟨q,h1,rfl⟩
  ·simp at h
 ·split at h
  ·split at h
   ·simp only at h ⊢
    split at h
    ·split at h
     ·split at h
      ·split at h
       ·rename_i h1;rw[Zd h1];simp only[I]at h;subst h;rfl
       ·simp at h
      ·simp at h
     ·split at h
      ·split at h
       ·rename_i h1;rw[Zd h1];simp only[I]at h;subst h;rfl
       ·simp at h
      ·simp at h
    ·simp at h
   ·split at h
    ·rename_i h1;rw[Zd h1];simp only[I]at h;subst h;rfl
    ·simp at h
   ·simp at h
  ·simp at h
 ·simp at h
theorem loc_store{t:Zj}{x y:SV}(h:Vs2 P t x y ⟨fr,bx,gn⟩=Ze r):Vs2 P t x y ⟨fr',bx,gn⟩=Ze (Vdx r fr'):=by
 unfold Vs2 at h ⊢;split at h
 ·split at h
  ·simp only at h ⊢
   split at h
   ·split at h
    ·rename_i h1;rw[Zd h1];simp only[I]at h;subst h;rfl
    ·simp at h
   ·simp at h
  ·simp only at h ⊢
   split at h
   ·split at h
    ·rename_i h1;rw[Zd h1];simp only[I]at h;subst h;rfl
    ·simp at h
   ·simp at h
  ·simp at h
 ·simp at h
theorem Vlb{S S':St}:∀ {l:Zf (Zo×Zn)},(∀p∈l,S.ev p.2=S'.ev p.2)->Ve9 S l=Ve9 S' l
 |[],_=>rfl
 |(i,x)::l,h=>by
  have ih:=Vlb (S:=S) (S':=S') (l:=l) (λp hp=>h p (by simp[hp]));simp only[Ve9,h (i,x) ku,ih]
theorem Vld{S S':St}:∀ {l:Zf Zn},(∀p∈l,S.ev p=S'.ev p)->Vd5 S l=Vd5 S' l
 |[],_=>rfl
 |x::l,h=>by
  have ih:=Vld (S:=S) (S':=S') (l:=l) (λp hp=>h p (by simp[hp]));simp only[Vd5,h x ku,ih]
theorem Vlc{S S':St}:∀ {l:Zf Zn},(∀p∈l,S.ev p=S'.ev p)->Vs0 S l=Vs0 S' l
 |[],_=>rfl
 |x::l,h=>by
  have ih:=Vlc (S:=S) (S':=S') (l:=l) (λp hp=>h p (by simp[hp]));simp only[Vs0,h x ku,ih]
def isVs:SV->Zr
 | .vs _ _=>Zp
 |_=>Zi
def opVs(o:Zm)(S:St):Bool:=match o.op with
 | .call {callee:=.builtin .append,args,argTypes:=_}=>match args.toList with
  |[x,_]=>isVs (S.ev x)
  |_=>Zi
 |_=>Zi
theorem opVs_local{o:Zm}(he:∀ x∈o.op.operands,(⟨fr,bx,gn⟩:St).ev x=(⟨fr',bx,gn⟩:St).ev x):opVs o ⟨fr,bx,gn⟩=opVs o ⟨fr',bx,gn⟩:=by
  unfold opVs
  split
  · rename_i args tys ho
    split
    · rename_i x y ha
      rw [he x (by simp[ho,Za,Zg];have:x∈args.toList:=by(rw[ha];simp)
                   simpa using this)]
    · rfl
  · rfl
theorem Vff{o:Zm}(hl:Vcq o.op=Zp)(hv:opVs o ⟨fr,bx,gn⟩=Zi)(he:∀ x∈o.op.operands,(⟨fr,bx,gn⟩:St).ev x=(⟨fr',bx,gn⟩:St).ev x)(h:Vb8 P o ⟨fr,bx,gn⟩=Ze r):Vb8 P o ⟨fr',bx,gn⟩=Ze (Vdx r fr'):=by
 unfold Vb8 at h ⊢
 split at h
 ·rename_i x ho;have e1:=he x (by simp[ho,Za]);simp only[I]at h ⊢;subst h;rw[Vdx,e1]
 ·rename_i x ho;have e1:=he x (by simp[ho,Za]);simp only[I]at h ⊢;subst h;rw[Vdx,e1]
 ·rename_i c x y ho;rw[<-he c (by simp[ho,Za]), <-he x (by simp[ho,Za]), <-he y (by simp[ho,Za])];exact loc_pick h
 ·rename_i op t x y t' ho;rw[<-he x (by simp[ho,Za]), <-he y (by simp[ho,Za])];exact loc_bin h
 ·rename_i op t x ho;rw[<-he x (by simp[ho,Za])];exact loc_un h
 ·rename_i x i ho;rw[<-he x (by simp[ho,Za])];exact loc_extract h
 ·rename_i x ho;rw[<-he x (by simp[ho,Za])];exact Vr5 h
 ·rename_i s x f ho;rw[<-he x (by simp[ho,Za])];exact loc_field h
 ·rename_i t x ho;rw[<-he x (by simp[ho,Za])];exact loc_load h
 ·rename_i t x y ho;rw[<-he x (by simp[ho,Za]), <-he y (by simp[ho,Za])];exact loc_store h
 ·rename_i t ho;simp[ho,Vcq]at hl
 ·rename_i t x ho;simp[ho,Vcq]at hl
 ·rename_i t parts ho;unfold Vs7 at h ⊢;rw[<-Vlb (S:=⟨fr,bx,gn⟩) (S':=⟨fr',bx,gn⟩) (λp hp=>he p.2 (by simp only[ho,Za];simp;exact⟨p.1,by simpa using hp⟩))]
  split at h
  ·rename_i z pl ps h1 h2 h3
   split at h
   ·rename_i hc;rw[Zd hc];simp only[Zb]at h ⊢;obtain⟨q,h4,rfl⟩:=h;exact⟨q,h4,rfl⟩
   ·simp at h
  ·simp at h
 ·rename_i t n parts ho;unfold Vc7 at h ⊢;rw[<-Vld (S:=⟨fr,bx,gn⟩) (S':=⟨fr',bx,gn⟩) (λp hp=>he p (by simp only[ho,Za];simp only[List.mem_map]at hp;obtain⟨q,hq,rfl⟩:=hp;simp;exact⟨q.1,by simpa using hq⟩))]
  split at h
  ·split at h
   ·split at h
    ·rename_i hc;rw[Zd hc];simp only[I]at h;subst h;rfl
    ·simp at h
   ·simp at h
  ·simp at h
 ·rename_i t x i ho;rw[<-he x (by simp[ho,Za]), <-he i (by simp[ho,Za])];unfold Veo at h ⊢
  split at h
  ·split at h
   ·simp only[I]at h;subst h;rfl
   ·simp at h
  ·split at h
   ·split at h
    ·rename_i hc;simp only[Zd hc];simp only[I]at h;subst h;rfl
    ·simp at h
   ·simp at h
  ·split at h
   ·split at h
    ·split at h
     ·rename_i hc;rw[Zd hc];simp only[I]at h;subst h;rfl
     ·simp at h
    ·simp at h
   ·split at h
    ·split at h
     ·simp only[I]at h;subst h;rfl
     ·simp at h
    ·simp at h
 ·rename_i t x i ho;rw[<-he x (by simp[ho,Za]), <-he i (by simp[ho,Za])];unfold Vs6 at h ⊢
  split at h
  ·split at h
   ·rename_i hc;rw[Zd hc];simp only[I]at h;subst h;rfl
   ·simp at h
  ·split at h
   ·split at h
    ·simp only[I]at h;subst h;rfl
    ·simp at h
   ·simp at h
  ·simp at h
 ·rename_i t x lo hi ho;have e1:=he x (by simp[ho,Za]);have e2:lo.map (⟨fr',bx,gn⟩:St).ev=lo.map (⟨fr,bx,gn⟩:St).ev:=by
   cases lo with
   |none=>rfl
   |some y=>simp only[Zk];rw[he y (by simp[ho,Za])]
  have e3:hi.map (⟨fr',bx,gn⟩:St).ev=hi.map (⟨fr,bx,gn⟩:St).ev:=by
   cases hi with
   |none=>rfl
   |some y=>simp only[Zk];rw[he y (by simp[ho,Za])]
  rw[<-e1,e2,e3];unfold Vs3 at h ⊢
  split at h
  ·split at h
   ·split at h
    ·split at h
     ·simp only[I]at h;subst h;rfl
     ·simp only[I]at h;subst h;rfl
    ·simp at h
   ·simp at h
  split at h
  ·split at h
   ·split at h
    ·rename_i hc;rw[Zd hc];simp only[I]at h;subst h;rfl
    ·simp at h
   ·simp at h
  ·split at h
   ·split at h
    ·simp only[I]at h;subst h;rfl
    ·simp at h
   ·simp at h
  ·simp at h
 ·rename_i fn first captured ho
  unfold Vma at h ⊢
  rw[<-Vlc (S:=⟨fr,bx,gn⟩) (S':=⟨fr',bx,gn⟩) (l:=first.toList) (λp hp=>he p (by simp only[ho,Za];simp;exact .inl (by simpa using hp))),
   <-Vlc (S:=⟨fr,bx,gn⟩) (S':=⟨fr',bx,gn⟩) (l:=captured.toList) (λp hp=>he p (by simp only[ho,Za];simp;exact .inr (by simpa using hp)))]
  split at h
  ·simp only[I]at h;subst h;rfl
  ·simp at h
 ·rename_i b args tys ho;have hev:∀ x∈args.toList,(⟨fr,bx,gn⟩:St).ev x=(⟨fr',bx,gn⟩:St).ev x:=λx hx=>he x (by simp[ho,Za,Zg];simpa using hx)
  unfold Ve5 at h ⊢
  split at h
  ·rename_i x t hx ht;rw[<-hev x (by simp[hx])];unfold aLen at h ⊢
   split at h
   ·split at h
    ·rename_i hc;rw[Zd hc];simp only[I]at h;subst h;rfl
    ·simp at h
   ·split at h
    ·rename_i hc;rw[Zd hc];simp only[I]at h;subst h;rfl
    ·simp at h
   split at h
   ·split at h
    ·rename_i hc;rw[Zd hc];simp only[I]at h;subst h;rfl
    ·simp at h
   ·split at h
    ·rename_i hc;rw[Zd hc];simp only[I]at h;subst h;rfl
    ·simp at h
   ·simp at h
  ·rename_i x y t t2 hx ht;rw[<-hev x (by simp[hx]), <-hev y (by simp[hx])];unfold Vgf at h ⊢
   split at h
   ·split at h
    ·split at h
     ·rename_i hc;rw[Zd hc]
      split at h
      ·split at h
       ·split at h
        ·rename_i hk;rw[Zd hk];simp only[I]at h;subst h;rfl
        ·simp at h
       ·rename_i hvs;simp[opVs,ho,hx,hvs,isVs]at hv
       ·simp only[I]at h;subst h;rfl
       ·simp only[I]at h;subst h;rfl
       ·simp at h
      ·simp at h
     ·simp at h
    ·simp at h
   ·simp at h
  ·rename_i x y hx;rw[<-hev x (by simp[hx]), <-hev y (by simp[hx])]
   split at h
   ·split at h
    ·rename_i hk;rw[Zd hk];simp only[I]at h;subst h;rfl
    ·simp at h
   ·simp at h
  ·rename_i x y z hx;rw[<-hev x (by simp[hx]), <-hev y (by simp[hx]), <-hev z (by simp[hx])]
   split at h
   ·split at h
    ·rename_i hk;rw[Zd hk];simp only[I]at h;subst h;rfl
    ·simp at h
   ·simp at h
  ·rename_i x y hx;rw[<-hev x (by simp[hx]), <-hev y (by simp[hx])]
   split at h
   ·split at h
    ·rename_i hk;rw[Zd hk];simp only[I]at h;subst h;rfl
    ·simp at h
   ·simp at h
  ·rename_i x t hx ht;rw[<-hev x (by simp[hx])]
   split at h
   ·split at h
    ·rename_i h3;have h4:List.lookup _ bx=Ze _:=h3;simp only[I]at h;subst h;simp only[h4];rfl
    ·simp at h
   ·simp at h
  ·simp at h
 ·rename_i ho;simp[ho,Vcq]at hl
 ·rename_i t x i ok ho;rw[<-he x (by simp[ho,Za]), <-he i (by simp[ho,Za])];exact loc_lookup h
 ·rename_i t x i y ho;rw[<-he x (by simp[ho,Za]), <-he i (by simp[ho,Za]), <-he y (by simp[ho,Za])];exact loc_update h
 ·rename_i src dst x ho;rw[<-he x (by simp[ho,Za])];unfold Vid at h ⊢
  split at h
  ·split at h
   ·simp only[I]at h;subst h;rfl
   ·simp at h
  ·split at h
   ·simp only[I]at h;subst h;rfl
   ·simp at h
  ·split at h
   ·simp only[I]at h;subst h;rfl
   ·simp at h
  ·simp at h
 ·rename_i t x y ho;rw[<-he x (by simp[ho,Za]), <-he y (by simp[ho,Za])];unfold aMake at h ⊢
  split at h
  ·split at h
   ·split at h
    ·rename_i hc;rw[Zd hc];simp only[I]at h;subst h;rfl
    ·simp at h
   ·simp at h
  ·simp at h
 ·simp at h
theorem Veb{S S':St}{fs cs:Zf PV}{l:Zf Zn}{keep:Zr}(h:∀ p∈l,S.ev p=S'.ev p):Vfd S fs l cs keep=Vfd S' fs l cs keep:=by
 unfold Vfd;congr 2;exact List.map_congr_left (λx hx=>by rw[h x hx])
theorem gnOk_local{l:Zf (Key×Zo)}:gnOk ⟨fr,bx,gn⟩ l=gnOk ⟨fr',bx,gn⟩ l:=by
 induction l with
 |nil=>rfl
 |cons p l ih=>obtain⟨k,g⟩:=p;simp only[gnOk,ih];rfl
def Vhr(P:Zq)(o:Zm)(ors:Zf Or)(S:St):Option (Zf Prop×SV×Zf (Zo×ABox)×Zf (Key×Zo)):=
 match o.op with
 | .pick c x y=>match S.ev c,ors with
  | .av (.val (.bool p)),[.b d]=>Ze ([p=d],(match d with|true=>S.ev x|false=>S.ev y),S.bx,S.gn)
  |_,_=>Zh
 | .binOp .add _ x y _=>match S.ev x,S.ev y,ors with
  | .av (.val (.int k i)),.av (.val (.int k' j)),[.n m]=>if k=k' then Ze ([k.wrap (i+j)=m],.av (.val (.int k m)),S.bx,S.gn)else Zh
  | .av (.val (.string a)),.av (.val (.string b)),[]=>Ze ([((a.size+b.size:Zo):Int)<=IntKind.i64.max],.av (.val (.string (a++b))),S.bx,S.gn)
  |_,_,_=>Zh
 | .binOp .sub _ x y _=>match S.ev x,S.ev y,ors with
  | .av (.val (.int k i)),.av (.val (.int k' j)),[.n m]=>if k=k' then Ze ([k.wrap (i-j)=m],.av (.val (.int k m)),S.bx,S.gn)else Zh
  |_,_,_=>Zh
 | .binOp .mul _ x y _=>match S.ev x,S.ev y,ors with
  | .av (.val (.int k i)),.av (.val (.int k' j)),[.n m]=>if k=k' then Ze ([k.wrap (i*j)=m],.av (.val (.int k m)),S.bx,S.gn)else Zh
  |_,_,_=>Zh
 | .indexAddr t x i=>match Vbe P t with
  |some e=>match Van P e,(S.ev x).toAV,S.ev i,ors with
   |some (sz,_,_),Ze (.sl l),.av (.val (.int _ i)),[.e y]=>if 0<sz/\y.cells.length=sz/\y.isTup=Zi then Ze ([0<=i/\l[i.toNat]? =Ze y],.av (.ro y.cells 0),S.bx,S.gn)else Zh
   |_,_,_,_=>Zh
  | none=>match S.ev x,S.ev i,tArr P t,ors with
   | .ptr b k,.av (.val (.int _ i)),Ze (n,e),[]=>match Van P e with
    |some (sz,_,_)=>Ze ([0<=i/\i<n],.ptr b (k+i.toNat*sz),S.bx,S.gn)
    |none=>Zh
   |_,_,_,_=>Zh
 | .call {callee:=.value x,args,argTypes:=_}=>match S.ev x,ors with
  | .fn f fs cs,[.c res bx' gn gn']=>match Vbb bx' with
   |[]=>Ze ([Va1 P f (Vfd S fs args.toList cs (!gn.isEmpty)) (S.bx.filter (λp=>(bx'.map (·.1)).contains p.1)) gn res bx' gn',gnOk S gn],res,(S.upd bx' gn').bx,(S.upd bx' gn').gn)
   |_::_=>Zh
  |_,_=>Zh
 | .lookup _ _ _ _=>match Vb8 P o S,ors with
  |some ⟨ok,.av v,_⟩,[.e y]=>Ze ([ok,v=y],.av y,S.bx,S.gn)
  |_,_=>Zh
 |_=>match(Vcq o.op&& !opVs o S)||Vd4 o.op,Vb8 P o S,ors with
  |true,Ze r,[]=>Ze ([r.ok],r.v,r.st.bx,r.st.gn)
  |_,_,_=>Zh
def runV(P:Zq)(o:Zm)(ors:Zf Or)(S:St):Option (Zf Prop×SV×Zf (Zo×ABox)×Zf (Key×Zo)):=
 match Vbg P o ors S with
 |some (c,[],v)=>Ze (c,v,S.bx,S.gn)
 |some _=>Zh
 |none=>Vhr P o ors S
theorem Vo8{o:Zm}{ors:Zf Or}(he:∀ x∈o.op.operands,(⟨fr,bx,gn⟩:St).ev x=(⟨fr',bx,gn⟩:St).ev x):Vbg P o ors ⟨fr,bx,gn⟩=Vbg P o ors ⟨fr',bx,gn⟩:=by
 unfold Vbg
 split
 ·rename_i t x y ors2 ho;rw[he x (by simp[ho,Za])]
 ·rename_i ors2 t x i ho;rw[he x (by simp[ho,Za]),he i (by simp[ho,Za])]
 ·rfl
theorem Vm6{o:Zm}(ha:Vd4 o.op=Zp)(hal:∀ id,o.dst=Ze id->fr'.any (SV.names id)=Zi)(h:Vb8 P o ⟨fr,bx,gn⟩=Ze r):Vb8 P o ⟨fr',bx,gn⟩=Ze (Vdx r fr'):=by
 unfold Vd4 at ha
 split at ha
 ·rename_i t ho;unfold Vb8 at h ⊢;simp only[ho]at h ⊢;unfold Vs8 at h ⊢
  split at h
  ·rename_i id _ _ z hd hi
   split at h
   ·rename_i hc;obtain⟨c1,c2,c3⟩:=hc;have:(⟨fr',bx,gn⟩:St).names id=false:=by
     simp only[St.names,Bool.or_eq_false_iff]at c3 ⊢;exact⟨hal id hd,c3.2⟩
    rw[Zd ⟨c1,c2,this⟩];simp only[I]at h;subst h;rfl
   ·simp at h
  ·simp at h
 ·simp at ha
theorem runV0_local{o:Zm}{ors:Zf Or}{cs:Zf Prop}{v:SV}{bx':Zf (Zo×ABox)}{gn':Zf (Key×Zo)}(he:∀ x∈o.op.operands,(⟨fr,bx,gn⟩:St).ev x=(⟨fr',bx,gn⟩:St).ev x)(hal:Vd4 o.op=Zp->∀ id,o.dst=Ze id->fr'.any (SV.names id)=Zi)(h:Vhr P o ors ⟨fr,bx,gn⟩=Ze (cs,v,bx',gn')):Vhr P o ors ⟨fr',bx,gn⟩=Ze (cs,v,bx',gn'):=by
 unfold Vhr at h ⊢
 split at h
 ·rename_i c x y ho;rw[<-he c (by simp[ho,Za]), <-he x (by simp[ho,Za]), <-he y (by simp[ho,Za])];exact h
 ·rename_i t x y t' ho;rw[<-he x (by simp[ho,Za]), <-he y (by simp[ho,Za])];exact h
 ·rename_i t x y t' ho;rw[<-he x (by simp[ho,Za]), <-he y (by simp[ho,Za])];exact h
 ·rename_i t x y t' ho;rw[<-he x (by simp[ho,Za]), <-he y (by simp[ho,Za])];exact h
 ·rename_i t x i ho;rw[<-he x (by simp[ho,Za]), <-he i (by simp[ho,Za])];exact h
 ·rename_i x args tys ho;rw[<-he x (by simp[ho,Za,Zg])]
  split at h
  ·rename_i f fs cs' res bx2 gn2 gn3 hx;rw[<-Veb (S:=⟨fr,bx,gn⟩) (S':=⟨fr',bx,gn⟩) (λp hp=>he p (by simp[ho,Za,Zg];exact .inr (by simpa using hp))), <-gnOk_local (fr:=fr)]
   split at h
   ·rename_i hvi;rw[Vh1 hvi]at h;simp only[hvi,Vh1 hvi];exact h
   ·simp at h
  ·simp at h
 ·rename_i t x i ok ho;have ho':Vcq o.op=true:=by rw[ho];rfl
  have hv:opVs o ⟨fr,bx,gn⟩=false:=by unfold opVs;rw[ho]
  split at h
  ·rename_i ok' v' st' y h2;have:=Vff ho' hv he h2;rw[this];exact h
  ·simp at h
 ·split at h
  ·rename_i r h1 h2;rw[<-opVs_local he,h1];rcases Zl _ _ ▸ h1 with h3|h3
   ·have h4:Vcq o.op=Zp/\opVs o ⟨fr,bx,gn⟩=false:=by simpa using h3
    have:=Vff h4.1 h4.2 he h2;rw[this];exact h
   ·have:=Vm6 h3 (hal h3) h2;rw[this];exact h
  ·simp at h
theorem Vn6{o:Zm}{ors:Zf Or}{cs:Zf Prop}{v:SV}{bx':Zf (Zo×ABox)}{gn':Zf (Key×Zo)}(he:∀ x∈o.op.operands,(⟨fr,bx,gn⟩:St).ev x=(⟨fr',bx,gn⟩:St).ev x)(hal:Vd4 o.op=Zp->∀ id,o.dst=Ze id->fr'.any (SV.names id)=Zi)(h:runV P o ors ⟨fr,bx,gn⟩=Ze (cs,v,bx',gn')):runV P o ors ⟨fr',bx,gn⟩=Ze (cs,v,bx',gn'):=by
 unfold runV at h ⊢;rw[Vo8 (fr':=fr') he]at h
 split at h
 ·exact h
 ·simp at h
 ·exact runV0_local he hal h
theorem lookup_st{t:Zj}{x i:SV}{ok:Zr}{S:St}(h:Vfh P t x i ok S=Ze r):r.st=S:=by
 unfold Vfh at h
 repeat' split at h
 all_goals first|(simp at h;done)|(simp only[I]at h;subst h;rfl)
theorem runV0_key{o:Zm}{ors:Zf Or}{S:St}{cs:Zf Prop}{v:SV}{bx':Zf (Zo×ABox)}{gn':Zf (Key×Zo)}(h:Vhr P o ors S=Ze (cs,v,bx',gn')):∃ S',Vhs P o ors S=Ze (cs,[],S')/\S'=(⟨S.fr,bx',gn'⟩:St).put o.dst v:=by
  unfold Vhr at h;unfold Vhs
  split at h
  ·rename_i c x y ho
   split at h
   ·rename_i hp;simp only[I,Zc]at h;obtain⟨rfl,rfl,rfl,rfl⟩:=h;simp only[ho,hp];exact⟨_,rfl,rfl⟩
   ·simp at h
  ·rename_i t x y t' ho
   split at h
   ·rename_i hx hy
    split at h
    ·rename_i hk;simp only[I,Zc]at h;obtain⟨rfl,rfl,rfl,rfl⟩:=h;simp only[ho,hx,hy,Zd hk];exact⟨_,rfl,rfl⟩
    ·simp at h
   ·rename_i hx hy;simp only[I,Zc]at h;obtain⟨rfl,rfl,rfl,rfl⟩:=h;simp only[ho,hx,hy];exact⟨_,rfl,rfl⟩
   ·simp at h
  ·rename_i t x y t' ho
   split at h
   ·rename_i hx hy
    split at h
    ·rename_i hk;simp only[I,Zc]at h;obtain⟨rfl,rfl,rfl,rfl⟩:=h;simp only[ho,hx,hy,Zd hk];exact⟨_,rfl,rfl⟩
    ·simp at h
   ·simp at h
  ·rename_i t x y t' ho
   split at h
   ·rename_i hx hy
    split at h
    ·rename_i hk;simp only[I,Zc]at h;obtain⟨rfl,rfl,rfl,rfl⟩:=h;simp only[ho,hx,hy,Zd hk];exact⟨_,rfl,rfl⟩
    ·simp at h
   ·simp at h
  ·rename_i t x i ho
   split at h
   ·rename_i e he
    split at h
    ·rename_i h2 h3 h4
     split at h
     ·rename_i hk;simp only[I,Zc]at h;obtain⟨rfl,rfl,rfl,rfl⟩:=h;simp only[ho,he,h2,h3,h4,Zd hk];exact⟨_,rfl,rfl⟩
     ·simp at h
    ·simp at h
   ·rename_i he
    split at h
    ·rename_i h2 h3 h4
     split at h
     ·rename_i h5;simp only[I,Zc]at h;obtain⟨rfl,rfl,rfl,rfl⟩:=h;simp only[ho,he,h2,h3,h4,h5];exact⟨_,rfl,rfl⟩
     ·simp at h
    ·simp at h
  ·rename_i x args tys ho
   split at h
   ·rename_i hx
    split at h
    ·rename_i hvi;simp only[I,Zc]at h;obtain⟨rfl,rfl,rfl,rfl⟩:=h;simp only[ho,hx,hvi,List.all_nil];exact⟨_,rfl,by rw[Vh1 hvi]⟩
    ·simp at h
   ·simp at h
  ·rename_i t x i ok ho
   split at h
   ·rename_i ok' v' st' y h2;simp only[I,Zc]at h;obtain⟨rfl,rfl,rfl,rfl⟩:=h;have hst:st'=S:=by
     have h3:=h2;unfold Vb8 at h3;simp only[ho]at h3;exact lookup_st h3
    subst hst;simp only[ho,h2];exact⟨_,rfl,rfl⟩
   ·simp at h
  ·rename_i n0 n1 n2 n3 n4 n5 n6
   split at h
   ·rename_i r h1 h2;simp only[I,Zc]at h;obtain⟨rfl,rfl,rfl,rfl⟩:=h;have hfr:r.st.fr=S.fr:=by
     obtain⟨fr,bx,gn⟩:=S;rcases Zl _ _ ▸ h1 with h3|h3
     ·have h4:Vcq o.op=Zp/\opVs o ⟨fr,bx,gn⟩=false:=by simpa using h3
      have:=Vff (fr':=fr) h4.1 h4.2 (λ_ _=>rfl) h2;rw[h2]at this;simp only[I]at this;rw[this];rfl
     ·have hn:∀ id,o.dst=Ze id->fr.any (SV.names id)=false:=by
       intro id hid;unfold Vd4 at h3
       split at h3
       ·rename_i t ho;have h2:=h2;unfold Vb8 at h2;simp only[ho]at h2;unfold Vs8 at h2
        split at h2
        ·rename_i id' _ _ z hd hi
         split at h2
         ·rename_i hc;rw[hid]at hd;simp only[I]at hd;subst hd;have:=hc.2.2;simp only[St.names,Bool.or_eq_false_iff]at this;exact this.1
         ·simp at h2
        ·simp at h2
       ·simp at h3
      have:=Vm6 (fr':=fr) h3 hn h2;rw[h2]at this;simp only[I]at this;rw[this];rfl
    refine⟨r.st.put o.dst r.v,?_,?_⟩
    ·split
     ·rename_i ho;exact(n0 _ _ _ ho).elim
     ·rename_i ho;exact(n1 _ _ _ _ ho).elim
     ·rename_i ho;exact(n2 _ _ _ _ ho).elim
     ·rename_i ho;exact(n3 _ _ _ _ ho).elim
     ·rename_i ho;exact(n4 _ _ _ ho).elim
     ·rename_i ho;exact(n5 _ _ _ ho).elim
     ·rename_i ho;exact(n6 _ _ _ _ ho).elim
     ·rw[h2]
    ·obtain⟨ok,v,⟨f,b,g⟩⟩:=r;simp only at hfr;subst hfr;rfl
   ·simp at h
theorem Vei{o:Zm}{ors:Zf Or}{S:St}{cs:Zf Prop}{v:SV}{bx':Zf (Zo×ABox)}{gn':Zf (Key×Zo)}(h:runV P o ors S=Ze (cs,v,bx',gn'))(hc:All cs){G:Gh}{w:World}{a:Act}(hr:Rel G w S a){Q:Exit->Act->World->Prop}{next:Act->World->Prop}
  (hn:∀ G' a' w',Step G w G' w'->Rel G' w' ((⟨S.fr,bx',gn'⟩:St).put o.dst v) a'->(∀i,Fx i->G'.ow (i,0)=G.ow (i,0))->next a' w'):o.wp P a w next Q:=by
 have key:∃ S',Vgp P o ors S=Ze (cs,[],S')/\S'=(⟨S.fr,bx',gn'⟩:St).put o.dst v:=by
  unfold runV at h;unfold Vgp
  split at h
  ·rename_i c v' hv;simp only[I,Zc]at h;obtain⟨rfl,rfl,rfl,rfl⟩:=h;rw[hv];exact⟨_,rfl,rfl⟩
  ·simp at h
  ·rename_i hv;rw[hv];exact runV0_key h
 obtain⟨S',h1,rfl⟩:=key;exact Vc5 h1 hc hr hn
end
end Go.Eng
