/- Texts joined by a program (merge.py). -/
import Derived.Test.YthbpjmogdonlkaaGreatDoorMef
import Derived.Lib.SplitLaws
import Derived.KernelRfl
import Derived.Test.YthbpjmogdonlkaaGreatDoorMec
import Derived.ProofKit
import Derived.SliceStrings
import Derived.Lib.LaidU8
import Derived.Shelf.Vars
import Derived.MakeChecks
import Derived.JoinedOf
import Derived.Test.YthbpjmogdonlkaaGreatDoorRows
set_option linter.unusedSimpArgs false
set_option linter.unusedVariables false
set_option maxRecDepth 100000
set_option maxHeartbeats 4000000
set_option linter.defProp false
open Int renaming toNat->O,toNat_natCast->Zr,le_refl->Ye
open _root_ renaming ByteArray->A,of_decide_eq_true->Za,of_decide_eq_false->Zb,Int->I,Nat->E,cond->K,List->L,ne_of_beq_false->Zk,cond_false->Zl,beq_false_of_ne->Zn,cond_true->Zq,Bool->Zv,trivial->Zy,absurd->Zz,decide_eq_true->Z2,true_and->Z6,beq_self_eq_true->Yl,decide_eq_false->Yq,if_pos->Yu,if_neg->Yz,bne_iff_ne->Y7,UInt8->Xa
open Bool renaming false->R,true->D,cond_eq_ite->Z4
open List renaming getD_eq_getElem?_getD->Zc,getElem?_eq_getElem->Ze,mem_singleton->Zm,length->Zt,getElem_of_mem->Zu,length_singleton->Zw,length_map->Z1,map_congr_left->Z5,mem_append->Z7,length_append->Z8,getElem?_set_self->Z9,getElem?_map->Ya,mem_cons->Yc,dropLast_subset->Yd,map_append->Yg,getElem?_append_left->Yi,append_assoc->Yj,mem_map->Yo,length_set->Yr,take_append_drop->Ys,mem_append_right->Yt,mem_append_left->Yw,map_id->Yx,length_pos_iff->Yy,not_mem_nil->Y4,length_take->Y5,nodup_nil->Y8
open ByteArray renaming extract->Zd,size_extract->Zh,size->Zp,data_extract->Yp,ext->Xk
open Decidable renaming decide->Zf
open Go.Proofs.YthbpjmogdonlkaaGreatDoor renaming DInline->Zg,DPoint->Yb,DAttr->Ym,DPiece->Y6,DPair->Xb,DCited->Xe,DElem->Xg,BYi->Xh,AllI->Xj
open Go.Proofs.Tryz renaming prog->Zi,func79->Zo,func8->Yn
open Go.Eng renaming byt->Y,OUT->Xf,BEG->Xi
open Nat renaming lt_succ_self->Zj,le_refl->Zs,not_lt_zero->Zx,min_eq_left->Z0,add_sub_cancel->Yh,zero_le->Yv,zero_add->Y1,min_self->Y2,zero_lt_succ->Y3,lt_irrefl->Y9,lt_or_ge->Xc,le_trans->Xd
open Go.Proofs.YthbpjmogdonlkaaGreatDoor.DPoint renaming mk->Z3
open Option.some renaming inj->Yf,injEq->Y0
open SizeOf renaming sizeOf->Yk
namespace Go.Proofs.YthbpjmogdonlkaaGreatDoor
section
open Go Go.Eng
def PtQ(b:E):Prop:=b≠91/\b≠93/\b≠123/\b≠96/\b≠36/\b≠10
def Pt(x:A):Prop:=CT x/\(∀b∈x.data.toList,PtQ b.toNat)/\∀ b∈x.data.toList,b.toNat≠59
def byt_mem{t:A}{k:E}(h:k<t.size):∃ b∈t.data.toList,Y t k=b.toNat:=by
 have h2:k<t.data.toList.length:=by rw[<-sz_l];exact h
 refine⟨t.data.toList[k],List.getElem_mem _,?_⟩;rw[Vib,Zc,Ze h2];rfl
def Vj7{t:A}{b:Xa}(h:b∈t.data.toList):∃ k,k<t.size/\b.toNat=Y t k:=by
 obtain⟨k,hk,rfl⟩:=Zu h;exact⟨k,by rw[sz_l];exact hk,by rw[Vib,Zc,Ze hk];rfl⟩
def ex_mem{x:A}{i j:E}{b:Xa}(h:b∈(Zd x i j).data.toList):b∈x.data.toList:=by
 rw[Yp,Array.toList_extract,List.extract_eq_take_drop]at h;exact List.mem_of_mem_drop (List.mem_of_mem_take h)
def sp_as:∀ k,k<(⟨#[32]⟩:A).size->Y ⟨#[32]⟩ k<128:=λk hk=>by
 have hk:k<1:=hk;obtain rfl:k=0:=kv
 decide
def ct_ok{u:A}(hu:CT u)(hq:∀ b∈u.data.toList,PtQ b.toNat/\b.toNat≠59/\b.toNat≠64):CtOk (trmB u ⟨#[32]⟩):=by
 obtain⟨h1,h2⟩:=trm_ct (p:=⟨#[32]⟩) sp_as hu;have hb:∀ k,k<(trmB u ⟨#[32]⟩).size->PtQ (Y (trmB u ⟨#[32]⟩) k)/\Y (trmB u ⟨#[32]⟩) k≠59/\Y (trmB u ⟨#[32]⟩) k≠64:=λk hk=>by
  obtain⟨b,b1,b2⟩:=byt_mem hk;rw[b2];exact hq b (h2 b b1)
 refine⟨⟨h1,λk hk=>(hb k hk).1.2.2.2.2.2⟩,trm_tr u,ctn_no λk hk j hj=>?_⟩;obtain⟨⟨a1,a2,a3,a4,a5,_⟩,a6,a7⟩:=hb k hk;have hj:j<7:=hj;have b0:Y SP7 0=91:=rfl;have b1:Y SP7 1=93:=rfl;have b2:Y SP7 2=59:=rfl;have b3:Y SP7 3=64:=rfl;have b4:Y SP7 4=123:=rfl;have b5:Y SP7 5=36:=rfl;have b6:Y SP7 6=96:=rfl;rcases(by omega:j=0\/j=1\/j=2\/j=3\/j=4\/j=5\/j=6)with rfl|rfl|rfl|rfl|rfl|rfl|rfl <;>omega
def CT.bn{x:A}(h:CT x):Bn x 0:=⟨Ye _,kv,h⟩
def CitQ(r:Xe×Zv):Prop:=r.2=D->CiOk r.1
def citF_ok{x:A}(h:Pt x):CitQ (citF x):=by
 obtain⟨h1,h2,h3⟩:=h;unfold citF;have n0:∀ c:Xe,CitQ (c,R):=λc q=>by cases q
 refine Va5 CitQ (λ_=>n0 _) (λq=>?_);obtain⟨q1,q2⟩:=Va8 q;have q1:=Zb q1;have q2:=Zb q2;rcases Vrb x 64 gj with⟨e,_⟩|⟨n,e,n1,n2,n3⟩
 ·have e:idxB x 64= -1:=e;omega
 have e:idxB x 64=(n:I):=e;simp only[e]at q2 ⊢;have no2:∀ k,n<k->k<x.size->Y x k≠64:=λk k1 k2=>by
  rcases Vrb (Zd x ((n:I)+1).toNat x.size) 64 gj with⟨_,a⟩|⟨m,a,_⟩
  ·have:=a (k-(n+1)) (by rw[Zh];omega);rw[Vd6 x kv (Zs _),show((n:I)+1).toNat+(k-(n+1))=k by omega]at this;exact this
  ·have a:idxB (Zd x ((n:I)+1).toNat x.size) 64=(m:I):=a;omega
 have b0:=h1.bn;have b1:Bn x ((n:I)+1):=b0.hop (v:=(n:I)) kv kv (by rw[Zr];omega);obtain⟨c1,c2⟩:=nmeS_bn b1;have fin:∀(p:I)(bare:Zv),0<=p->p<=n->Y x p.toNat<128->CitQ (K (!namA (Zd x ((n:I)+1).toNat (nmeS x ((n:I)+1)).toNat)) (DCited.mk ⟨#[]⟩ ⟨#[]⟩ ⟨#[]⟩ R,R) (DCited.mk (Zd x ((n:I)+1).toNat (nmeS x ((n:I)+1)).toNat) (trmB (Zd x 0 p.toNat) ⟨#[32]⟩) (trmB (Zd x (nmeS x ((n:I)+1)).toNat x.size) ⟨#[32]⟩) bare,D)):=λp bare p1 p2 p3=>by
  refine Va5 CitQ (λ_=>n0 _) (λq _=>⟨?_,ct_ok ?_ (λb hb=>?_),ct_ok ?_ (λb hb=>?_)⟩)
  ·cases hn:namA (Zd x ((n:I)+1).toNat (nmeS x ((n:I)+1)).toNat)with
   |true=>rfl
   |false=>rw[hn]at q;cases q
  ·exact CT.ex (b0.to p1 kv (λ_=>.inl p3)).1 kv
  ·have hm:=ex_mem hb;obtain⟨k,k1,k2⟩:=Vj7 hb;rw[Zh,Z0 kv]at k1;rw[Vd6 x k1 kv]at k2;have:=n3 (0+k) kv;exact⟨h2 b hm,h3 b hm,kv⟩
  ·have:=c2.2.2;exact CT.ex this (Zs _)
  ·have hm:=ex_mem hb;obtain⟨k,k1,k2⟩:=Vj7 hb;rw[Zh,Y2]at k1;rw[Vd6 x k1 (Zs _)]at k2;have:=no2 ((nmeS x ((n:I)+1)).toNat+k) kv kv;exact⟨h2 b hm,h3 b hm,kv⟩
 refine Va5 CitQ (λq=>Va5 CitQ (λ_=>n0 _) (λ_=>?_)) (λ_=>Va5 CitQ (λ_=>n0 _) (λ_=>?_))
 ·obtain⟨q3,q4⟩:=Va9 q;have q3:=Za q3;have q4:=eq_of_beq q4;exact fin _ _ kv kv kv
 ·exact fin _ _ kv kv (by rw[Zr];omega)
def prtL_ok:∀(n:E)(r:A),r.size<=n->CT r->(∀b∈r.data.toList,PtQ b.toNat)->prtL n r≠[]/\∀ x∈prtL n r,Pt x
 |0,r,hz,h1,h2=>⟨by simp[prtL],λx hx=>by
  obtain rfl:=Zm.1 hx
  exact⟨h1,h2,λb hb=>by(obtain⟨k,k1,_⟩:=Vj7 hb;omega)⟩⟩
 | n+1,r,hz,h1,h2=>by
  have e:semI r=idxB r 59:=by unfold semI idxB;rfl
  rw[prtL,e];rcases Vrb r 59 gj with⟨a,a1⟩|⟨m,a,m1,m2,m3⟩
  ·have a:idxB r 59= -1:=a;rw[a,Yu gj];refine⟨ku,λx hx=>?_⟩;obtain rfl:=Zm.1 hx
   exact⟨h1,h2,λb hb=>by
    obtain⟨k,k1,k2⟩:=Vj7 hb
    rw[k2];exact a1 k k1⟩
  ·have a:idxB r 59=(m:I):=a;rw[a,Yz kv];refine⟨ku,λx hx=>?_⟩;have b0:=h1.bn;have hc:=b0.to (v:=(m:I)) kv kv (λ_=>.inl (by rw[Zr];omega));have hn:=(hc.2.nx kv (by rw[Zr];omega)).1;rcases Yc.1 hx with rfl|hx
   ·refine⟨CT.ex hc.1 kv,λb hb=>h2 b (ex_mem hb),λb hb=>?_⟩;obtain⟨k,k1,k2⟩:=Vj7 hb;rw[Zh,Z0 kv]at k1;rw[Vd6 r k1 kv]at k2;have:=m3 (0+k) kv;omega
   ·exact(prtL_ok n _ (by rw[Zh];omega) (CT.ex hn.2.2 (Zs _)) (λb hb=>h2 b (ex_mem hb))).2 x hx
section
variable {s:A} {i:I}
def cteG_lf(h:Bn s i)(h1:i<s.size)(hc:Y s i.toNat<128):Lf s i (cteG s i):=by
 have h0:=h.1;have b1:=(h.nx h1 hc).1;unfold cteG;have hq:=idxA_q (Zd s (i+1).toNat s.size) ⟨#[91,93]⟩;generalize idxA (Zd s (i+1).toNat s.size) ⟨#[91,93]⟩=m at hq;refine Va5 (Lf s i) (λ_=>Lf0 _) (λq=>Va5 (Lf s i) (λ_=>Lf0 _) (λq3=>?_));obtain⟨q1,q2⟩:=Va8 q;have q1:=Zb q1;have q2:=Va7 q2;rcases hq with⟨e,_⟩|⟨n,rfl,a,_,_⟩
 ·omega
 rw[Zh,Y2]at a;obtain⟨u,hu⟩:∃ u,u=Zd s (i+1).toNat (i+1+(n:I)).toNat:=⟨_,rfl⟩
 have hct:CT u:=by rw[hu];exact CT.ex (b1.to kv kv (λ_=>.inl kv)).1 kv
 rw[<-hu]at q3 ⊢;have hts:(ctsG u).2=true:=by
  cases hx:(ctsG u).2 with
  |true=>rfl
  |false=>rw[hx]at q3;cases q3
 unfold ctsG at hts ⊢;cases hcn:ctnG u CTN with
 |true=>rw[hcn]at hts;cases hts
 | false=>
  rw[hcn,Zl]at hts;rw[Zl];cases hall:(prt u).all (λx=>(citF x).2)with
  |false=>rw[hall]at hts;cases hts
  | true=>
   rw[Zq];have hno:=ctn_of hcn
   have hp:=prtL_ok u.size u (Zs _) hct (λb hb=>by
    obtain⟨k,k1,k2⟩:=Vj7 hb;have g:=λj (hj:j<6)=>hno k k1 j hj
    have g0:=g 0 gj;have g1:=g 1 gj;have g2:=g 2 gj;have g3:=g 3 gj;have g4:=g 4 gj;have g5:=g 5 gj;rw[k2]
    exact⟨g0,g1,g2,g3,g4,g5⟩)
   refine .mk (.ci _ (by unfold cuts;rw[ne_eq,List.map_eq_nil_iff];exact hp.1) (λc hc=>?_)) rfl ?_ (by show(13:I)≠4;decide)
   ·obtain⟨x,hx,rfl⟩:=Yo.1 hc;exact citF_ok (hp.2 x hx) (List.all_eq_true.1 hall x hx)
   ·have:=b1.hop (v:=i+1+n) kv kv kv;rwa[show i+1+(n:I)+1=i+n+2 by omega]at this
end
def lfS(b:Xa):UInt8:=if b=10 then 32 else b
def map_lfS{l:L Xa}(h:∀ b∈l,b≠10):l.map lfS=l:=by
 conv=>rhs;rw[<-Yx l]
 exact Z5 (λb hb=>by unfold lfS;rw[Yz (h b hb)];rfl)
def rplK_map:∀(k:E)(l:L Xa),l.count 10<=k->Lib.replaceK [10] [32] k l=l.map lfS
 |0,l,h=>by
  rw[Lib.replaceK,map_lfS];intro b hb e;subst e;have:=List.count_pos_iff.2 hb;omega
 | k+1,l,h=>by
  rcases ixP (λl=>Lib.index l [10]) (λb=>(10:Xa)==b) rfl (λb l=>by simp[Lib.index,List.isPrefixOf]) l with⟨e,q⟩|⟨n,e,n1,n2,n3⟩
  ·have e:Lib.index l [10]= -1:=e;rw[Lib.replaceK,e,Yu gj,map_lfS];intro b hb e;subst e;obtain⟨k,hk,he⟩:=Zu hb;have:=q k hk;rw[Zc,Ze hk,he]at this;cases this
  ·have e:Lib.index l [10]=(n:I):=e;have hx:l.getD n 0=10:=(eq_of_beq n2).symm;have hl:l=l.take n++10::l.drop (n+1):=by
    conv=>lhs;rw[<-Ys n l]
    rw[List.drop_eq_getElem_cons n1];congr 2;rw[<-hx,Zc,Ze n1];rfl
   have hcnt:(l.drop (n+1)).count 10<=k:=by
    rw[hl,List.count_append,List.count_cons_self]at h;omega
   rw[Lib.replaceK_hit _ _ _ _ n e,Zw,rplK_map k _ hcnt]
   conv=>rhs;rw[hl]
   rw[Yg,List.map_cons,map_lfS (l:=l.take n),Yj]
   ·rfl
   ·intro b hb e;subst e;obtain⟨j,hj,he⟩:=Zu hb;rw[Y5]at hj;have:=n3 j kv;rw[List.getElem_take]at he;rw[Zc,Ze kv,he]at this;cases this
def rplM_map(s:A):rplM s=mkB (s.data.toList.map lfS):=by
 have:Lib.replaceAll s.data.toList [10] [32]=s.data.toList.map lfS:=by
  unfold Lib.replaceAll Lib.replace;rw[Yz gj];refine rplK_map _ _ ?_;unfold Lib.replaceNum;rw[Yu (.inl gj),Lib.count_one];exact Zs _
 unfold rplM mkB;rw[this]
def rplM_cl{s:A}(h:CT s):CL (rplM s)/\(rplM s).size=s.size:=by
 have hz:(rplM s).size=s.size:=by rw[rplM_map,Vr1,Z1, <-sz_l]
 have hb:∀ k,k<s.size->Y (rplM s) k=if Y s k=10 then 32 else Y s k:=λk hk=>by
  have hk2:k<s.data.toList.length:=by rw[<-sz_l];exact hk
  rw[rplM_map,Via,Vib,Zc,Zc,Ya,Ze hk2]
  show(lfS s.data.toList[k]).toNat=if s.data.toList[k].toNat=10 then 32 else s.data.toList[k].toNat
  unfold lfS
  by_cases he:s.data.toList[k]=10
  ·rw[Yu he,he];rfl
  ·rw[Yz he,Yz (show ¬s.data.toList[k].toNat=10 from λe=>he (UInt8.toNat_inj.1 e))]
 refine⟨⟨?_,λk hk=>by rw[hb k kv];split <;>omega⟩,hz⟩;have key:∀ i j,VP (Y s) i j->j<=s.size->VP (Y (rplM s)) i j:=λi j hv=>by
  induction hv with
  |nil=>exact λ_=>.nil _
  | cons hs ht ih=>
   rename_i i n j;intro hj;have hl:=ht.le;refine .cons ?_ (ih hj)
   by_cases h1:n=1
   ·subst h1;have:=hb i kv;unfold Sq at hs;refine .inl ⟨rfl,?_⟩;rw[this];split <;>omega
   ·have hd:∀ k,k<n->Y (rplM s) (i+k)=Y s (i+k):=λk hk=>by
     rw[hb _ kv,Yz]
     by_cases hk0:k=0
     ·subst hk0;unfold Sq at hs;simp only[Nat.add_zero];omega
     ·have:=(hs.tl (k:=i+k) kv kv).1;omega
    exact hs.cg hd
 unfold CT;rw[hz];exact key _ _ h (Zs _)
def cod_cl{t:A}(h:CT t)(h0:0<t.size):0<(codC t).size/\CL (codC t):=by
 obtain⟨r1,r2⟩:=rplM_cl h;unfold codC;refine Va5 (λr:A=>0<r.size/\CL r) (λq=>?_) (λ_=>⟨kv,r1⟩);generalize rplM t=u at r1 r2 q;unfold codK at q;obtain⟨q,q3⟩:=Va9 q;obtain⟨q1,q2⟩:=Va9 q;have q3:eqs (trmB u SP1) e0=false:=by
  cases hx:eqs (trmB u SP1) e0 with
  |false=>rfl
  |true=>rw[hx]at q3;cases q3
 have h2:=trm_two q3 q1 q2;unfold hpxB Lib.hasPrefix at q1;obtain⟨l,hl⟩:=List.isPrefixOf_iff_prefix.1 q1;unfold hsxB Lib.hasSuffix at q2;obtain⟨l2,hl2⟩:=List.isSuffixOf_iff_suffix.1 q2;have e1:SP1.data.toList=[32]:=rfl;rw[e1]at hl hl2;have b0:Y u 0=32:=by rw[Vib, <-hl];rfl
 have hlen:l2.length+1=u.size:=by rw[sz_l, <-hl2];simp
 have bz:Y u (u.size-1)=32:=by
  rw[Vib, <-hl2, <-hlen,Yh,Zc,List.getElem?_append_right (Zs _)];simp
 have h3:u.size≠2:=λe=>by
  have hu:u.data.toList=[32,32]:=by
   obtain⟨x,rfl⟩:∃ x,l2=[x]:=List.length_eq_one_iff.1 kv;rw[<-hl2]at hl ⊢;have:=(List.cons.inj hl).1;rw[<-this];rfl
  have:trmB u SP1=e0:=by
   unfold trmB;rw[hu];rfl
  rw[this]at q3;cases q3
 have b1:=(r1.1.bn.nx kv (by rw[Int.toNat_zero,b0];decide)).1;have e2:(((Zp u:E):I)-1).toNat=u.size-1:=kv;refine⟨by rw[Zh];omega,?_⟩;have:=b1.cl (v:=((Zp u:E):I)-1) kv kv (λ_=>by rw[e2,bz];decide) (λk k1 k2=>r1.2 k kv);exact this
def TkR(s:A)(d:Zv)(ks:L I)(ls:L (L I)):Prop:=ks.length=ls.length/\∀ j n,ks[j]? =some n->∀ y∈ls.getD j [],0<=y/\y<s.size/\Y s y.toNat=96/\runE s y=y+n/\(d=D->runE s y<s.size/\Y s (runE s y).toNat=36)
def TkR.add{s:A}{d:Zv}{ks:L I}{ls:L (L I)}(h:TkR s d ks ls)(n i:I)(hi:0<=i/\i<s.size/\Y s i.toNat=96/\runE s i=i+n/\(d=D->runE s i<s.size/\Y s (runE s i).toNat=36)):TkR s d (Vgq ks n) (Vbp ks ls n i):=by
 refine⟨(Vgk h.1 n i).symm,?_⟩;obtain⟨hl,hr⟩:=h;unfold Vgq Vbp;cases hp:Vbq ks n with
 | none=>
  intro j m hj y hy
  by_cases hjl:j<ks.length
  ·rw[Yi hjl]at hj;rw[Zc,Yi kv, <-Zc]at hy;exact hr j m hj y hy
  ·have hje:j=ks.length:=by
    rcases Xc j (ks.length+1)with q|q
    ·omega
    ·rw[List.getElem?_eq_none (by simp;omega)]at hj;cases hj
   subst hje;have:n=m:=by simpa using hj
   subst this;rw[hl]at hy;have hy:y∈[i]:=by simpa[Zc]using hy
   rw[Zm.1 hy];exact hi
 | some j0=>
  intro j m hj y hy;have hg:=Vdn hp;have hlt:=Vf8 hp
  by_cases hjj:j=j0
  ·subst hjj;have hnm:n=m:=by rw[hg]at hj;exact Yf hj
   have hy:y∈ls.getD j []++[i]:=by
    have:(ls.set j (ls.getD j []++[i])).getD j []=ls.getD j []++[i]:=by
     rw[Zc,Z9 kv];rfl
    rw[<-this];exact hy
   rcases Z7.1 hy with q|q
   ·exact hr j m hj y q
   ·rw[Zm.1 q, <-hnm];exact hi
  ·have hy:y∈ls.getD j []:=by
    have:(ls.set j0 (ls.getD j0 []++[i])).getD j []=ls.getD j []:=by
     rw[Zc,List.getElem?_set_ne (λe=>hjj e.symm), <-Zc]
    rw[<-this];exact hy
   exact hr j m hj y hy
def rnsL_r(s:A):∀(n:E)(i:I)(T:Tks),0<=i->TkR s R T.ka T.la/\TkR s D T.kd T.ld->TkR s R (rnsL s n i T).ka (rnsL s n i T).la/\TkR s D (rnsL s n i T).kd (rnsL s n i T).ld
 |0,_,_,_,h=>h
 | n+1,i,T,h0,h=>by
  rw[rnsL];refine Va5 (λT:Tks=>TkR s R T.ka T.la/\TkR s D T.kd T.ld) (λq=>?_) (λ_=>h);have q:=Za q;refine Va5 (λT:Tks=>TkR s R T.ka T.la/\TkR s D T.kd T.ld) (λ_=>rnsL_r s n _ T kv h) (λq2=>?_);have q2:=Va7 q2;have h1:=Vf2 s i h0 q;refine rnsL_r s n _ _ kv ?_;cases ht:tkB s (runE s i)with
  |false=>exact⟨h.1.add _ _ ⟨h0,q,kv,kv,λe=>by cases e⟩,h.2⟩
  |true=>
   unfold tkB at ht;obtain⟨t1,t2⟩:=Va9 ht;have t1:=Za t1;have t2:=eq_of_beq t2;exact⟨h.1.add _ _ ⟨h0,q,kv,kv,λe=>by cases e⟩,h.2.add _ _ ⟨h0,q,kv,kv,λ_=>⟨t1,kv⟩⟩⟩
def rnsM_r(s:A):TkR s R (rnsM s).ka (rnsM s).la/\TkR s D (rnsM s).kd (rnsM s).ld:=
 rnsL_r s _ 0 _ (Ye _) ⟨⟨rfl,λj n hj=>by simp at hj⟩,⟨rfl,λj n hj=>by simp at hj⟩⟩
def tkG_r{s:A}{d:Zv}{ks:L I}{ls:L (L I)}(h:TkR s d ks ls){n x:I}(hx:0<=latI (tkG ks ls n) x):x<=latI (tkG ks ls n) x/\latI (tkG ks ls n) x<s.size/\Y s (latI (tkG ks ls n) x).toNat=96/\runE s (latI (tkG ks ls n) x)=latI (tkG ks ls n) x+n/\(d=D->runE s (latI (tkG ks ls n) x)<s.size/\Y s (runE s (latI (tkG ks ls n) x)).toNat=36):=by
 rcases latI_bd (tkG ks ls n) x with e|⟨a,b⟩
 ·omega
 ·have hm:latI (tkG ks ls n) x∈tkG ks ls n:=b;generalize latI (tkG ks ls n) x=y at a hm;unfold tkG at hm;cases hp:Vbq ks n with
  |none=>rw[hp]at hm;cases hm
  |some j=>
   rw[hp]at hm;exact⟨a,(h.2 j n (Vdn hp) y hm).2⟩
section
variable {s:A} {i:I}
def codP_lf{ka:L I}{la:L (L I)}(hT:TkR s R ka la)(h:Bn s i)(h1:i<s.size)(hc:Y s i.toNat=96):Lf s i (codP s ka la i):=by
 have h0:=h.1;obtain⟨r1,r2,r3,r4⟩:=Viw h kv;unfold codP;refine Va5 (Lf s i) (λ_=>Lf0 _) (λq=>?_);have q:=Zb q;unfold codJ at q ⊢;obtain⟨t1,t2,t3,t4,_⟩:=tkG_r hT (n:=runE s i-i) (x:=runE s i) kv;generalize latI (tkG ka la (runE s i-i)) (runE s i)=J at q t1 t2 t3 t4;have hne:runE s i≠J:=λe=>by
  have:=r4 kv;rw[e]at this;omega
 obtain⟨v1,v2⟩:=r2.to t1 kv (λ_=>.inl kv);obtain⟨j1,j2,_,j4⟩:=Viw v2 kv;have hcl:=cod_cl (CT.ex v1 kv) (ex_sz (by have:=r2.1;omega) kv kv);rw[show J+runE s i-i=runE s J by omega];exact .inr ⟨.tx 4 _ (.inr (.inl rfl)) hcl.1 hcl.2,rfl,j2,λ_=>⟨hc,λe=>by have:=j4 e;show Y s (runE s J).toNat≠96;omega⟩⟩
def mtcP_lf{kd:L I}{ld:L (L I)}(hT:TkR s D kd ld)(h:Bn s i)(h1:i<s.size)(hc:Y s i.toNat<128):Lf s i (mtcP s kd ld i):=by
 have h0:=h.1;unfold mtcP;refine Va5 (Lf s i) (λ_=>Lf0 _) (λq=>Va5 (Lf s i) (λ_=>Lf0 _) (λq3=>?_));obtain⟨q1,q2⟩:=Va8 q;have q1:=Zb q1;have q2:=Va7 q2;unfold Xh at q2;have b1:=(h.nx h1 hc).1;obtain⟨r1,r2,r3,r4⟩:=Viw b1 kv;have q3:=Zb q3;unfold mtcJ mtcN at q3 ⊢;obtain⟨t1,t2,t3,t4,t5⟩:=tkG_r hT (n:=runE s (i+1)-i-1) (x:=runE s (i+1)) kv;generalize latI (tkG kd ld (runE s (i+1)-i-1)) (runE s (i+1))=J at q3 t1 t2 t3 t4 t5;obtain⟨t5,t6⟩:=t5 rfl;have hne:runE s (i+1)≠J:=λe=>by
  have:=r4 kv;rw[e]at this;omega
 obtain⟨v1,v2⟩:=r2.to t1 kv (λ_=>.inl kv);obtain⟨j1,j2,_,_⟩:=Viw v2 kv;have hcl:=cod_cl (CT.ex v1 kv) (ex_sz (by have:=r2.1;omega) kv kv);rw[show J+(runE s (i+1)-i-1)+1=runE s J+1 by omega];exact .mk (.tx 5 _ (.inr (.inr rfl)) hcl.1 hcl.2) rfl (j2.nx t5 kv).1 (by show(5:I)≠4;decide)
end
end
section
open Go Go.Eng
structure PcW (s:A) (i:I) (p:Y6):Prop where
 bn:Bn s p.fTo
 kd:p.fKind=0\/p.fKind=1\/p.fKind=2\/p.fKind=3
 run:p.fKind=1->isrP p=D
 wi:p.fKind=0->WI p.fInline/\p.fInline.fKids=[]
 co:p.fInline.fKind=4->Y s i.toNat=96/\(p.fTo<s.size->Y s p.fTo.toNat≠96)
section
variable {s:A} {i:I}
def Vmw{x:Zg×I}{r:Y6×Zv}(hx:Lf s i x)(hr:x.2<=0->PcW s i r.1):PcW s i (fdR x r).1:=by
 unfold fdR;refine Va5 (λq:Y6×Zv=>PcW s i q.1) (λq=>?_) (λq=>hr (by have:=Zb q;omega));have q:=Za q;rcases hx with e|⟨a,b,c,d⟩
 ·omega
 ·exact⟨c,.inl rfl,λe=>(by cases e),λ_=>⟨a,b⟩,d⟩
def litP_w{e:I}(h0:0<=i)(h1:i<e)(hb:Bn s e)(hc:CL (Zd s i.toNat e.toNat)):PcW s i (litP s i e):=
 ⟨hb,.inl rfl,λe=>(by cases e),λ_=>⟨.tx 1 _ (.inl rfl) (ex_sz h0 h1 hb.2.1) hc,rfl⟩,λq=>Zz (show(1:I)=4 from q) gj⟩
def nxR_w(h:Bn s i)(h1:i<s.size)(hc:Y s i.toNat≠10):PcW s i (nxR s i).1:=by
 obtain⟨h0,hz,hv⟩:=h;obtain⟨n,hs,hl,v1,v2⟩:=hv.sp kv;have hp:=hs.pos;have e:=(nxt_sq hs hl).1;rw[show((i.toNat:E):I)=i by omega]at e;have e2:(i+(n:I)).toNat=i.toNat+n:=kv;unfold nxR;rw[e];refine litP_w h0 kv ⟨kv,kv,by rw[e2];exact v2⟩ ?_;rw[e2];refine CL.ex v1 hl (λk k1 k2=>?_)
 by_cases hk:k=i.toNat
 ·rw[hk];exact hc
 ·have:=(hs.tl (k:=k) kv kv).1;omega
def pcR_w{k e:I}{g:Zv}(hk:k=2\/k=3)(hb:Bn s e):PcW s i (pcR k g e).1:=
 ⟨hb,.inr (.inr (by rcases hk with e|e;exact .inl e;exact .inr e)),λq=>(by have q:k=1:=q;omega),λq=>(by have q:k=0:=q;omega),λq=>Zz (show(0:I)=4 from q) gj⟩
def spR_w(h:Bn s i)(h1:i<s.size)(hc:Y s i.toNat=32\/Y s i.toNat=10):PcW s i (spR s i).1:=by
 have h0:=h.1;obtain⟨a,b,c,d⟩:=Vkw h;have hz:=b.2.1;unfold spR;refine Va5 (λq:Y6×Zv=>PcW s i q.1) (λq=>?_) (λq=>?_)
 ·have hlt:i<skpS s i:=by
   have:skpS s i≠i:=λe=>by
    rw[e]at q;rw[Yq kv,Zl]at q;have q:=Y7.1 q;unfold Xh at q;rcases hc with q2|q2
    ·exact d kv (by rw[e];exact q2)
    ·omega
   omega
  refine litP_w h0 hlt b (CL.as λk hk=>?_);rw[Zh,Z0 kv]at hk;rw[Vd6 s hk kv,c _ kv kv]
  decide
 ·obtain⟨q1,q2⟩:=Va8 q;have q1:=Zb q1;have q2:=Va7 q2;unfold Xh at q2;have b1:=(b.nx kv kv).1;obtain⟨e1,e2,_⟩:=Vkw b1;exact Vmw (.mk (.br 2 (.inl rfl)) rfl e2 (by show(2:I)≠4;decide)) (λq=>(by have q:skpS s (skpS s i+1)<=0:=q;omega))
def runP_w(hs:s.size<=262144){ka kd:L I}{va vd:L AV}(h:Bn s i)(h1:i<s.size)(hc:Y s i.toNat=42\/Y s i.toNat=95\/Y s i.toNat=126):PcW s i (runP s ka va kd vd i).1:=by
 have h0:=h.1;obtain⟨a,b,c,d⟩:=Viw h kv;have hz:=b.2.1;have hlt:=Vf2 s i h0 h1;unfold runP;refine Va5 (λq:Y6×Zv=>PcW s i q.1) (λ_=>?_) (λq=>?_)
 ·refine litP_w h0 kv b (CL.as λk hk=>?_);rw[Zh,Z0 kv]at hk;rw[Vd6 s hk kv,c _ kv kv];omega
 ·refine⟨b,.inr (.inl rfl),λ_=>?_,λq=>Zz (show(1:I)=0 from q) gj,λq=>Zz (show(0:I)=4 from q) gj⟩;have he:∀ x:Xa,Y s i.toNat=x.toNat->Zd s i.toNat (i+1).toNat=⟨#[x]⟩:=λx hx=>by
   have hk:i.toNat<s.data.size:=by show i.toNat<s.size;omega
   have:s.data[i.toNat]=x:=UInt8.toNat_inj.1 (by
    rw[<-hx];unfold Y;rw[Array.getD_eq_getD_getElem?,Array.getElem?_eq_getElem hk];rfl)
   apply Xk;rw[Yp,show(i+1).toNat=i.toNat+1 by omega];apply Array.ext
   ·simp;omega
   ·intro k h1 h2;obtain rfl:k=0:=by simp at h2;omega
    simpa using this
  unfold isrP;rcases hc with e|e|e
  ·rw[he 42 e]
   show K (Zf (runE s i-i>=1)) (Zf (runE s i-i<=262144)) R=D;rw[Z2 kv,Z2 kv];rfl
  ·rw[he 95 e]
   show K (Zf (runE s i-i>=1)) (Zf (runE s i-i<=262144)) R=D;rw[Z2 kv,Z2 kv];rfl
  ·rw[he 126 e]
   show(runE s i-i==2)=D;rw[show(((Y s i.toNat:E):I)==126)=D by rw[e];rfl,Zq]at q;exact beq_iff_eq.2 (Va7 q)
def pceG_w(hs:s.size<=262144){ka kd:L I}{la ld:L (L I)}(hA:TkR s R ka la)(hD:TkR s D kd ld)(h:Bn s i)(h1:i<s.size):PcW s i (pceG s ka la kd ld i).1:=by
 have C:∀ {b:Zv} {x y:Y6×Zv},(b=D->PcW s i x.1)->(b=R->PcW s i y.1)->PcW s i (K b x y).1:=λ{b x y} h1 h2=>Va5 (λq:Y6×Zv=>PcW s i q.1) h1 h2
 have B:∀ {n:E},(Xh s i==(n:I))=D->Y s i.toNat=n:=λ{n} q=>by have q:=eq_of_beq q;unfold Xh at q;omega
 have nx:=λ(q:Y s i.toNat≠10)=>nxR_w h h1 q
 have one:=λ(q:Y s i.toNat<128)=>(h.nx h1 q).1
 unfold pceG;refine C (λq=>?_) (λ_=>C (λq=>?_) (λ_=>C (λq=>?_) (λn10=>C (λq=>?_) (λ_=>C (λq=>?_) (λ_=>C (λq=>?_) (λ_=>C (λq=>?_) (λ_=>C (λq=>?_) (λ_=>C (λq=>?_) (λ_=>C (λq=>?_) (λ_=>C (λq=>?_) (λ_=>C (λq=>?_) (λ_=>C (λq=>?_) (λ_=>C (λq=>?_) (λ_=>?_))))))))))))))
 ·have q:Y s i.toNat=92:=B q;exact Vmw (bslP_lf h h1 q) (λ_=>nx kv)
 ·exact spR_w h h1 (.inl (B q))
 ·exact spR_w h h1 (.inr (B q))
 ·have q:Y s i.toNat=38:=B q;exact Vmw (refP_lf h) (λ_=>nx kv)
 ·have q:Y s i.toNat=36:=B q;exact Vmw (mtcP_lf hD h h1 kv) (λ_=>Vmw (dolG_lf h h1 kv) (λ_=>nx kv))
 ·have q:Y s i.toNat=96:=B q;obtain⟨a,b,c,d⟩:=Viw h kv;have hlt:=Vf2 s i h.1 h1;refine Vmw (codP_lf hA h h1 q) (λ_=>litP_w h.1 kv b (CL.as λk hk=>?_));have:=b.2.1;have:=h.1;rw[Zh,Z0 kv]at hk;rw[Vd6 s hk kv,c _ kv kv];omega
 ·have q:Y s i.toNat=60:=B q;exact Vmw (autP_lf h h1 kv) (λ_=>nx kv)
 ·have q:Y s i.toNat=123:=B q;exact Vmw (useP_lf h) (λ_=>nx kv)
 ·have q:Y s i.toNat=91:=B q;exact Vmw (nmdP_lf h h1 kv) (λ_=>Vmw (cteG_lf h h1 kv) (λ_=>pcR_w (.inl rfl) (one kv)))
 ·have q:Y s i.toNat=33:=B q;refine C (λq2=>?_) (λ_=>nx kv);obtain⟨q2,q3⟩:=Va9 q2;have q2:=Za q2;have q3:=eq_of_beq q3;unfold Xh at q3;have:=((one kv).nx q2 kv).1;exact pcR_w (.inl rfl) (by rwa[show i+1+1=i+2 by omega]at this)
 ·have q:Y s i.toNat=93:=B q;exact pcR_w (.inr rfl) (one kv)
 ·exact runP_w hs h h1 (.inl (B q))
 ·exact runP_w hs h h1 (.inr (.inl (B q)))
 ·exact runP_w hs h h1 (.inr (.inr (B q)))
 ·refine nx (λe=>?_);have:=Zk n10;unfold Xh at this;omega
def pcQ_w(hs:s.size<=820)(h:Bn s i)(h1:i<s.size):PcW s i (pcQ s i):=by
 obtain⟨a,b⟩:=rnsM_r s;obtain⟨c1,c2,c3,c4,c5⟩:=pceG_w kv a b h h1;exact⟨c1,c2,c3,c4,c5⟩
end
end
section
open Go Go.Eng
def not_t{b:Zv}(h:(!b)=R):b=true:=by cases b;cases h;rfl
def ctn_no2{l:L A}{v:A}(h:ctnS l v=R):v ∉ l:=by
 have key:∀ n k,l.length-k<n->(∀j,j<k->j<l.length->el l j≠v)->idxS_L0 l v n k<0->∀ j,j<l.length->el l j≠v:=by
  intro n
  induction n with
  |zero=>intro k h;omega
  | succ n ih=>
   intro k hk hj hr;rw[idxS_L0]at hr;have hl:=Va6 Vak l
   by_cases h1:k<l.length
   ·rw[dT kv,Zq]at hr;cases he:eqs v (el l k)with
    |true=>rw[he,Zq]at hr;omega
    | false=>
     rw[he,Zl]at hr;refine ih (k+1) kv (λj j1 j2 e=>?_) hr
     by_cases hjk:j=k
     ·subst hjk;rw[e]at he;have:eqs v v=true:=by unfold eqs;exact Yl _
      rw[this]at he;cases he
     ·exact hj j kv j2 e
   ·exact λj hj2=>hj j kv hj2
 intro hm;obtain⟨j,hj,he⟩:=Zu hm;unfold ctnS at h;have h:=Zb h;refine key _ 0 kv (λj hj=>Zz hj (Zx _)) (show idxS l v<0 by omega) j hj ?_;unfold el;rw[Ze hj,he];rfl
def get_no{a:Ym}{key:A}(h:(getG a key).2=R):key ∉ a.fPairs.map (·.fKey):=by
 have main:∀ n k,a.fPairs.length-k<n->(∀j,j<k->j<a.fPairs.length->(el a.fPairs j).fKey≠key)->(getG_L0 a key n k).2=R->∀ j,j<a.fPairs.length->(el a.fPairs j).fKey≠key:=by
  intro n
  induction n with
  |zero=>intro k h;omega
  | succ n ih=>
   intro k hk hj hr;rw[getG_L0]at hr;have hl:=Va6 Vaz a.fPairs
   by_cases h1:k<a.fPairs.length
   ·rw[dT kv,Zq]at hr;cases he:eqs (el a.fPairs k).fKey key with
    |true=>rw[he,Zq]at hr;cases hr
    | false=>
     rw[he,Zl]at hr;refine ih (k+1) kv (λj j1 j2 e=>?_) hr
     by_cases hjk:j=k
     ·subst hjk;rw[e]at he;have:eqs key key=true:=by unfold eqs;exact Yl _
      rw[this]at he;cases he
     ·exact hj j kv j2 e
   ·exact λj hj2=>hj j kv hj2
 intro hm;obtain⟨p,hp,e⟩:=Yo.1 hm;obtain⟨j,hj,he⟩:=Zu hp;refine main _ 0 kv (λj hj=>Zz hj (Zx _)) h j hj ?_;unfold el;rw[Ze hj,he];exact e
def nd_snoc{α:Type}{l:L α}{x:α}(h:l.Nodup)(hx:x ∉ l):(l++[x]).Nodup:=by
 rw[List.nodup_append];exact⟨h,List.pairwise_singleton _ _,λa ha b hb e=>by rw[Zm.1 hb]at e;exact hx (e ▸ ha)⟩
def AOk.z:AOk aZ:=⟨.inl rfl,λc hc=>(by cases hc),Y8,λp hp=>(by cases hp),Y8,gj,gj⟩
def AOk.acl{a:Ym}(h:AOk a){y:A}(hy:namA y=D)(he:(aclG a y).1=0):AOk (aclG a y).2:=by
 unfold aclG at he ⊢;cases h1:hasG a y with
 |true=>rw[h1]at he;cases he
 | false=>
  rw[h1,Zl]at he;rw[Zl];cases h2:Zf (((a.fClasses.map Vak).length:I)>=32)with
  |true=>rw[h2]at he;cases he
  | false=>
   have h2:=Zb h2;rw[Z1]at h2;refine⟨h.id,λc hc=>?_,nd_snoc h.cn (ctn_no2 h1),h.pr,h.pn,?_,h.lp⟩
   ·rcases Z7.1 (show c∈a.fClasses++[y]from hc)with q|q
    ·exact h.cl c q
    ·rw[Zm.1 q];exact hy
   ·show(a.fClasses++[y]).length<=32;rw[Z8,Zw];omega
def AOk.apr{a:Ym}(h:AOk a){y v:A}(hy:namA y=D)(hv:clnG v=D)(he:(aprG a y v).1=0):AOk (aprG a y v).2:=by
 unfold aprG at he ⊢;cases h1:(getG a y).2 with
 |true=>rw[h1]at he;cases he
 | false=>
  rw[h1,Zl]at he;rw[Zl];cases h2:Zf (((a.fPairs.map Vaz).length:I)>=32)with
  |true=>rw[h2]at he;cases he
  | false=>
   have h2:=Zb h2;rw[Z1]at h2;refine⟨h.id,h.cl,h.cn,λc hc=>?_,?_,h.lc,?_⟩
   ·rcases Z7.1 (show c∈a.fPairs++[⟨y,v⟩]from hc)with q|q
    ·exact h.pr c q
    ·rw[Zm.1 q];exact⟨hy,hv⟩
   ·show((a.fPairs++[DPair.mk y v]).map (·.fKey)).Nodup;rw[Yg];exact nd_snoc h.pn (get_no h1)
   ·show(a.fPairs++[DPair.mk y v]).length<=32;rw[Z8,Zw];omega
section
variable {s:A} {i:I}
def Vm3{k:E}(h:Y s k≠0):k<s.size:=by
 rcases Xc k s.size with q|q
 ·exact q
 ·exact Zz (byt_ba q) h
def VQ(s:A)(r:A×I×Zv):Prop:=r.2.2=D->clnG r.1=D/\Bn s r.2.1
def VQ0:VQ s (⟨#[]⟩,0,R):=λh=>by cases h
def rdvG_q(h:Bn s i):VQ s (rdvG s i):=by
 have h0:=h.1;have hz:=h.2.1;unfold rdvG;refine Va5 (VQ s) (λq=>?_) (λ_=>?_)
 ·obtain⟨q1,q2⟩:=Va9 q;have q1:=eq_of_beq q1;have q2:=eq_of_beq q2;unfold Xh at q1 q2;have l1:=Vm3 (s:=s) (k:=i.toNat) kv;have l2:=Vm3 (s:=s) (k:=(i+1).toNat) kv;have:=((h.nx kv kv).1.nx kv kv).1;exact λe=>⟨e,by rwa[show i+1+1=i+2 by omega]at this⟩
 ·unfold rdvN;refine Va5 (VQ s) (λ_ e=>?_) (λq=>?_)
  ·rw[show min i ((Zp s:E):I)=i by omega]at e ⊢;exact⟨clnG_cl (nam_cl e),(wrdA_bn h).2.1⟩
  ·obtain⟨q1,q2⟩:=Va8 q;have q1:=Zb q1;have q2:=Va7 q2;have b1:=(h.nx kv kv).1;have key:∀(n:E)(v:I)(b:A),i+1<=v->VQ s (rdvN_L0 s i n v b):=by
    intro n
    induction n with
    |zero=>exact λv b _ e=>by cases e
    |succ n ih=>
     intro v b hv;rw[rdvN_L0];refine Va5 (VQ s) (λq=>Va5 (VQ s) (λq2 e=>?_) (λ_=>Va5 (VQ s) (λ_=>Va5 (VQ s) (λ_=>VQ0) (λ_=>ih _ _ kv)) (λ_=>ih _ _ kv))) (λ_=>VQ0);have q:=Za q;have q2:=eq_of_beq q2;exact⟨e,b1.hop hv q kv⟩
   exact key _ _ _ (Ye _)
def IQ(s:A)(r:(I×I)×Ym):Prop:=r.1.2=0->AOk r.2/\Bn s r.1.1
def IQ5(a:Ym):IQ s ((0,5),a):=λh=>by cases h
def rdiG_q{a:Ym}(h:Bn s i)(h1:i<s.size)(ha:AOk a):IQ s (rdiG s i a):=by
 have h0:=h.1;unfold rdiG;refine Va5 (IQ s) (λ_=>IQ5 _) (λq=>?_);have hn:=not_t q;have bn:Bn s (nmI s i):=by
  unfold nmI;refine Va5 (Bn s) (λq=>?_) (λ_=>h);refine(h.nx h1 ?_).1;unfold Xh at q;cases hx:(((Y s i.toNat:E):I)==35)with
  |true=>have:=eq_of_beq hx;omega
  |false=>rw[hx,Zl]at q;have:=eq_of_beq q;omega
 have bt:Bn s (toI s i):=(wrdA_bn bn).2.1;refine Va5 (IQ s) (λ_=>Va5 (IQ s) (λ_ e=>by cases e) (λ_ _=>⟨⟨.inr hn,ha.cl,ha.cn,ha.pr,ha.pn,ha.lc,ha.lp⟩,bt⟩)) (λ_=>Va5 (IQ s) (λ_ e=>⟨ha.acl hn e,bt⟩) (λ_=>?_));unfold rdiE;refine Va5 (IQ s) (λ_=>IQ5 _) (λq=>?_);obtain⟨q1,q2⟩:=Va8 q;have q1:=Zb q1;have q2:=Va7 q2;unfold Xh at q2;have b1:=(bt.nx kv kv).1;unfold rdiV;refine Va5 (IQ s) (λ_=>IQ5 _) (λq3 e=>?_);obtain⟨v1,v2⟩:=rdvG_q b1 (not_t q3);exact⟨ha.apr hn v1 e,v2⟩
def AQ(s:A)(r:Ym×I×I):Prop:=r.2.2=0->AOk r.1/\Bn s r.2.1
def prsL_q(hz:Bn s 0):∀(n:E)(v:I)(a:Ym)(sep:Zv),Bn s v->AOk a->AQ s (prsL s n v a sep)
 |0,v,a,sep,h,ha=>by
  intro _;exact⟨AOk.z,hz⟩
 |n+1,v,a,sep,h,ha=>by
  rw[prsL];refine Va5 (AQ s) (λ_ e=>by cases e) (λq=>?_);have q:=Zb q;refine Va5 (AQ s) (λq2 _=>⟨ha,?_⟩) (λ_=>Va5 (AQ s) (λ_ e=>by cases e) (λ_=>Va5 (AQ s) (λq3 e=>?_) (λq3=>?_)))
  ·have q2:=eq_of_beq q2;unfold Xh at q2;exact(h.nx kv kv).1
  ·have e:(rdiG s v a).1.2=0:=e;rw[e]at q3;cases q3
  ·have q3:=Va7 q3;obtain⟨i1,i2⟩:=rdiG_q h kv ha q3;exact prsL_q hz n _ _ _ (Vkw i2).2.1 i1
def prsA_q(hz:Bn s 0)(h:Bn s i):AQ s (prsA s i):=by
 unfold prsA;refine Va5 (AQ s) (λ_ e=>by cases e) (λq=>?_);obtain⟨q,q3⟩:=Va8 q;obtain⟨q1,q2⟩:=Va8 q;have q2:=Zb q2;have q3:=Va7 q3;unfold Xh at q3;exact prsL_q hz _ _ _ _ (Vkw (h.nx kv kv).1).2.1 AOk.z
def esc_a{v:I}(h0:0<=v)(h:escL s v=D):v+1<s.size/\Y s v.toNat=92/\33<=Y s (v+1).toNat/\Y s (v+1).toNat<127:=by
 unfold escL at h;obtain⟨h,h4⟩:=Va9 h;obtain⟨h,h3⟩:=Va9 h;obtain⟨h1,h2⟩:=Va9 h;have h1:=eq_of_beq h1;have h2:=Za h2;have h3:=Za h3;rw[wrb]at h4;have:=pnc_a _ kv h4;omega
def DQ(s:A)(r:A×I×Zv):Prop:=r.2.2=D->CL r.1/\Bn s r.2.1
def DQ0(x:A)(j:I):DQ s (x,j,R):=λh=>by cases h
def NLf(s:A)(a b:I):Prop:=∀ k:E,a<=k->(k:I)<b->Y s k≠10
def NLf.s1{a v:I}(h:NLf s a v)(h0:0<=v)(hb:Y s v.toNat≠10):NLf s a (v+1):=λk k1 k2=>by
 by_cases hk:(k:I)=v
 ·rw[show k=v.toNat by omega];exact hb
 ·exact h k k1 kv
def NLf.s2{a v:I}(h:NLf s a v)(h0:0<=v)(he:escL s v=D):NLf s a (v+1+1):=by
 have:=esc_a h0 he;exact(h.s1 h0 kv).s1 kv kv
def une_bn{a v:I}(h:Bn s a)(h1:a<=v)(h2:v<=s.size)(h3:v<s.size->Y s v.toNat<128)(hn:NLf s a v):CL (uneS (Zd s a.toNat v.toNat)):=uneS_cl (h.cl h1 h2 h3 hn)
def angS_q(b1:Bn s (i+1)):∀(n:E)(v:I),i+1<=v->NLf s (i+1) v->DQ s (angS_L0 s i n v)
 |0,v,_,_=>λe=>by cases e
 |n+1,v,hv,hn=>by
  have h0:=b1.1;rw[angS_L0];refine Va5 (DQ s) (λq=>Va5 (DQ s) (λq2=>angS_q b1 n _ kv (hn.s2 kv q2)) (λ_=>Va5 (DQ s) (λq2 _=>?_) (λ_=>Va5 (DQ s) (λ_=>DQ0 _ _) (λq3=>angS_q b1 n _ kv (hn.s1 kv ?_))))) (λ_=>DQ0 _ _)
  ·have q:=Za q;have q2:=eq_of_beq q2;exact⟨une_bn b1 hv kv (λ_=>by omega) hn,b1.hop hv q kv⟩
  ·intro e;rw[show(((Y s v.toNat:E):I)==60)=R by rw[e];rfl,show(((Y s v.toNat:E):I)==10)=D by rw[e];rfl]at q3;cases q3
def quoS_q{last:I}(hl:last<128)(b1:Bn s (i+1)):∀(n:E)(v:I),i+1<=v->NLf s (i+1) v->DQ s (quoS_L0 s i last n v)
 |0,v,_,_=>λe=>by cases e
 |n+1,v,hv,hn=>by
  have h0:=b1.1;rw[quoS_L0];refine Va5 (DQ s) (λq=>Va5 (DQ s) (λq2=>quoS_q hl b1 n _ kv (hn.s2 kv q2)) (λ_=>Va5 (DQ s) (λq2 _=>?_) (λ_=>Va5 (DQ s) (λ_=>DQ0 _ _) (λq3=>quoS_q hl b1 n _ kv (hn.s1 kv ?_))))) (λ_=>DQ0 _ _)
  ·have q:=Za q;have q2:=eq_of_beq q2;exact⟨une_bn b1 hv kv (λ_=>by omega) hn,b1.hop hv q kv⟩
  ·have:=Zk q3;omega
def dst0_q(h:Bn s i):∀(n:E)(w v:I),i<=v->v<=s.size->NLf s i v->DQ s (dstG_L0 s i n w v)
 |0,w,v,_,_,_=>λe=>by cases e
 | n+1,w,v,hv,hz,hn=>by
  have h0:=h.1;rw[dstG_L0];have ok:(v<s.size->Y s v.toNat<128)->DQ s (uneS (Zd s i.toNat v.toNat),v,D):=λha _=>⟨une_bn h hv hz ha hn,(h.to hv hz (λq=>.inl (ha q))).2⟩
  refine Va5 (DQ s) (λq=>Va5 (DQ s) (λq2=>Va5 (DQ s) (λ_=>DQ0 _ _) (λ_=>ok (λ_=>?_))) (λq2=>Va5 (DQ s) (λ_=>DQ0 _ _) (λ_=>?_))) (λq=>Va5 (DQ s) (λ_=>DQ0 _ _) (λ_=>ok (λq2=>Zz q2 (Zb q))))
  ·generalize Y s v.toNat=b at q2;cases h1:(((b:E):I)==32)with
   |true=>have:=eq_of_beq h1;omega
   | false=>
    cases h2:(((b:E):I)==10)with
    |true=>have:=eq_of_beq h2;omega
    |false=>
     rw[h1,h2]at q2;have:=eq_of_beq (Va9 q2).1;omega
  ·have q:=Za q;obtain⟨q3,_⟩:=Va8 q2;obtain⟨_,q3⟩:=Va8 q3;have q3:=Zk q3;cases he:escL s v with
   |true=>
    have:=esc_a kv he;exact dst0_q h n _ _ (by show i<=v+1+1;omega) (by show v+1+1<=_;omega) (hn.s2 kv he)
   |false=>exact dst0_q h n _ _ (by show i<=v+1;omega) (by show v+1<=_;omega) (hn.s1 kv kv)
def dstG_q(h:Bn s i):DQ s (dstG s i):=by
 unfold dstG;refine Va5 (DQ s) (λ_=>DQ0 _ _) (λq=>Va5 (DQ s) (λq2=>?_) (λ_=>dst0_q h _ _ _ (Ye _) h.2.1 (λk k1 k2=>by omega)));obtain⟨_,q1⟩:=Va8 q;have q1:=Zb q1;have q2:=eq_of_beq q2;exact angS_q (h.nx kv kv).1 _ _ (Ye _) (λk k1 k2=>by omega)
def titM_q(h:Bn s i)(h1:i<s.size):DQ s (titM s i):=by
 unfold titM;refine Va5 (DQ s) (λq=>?_) (λ_=>Va5 (DQ s) (λq=>?_) (λ_=>DQ0 _ _))
 all_goals
  have q:=eq_of_beq q;unfold Xh at q;exact quoS_q gj (h.nx h1 kv).1 _ _ (Ye _) (λk k1 k2=>by omega)
def lbl_ok{u:A}(h:eqs (lblM u) ⟨#[]⟩=R):LbOk (lblM u):=by
 have h0:0<(lblM u).size:=by
  rcases Nat.eq_zero_or_pos (lblM u).size with e|e
  ·rw[size0 e]at h;cases h
  ·exact e
 unfold lblM at h0 ⊢
 split at h0
 ·exact Zz h0 (Y9 _)
 ·rename_i h1
  split at h0
  ·rename_i h2;rw[Yz h1,Yu h2];exact⟨h0,kv,fldM_idem u,h2⟩
  ·exact Zz h0 (Y9 _)
def BQ(s:A)(r:A×I×Zv):Prop:=r.2.2=D->LbOk r.1/\Bn s r.2.1
def brkM_q(h:Bn s i):BQ s (brkM s i):=by
 have h0:=h.1;unfold brkM;refine Va5 (BQ s) (λ_ e=>by cases e) (λq=>Va5 (BQ s) (λ_ e=>by cases e) (λq2 _=>?_));obtain⟨q1,q3⟩:=Va8 q;have q1:=Zb q1;have q3:=Va7 q3;obtain⟨q4,q5⟩:=Va8 q2;have q4:=not_t q4;have b1:=(h.nx kv kv).1;refine⟨lbl_ok q5,?_⟩;rcases Vrb (Zd s (i+1).toNat s.size) 93 gj with⟨e,_⟩|⟨n,e,n1,n2,_⟩
 ·have e:idxB (Zd s (i+1).toNat s.size) 93= -1:=e;unfold cutM ctlM at q4;rw[e]at q4;cases q4
 ·have e:idxB (Zd s (i+1).toNat s.size) 93=(n:I):=e;have hc:(cutM (Zd s (i+1).toNat s.size)).1.size=n:=by
   unfold cutM ctlM;rw[e,dT kv,Zq]
   show(Zd _ 0 _).size=n;rw[Zr,Zh,Z0 kv,Nat.sub_zero]
  rw[Zh,Y2]at n1;rw[Vd6 s kv (Zs _)]at n2;have:=b1.hop (v:=i+1+n) kv kv (by rw[show(i+1+(n:I)).toNat=(i+1).toNat+n by omega];omega)
  show Bn s (i+(((cutM (Zd s (i+1).toNat s.size)).1.size:E):I)+2);rw[hc];rwa[show i+1+(n:I)+1=i+n+2 by omega]at this
def TQ(s:A)(r:A×A×A×I×Zv):Prop:=r.2.2.2.2=D->LnOk r.2.2.1 r.1 r.2.1/\Bn s r.2.2.2.1
def tlM_q(h:Bn s i):TQ s (tlM s i):=by
 have h0:=h.1;have z:∀ a b c j,TQ s (a,b,c,j,R):=λa b c j e=>by cases e
 have cl:∀ {v:I},Bn s v->(((Y s v.toNat:E):I) !=41)=R->v<s.size->Bn s (v+1):=λ{v} hb q hl=>by
  have q:=Va7 q;exact(hb.nx hl kv).1
 unfold tlM;refine Va5 (TQ s) (λ_=>z _ _ _ _) (λq=>?_);obtain⟨_,q1⟩:=Va8 q;have q1:=Zb q1;refine Va5 (TQ s) (λ_ e=>?_) (λq2=>?_)
 ·obtain⟨a,b⟩:=brkM_q h e;exact⟨⟨.inr ⟨a,rfl,rfl⟩,CL.nil,CL.nil⟩,b⟩
 have q2:=Va7 q2;have b1:=(skpL_bn (h.nx kv kv).1).2;refine Va5 (TQ s) (λq3 _=>⟨⟨.inl rfl,CL.nil,CL.nil⟩,?_⟩) (λ_=>Va5 (TQ s) (λ_=>z _ _ _ _) (λq3=>?_))
 ·obtain⟨q3,q4⟩:=Va9 q3;have q3:=Za q3;have q4:=eq_of_beq q4;exact(b1.nx q3 kv).1
 obtain⟨d1,d2⟩:=dstG_q b1 (not_t q3);have b2:=(skpL_bn d2).2;refine Va5 (TQ s) (λq4=>Va5 (TQ s) (λ_=>z _ _ _ _) (λq5=>Va5 (TQ s) (λ_=>z _ _ _ _) (λq6 _=>?_))) (λ_=>Va5 (TQ s) (λ_=>z _ _ _ _) (λq6 _=>?_))
 ·obtain⟨q4,_⟩:=Va9 q4;obtain⟨q4,_⟩:=Va9 q4;obtain⟨t1,t2⟩:=titM_q b2 (Za q4) (not_t q5);obtain⟨q6,q7⟩:=Va8 q6;have q6:=Zb q6;exact⟨⟨.inl rfl,d1,t1⟩,cl (skpL_bn t2).2 q7 kv⟩
 ·obtain⟨q6,q7⟩:=Va8 q6;have q6:=Zb q6;exact⟨⟨.inl rfl,d1,CL.nil⟩,cl b2 q7 kv⟩
def ephI_q(h:Bn s i)(hk:(ephI s i).1≠0):((ephI s i).1=6\/(ephI s i).1=7\/(ephI s i).1=8)/\Bn s (ephI s i).2:=by
 revert hk
 unfold ephI;refine Va5 (λr:I×I=>r.1≠0->(r.1=6\/r.1=7\/r.1=8)/\Bn s r.2) (λq _=>⟨.inl rfl,(h.pfx q 6 rfl gj).1⟩) (λ_=>Va5 (λr:I×I=>r.1≠0->(r.1=6\/r.1=7\/r.1=8)/\Bn s r.2) (λq _=>⟨.inr (.inl rfl),(h.pfx q 8 rfl gj).1⟩) (λ_=>Va5 (λr:I×I=>r.1≠0->(r.1=6\/r.1=7\/r.1=8)/\Bn s r.2) (λq _=>⟨.inr (.inr rfl),(h.pfx q 8 rfl gj).1⟩) (λ_ e=>Zz rfl e)))
end
end
section
open Go Go.Eng
def clb_to{u:A}(hu:CL u)(hs:u.size<=1073741824):Va1 Zi 119 [jS u] [] [] (jB D) [] []:=by
 have:=clnT_to u hs;rwa[clnT_cl hu]at this
def ccS(l:L Xe)(v:E)(k:I)(c:Xe):St:=sx 42 [(10,jL (l.map Vap)),(11,jI ((lenM Vap l:E):I)),(12,jI ((v:E):I)),(24,.av (.agg [vS c.fPrefix,vS c.fSuffix])),(25,jI k)] [] []
def ct_to{t:A}(h:CtOk t)(hs:t.size<=1073741824):Va1 Zi 119 [jS t] [] [] (jB D) [] []/\Va1 Zi 177 [jS t] [] [] (jB D) [] []/\Va1 Zi 176 [jS t,jS SP7] [] [] (jB R) [] []:=by
 obtain⟨h1,h2,h3⟩:=h;have c2:=trmP_to t hs;have c3:=Vpe t SP7 hs gj gj (A7.lit gj);rw[h2]at c2;rw[h3]at c3;exact⟨clb_to h1 hs,c2,c3⟩
def chc_to(l:L Xe)(h0:l≠[])(h:∀ c∈l,CiOk c)(hw:wl Vc8 l<=1073741824):Va1 Zi 123 [jL (l.map Vap)] [] [] (jI 0) [] []:=by
 have hw0:=Vb9 (w:=Vc8) Vgj l;have hle:=Va6 Vap l;have hp:0<l.length:=Yy.2 h0;have hz:(((lenM Vap l:E):I)==0)=false:=Zn kv;refine bG Tryz.func123 ?_;refine gO (i8 hz i6) ?_;refine LP (n:=l.length+1) (λN M S=>∃ v:E,v<=l.length/\l.length-v<N/\M=()/\S=(sx 42 [(10,jL (l.map Vap)),(11,jI ((lenM Vap l:E):I)),(12,jI ((v:E):I))] [] [])) kx ⟨0,kv,kv,rfl,rfl⟩ (WK kx) ?_;rintro n0 M S ⟨v,hv,hF0,rfl,rfl⟩;obtain⟨n0,rfl⟩:∃ k,n0=k+1:=⟨n0-1,kv⟩
 by_cases h1:v<l.length
 ·have hd:Zf (((v:E):I)<((lenM Vap l:E):I))=true:=dT kv;have hev:=Vlu l v h1;have hce:=Vpx (w:=Vc8) (l:=l) (i:=v) h1;simp only[Vc8,wStr]at hce;obtain⟨a1,a2,a3⟩:=h _ (Vbk h1);have kN:=Vdl (el l v).fKey kv;rw[a1]at kN;obtain⟨b1,b2,b3⟩:=ct_to a2 kv;obtain⟨d1,d2,d3⟩:=ct_to a3 kv;have w0:=wrE ((0:I)+1) 1 kv;have w1:=wrE ((1:I)+1) 2 kv;have i0:(0:I)<=0/\(0:I)<((2:E):I)/\O 0*1+1<=2/\0<1:=gj;have i1:(0:I)<=1/\(1:I)<((2:E):I)/\O 1*1+1<=2/\0<1:=gj;have hwr:=wrE (((v:E):I)+1) ((v+1:E):I) kv;refine gO (m0 hd<|ke hev<|vq kN<|kz [2] iq) ?_;refine UN (ccS l v 0 (el l v)) 3 kx (WK kx) ?_;refine gO (kz [3]<|kp i0<|j7 b1<|kz [4,2]<|kc b2<|kz [0,2,2,2]<|kc b3<|kz [0,0]<|kn w0 m5) ?_;refine UA (ccS l v 1 (el l v)) kx (WK kx) ?_;refine gO (kz [3]<|kp i1<|j7 d1<|kz [4,2]<|kc d2<|kz [0,2,2,2]<|kc d3<|kz [0,0]<|kn w1 m5) ?_;refine UA (ccS l v 2 (el l v)) kx (WK kx) ?_;refine gO (kz [2] z) ?_;refine UO (kn hwr m5) kx ?_;exact AG (m:=n0) ⟨v+1,kv,kv,rfl,rfl⟩ (WK kx) kx (Zj _)
 ·have hd:Zf (((v:E):I)<((lenM Vap l:E):I))=false:=dF kv;refine gO (m0 hd z) ?_;refine Xf m5 kx ?_;exact eN
def ADR:ByteArray:=⟨#[32,60,62]⟩
def adr_to(s:A)(h:AuOk s)(hs:s.size<=1073741824):Va1 Zi 124 [jS s] [] [] (jB D) [] []:=by
 obtain⟨⟨n,n1,n2,n3,n4,n5⟩,hc,hno⟩:=h;have c1:=clb_to hc hs;have c2:=Vpe s ADR hs gj gj (A7.lit gj);have e2:ctnG s ADR=false:=ctn_no λk hk j hj=>by
  have hj:j<3:=hj;have:=hno k hk;have b0:Y ADR 0=32:=rfl;have b1:Y ADR 1=60:=rfl;have b2:Y ADR 2=62:=rfl;rcases(by omega:j=0\/j=1\/j=2)with rfl|rfl|rfl <;>omega
 rw[e2]at c2;refine bG Tryz.func124 ?_;refine gO j6 ?_;refine LP (n:=n+1) (λN M S=>∃ v:E,v<=n/\n-v<N/\M=()/\S=(sx 61 [(0,jS s),(3,jI ((v:E):I))] [] [])) kx ⟨0,kv,kv,rfl,rfl⟩ (WK kx) ?_;rintro n0 M S ⟨v,hv,hF0,rfl,rfl⟩;obtain⟨n0,rfl⟩:∃ k,n0=k+1:=⟨n0-1,kv⟩
 have hib:=ib s ((v:E):I) kv;have hd:Zf (((v:E):I)<((Zp s:E):I))=true:=dT kv;refine gO (jq (Zf (((v:E):I)<((Zp s:E):I))) (m9 (λ_=>hib)<|wq (Zf (((Y s v:E):I)>=97)) (m9 (λ_=>hib) m5) z<|m7 (K (Zf (((Y s v:E):I)>=97)) (Zf (((Y s v:E):I)<=122)) R) z (m9 (λ_=>hib)<|wq (Zf (((Y s v:E):I)>=65)) (m9 (λ_=>hib) m5) z z) z) z z) ?_
 by_cases h1:v<n
 ·have hl:K (Zf (((v:E):I)<((Zp s:E):I))) (letA ((Y s v:E):I)) R=true:=by rw[hd];exact n5 v h1
  have hwr:=wrE (((v:E):I)+1) ((v+1:E):I) kv;refine gO (kb hl<|m6 hwr m5) ?_;exact AG (m:=n0) ⟨v+1,kv,kv,rfl,rfl⟩ (WK kx) kx (Zj _)
 ·obtain rfl:v=n:=kv;have hl:K (Zf (((v:E):I)<((Zp s:E):I))) (letA ((Y s v:E):I)) R=false:=by rw[hd,n4];rfl
  have d2:Zf (((v:E):I)>=2)=true:=dT kv;have d20:Zf (((v:E):I)<=20)=true:=dT kv;have d58:(((Y s v:E):I)==58)=true:=by rw[n4];rfl
  refine gO (kb hl z) ?_;refine Xf (w7 d2<|m0 d2<|m0 d2<|m0 d20<|m0 d20<|m0 d20<|m0 d20<|m0 d20<|m0 hd<|m0 hd<|m0 hd<|kp hib<|kb hd<|m0 hd<|m0 d58<|m0 d58<|kc c1<|kb d58<|kz [3,3]<|kc c2<|kz [1,3] m5) kx ?_;exact eN
def chi_to{x:Zg}{p:I}(h:WI x)(hw:Va4 x<=1073741824)(hp:AdK p x.fKind)(hn:x.fKind=9->∀ z∈x.fKids,NR z):Va1 Zi 79 [roI x,jI p] [] [] (jI 0) [] []:=by
 have hwx:=Vao x;have hwa:=Vcv x.fAttr;simp only[wStr,w1]at hwx;obtain⟨q1,q2,q3⟩:=hp;have u2:Uni 1 ([2,3].map vI):=by intro y hy;obtain⟨x,_,rfl⟩:=Yo.1 hy;exact⟨rfl,rfl⟩
 cases h with
 |tx k t a b c=>
  simp only[coI]at hwx hw;have e0:=eqs_ne b;have ct:=clb_to c kv;rcases a with rfl|rfl|rfl
  ·have hq:(p==1)=false:=Zn (q1 rfl);refine bG Zo ?_;refine gO (kz [15,1]<|zq e0<|m0 e0<|m0 e0<|m0 e0<|m0 e0<|kc ct<|kb e0<|m0 e0<|kz [0,13,3,3,3,3,3,3]<|kb hq m5) ?_;exact eN
  ·have hq:(p==4)=false:=Zn (q2 rfl);refine bG Zo ?_;refine gO (kz [14,5,1]<|zq e0<|m0 e0<|m0 e0<|m0 e0<|m0 e0<|kc ct<|kb e0<|m0 e0<|kz [0,13,3,3,3,3,3,3]<|kb hq m5) ?_;exact eN
  ·refine bG Zo ?_;refine gO (kz [14,4,5]<|zq e0<|m0 e0<|m0 e0<|m0 e0<|m0 e0<|kc ct<|kb e0<|m0 e0<|kz [0,12,0,0,0,0,0,0,0] m5) ?_;exact eN
 |br k a=>
  rcases a with rfl|rfl
  ·have co:=Vox p [2,3] gj;have hq:=q3 rfl;rw[show oneO p [2,3]=R by show K (p==2) D (K (p==3) D R)=R;rw[Zn hq.1,Zn hq.2];rfl]at co;refine bG Zo ?_;refine gO (kz [14,4,4,5]<|p9 u2<|kc co<|kz [0] m5) ?_;exact eN
  ·refine bG Zo ?_;refine gO (kz [14,4,4,4,4,4,4,4,4,4,4,4,4,4,4] m5) ?_;exact eN
 |em k l a b=>
  have hle:=Va6 Va2 l;have hp0:0<l.length:=Yy.2 b;have hz:(((lenM Va2 l:E):I)==0)=false:=Zn kv;rcases a with rfl|rfl|rfl
  ·refine bG Zo ?_;refine gO (kz [14,4,4,4,5,1]<|zq hz m5) ?_;exact eN
  ·refine bG Zo ?_;refine gO (kz [14,4,4,4,4,5,1]<|zq hz m5) ?_;exact eN
  ·refine bG Zo ?_;refine gO (kz [14,4,4,4,4,4,5]<|zq hz m5) ?_;exact eN
 |ln lab d ti l a=>
  have cc:=chl_to (.inl ⟨rfl,rfl⟩) a AOk.z hw (λ_=>hn rfl);refine bG Zo ?_;refine gO (kz [14,4,4,4,4,4,4,5,1]<|n7 cc m5) ?_;exact eN
 |im lab d ti a l b c=>
  have cc:=chl_to (.inr rfl) b c hw (λe=>Zz e gj);refine bG Zo ?_;refine gO (kz [14,4,4,4,4,4,4,4,5]<|n7 cc m5) ?_;exact eN
 |sp a l b c=>
  simp only[mkI]at hwx hw;have ce:=empA_to a kv;rw[c]at ce;have cc:=atc_to a b kv;refine bG Zo ?_;refine gO (kz [14,4,4,4,4,4,4,4,4,5]<|cq ce<|kz [0]<|cq cc m5) ?_;exact eN
 |nr t a=>
  have cc:=chn_to (k:=12) (l:=[]) (ti:=⟨#[]⟩) a rfl gj (λa h=>by cases h) hw;refine bG Zo ?_;refine gO (kz [14,4,4,4,4,4,4,4,4,4,5,1]<|n7 cc m5) ?_;exact eN
 |ci l a b=>
  simp only at hwx;have cc:=chc_to l a b kv;refine bG Zo ?_;refine gO (kz [14,4,4,4,4,4,4,4,4,4,4,4,4,5]<|cq cc m5) ?_;exact eN
 |rf t ti a b=>
  have cc:=chn_to (k:=14) (l:=[]) (ti:=ti) a (by rcases b with rfl|rfl <;>rfl) gj (λa h=>by cases h) hw;refine bG Zo ?_;refine gO (kz [14,4,4,4,4,4,4,4,4,4,4,5,1]<|n7 cc m5) ?_;exact eN
 |us t l a b c=>
  have cc:=chn_to (k:=15) (l:=l) (ti:=⟨#[]⟩) a rfl b c hw;refine bG Zo ?_;refine gO (kz [14,4,4,4,4,4,4,4,4,4,4,4,5]<|n7 cc m5) ?_;exact eN
 |au d a=>
  simp only at hwx;have cc:=adr_to d a kv;refine bG Zo ?_;refine gO (kz [14,4,4,4,4,4,4,4,4,4,4,4,4,4,5]<|cq cc<|kz [2] m5) ?_;exact eN
def dp_mem{x:Zg}:∀ {l:L Zg},x∈l->dpI x<=dpL l
 |[],h=>by cases h
 |y::l,h=>by
  rw[dpL];rcases Yc.1 h with rfl|h
  ·omega
  ·have:=dp_mem h;omega
def oneO2(k:I):oneO k [2,3]=K (k==2) D (k==3):=by
 show K (k==2) D (K (k==3) D R)=_;cases(k==3) <;>rfl
def adj_el:∀ {l:L Zg} {p:I} {v:E},Adj p l->v<l.length->AdK (if 0<v then(el l (v-1)).fKind else p) (el l v).fKind
 |[],_,_,_,h=>Zz h (Zx _)
 |x::l,p,0,h,_=>h.1
 |x::l,p,v+1,h,hv=>by
  have:=adj_el (v:=v) h.2 (by simpa using hv);rw[Yu (Y3 _),Yh];cases v with
  |zero=>exact this
  |succ v=>rw[Yu (Y3 _)]at this;exact this
def chs_to:∀(n:E)(l:L Zg)(d:E),wl Va4 l<n->wl Va4 l<=1073741824->(∀x∈l,WF x/\LK x)->Adj 0 l->dpL l+d<=16->(d=0->(∀x,l.head? =some x->x.fKind≠2)/\∀ x,l.getLast? =some x->x.fKind≠2/\x.fKind≠3)->Va1 Zi 41 [jL (l.map Va2),jI ((d:E):I)] [] [] (jI 0) [] []
 |0,l,d,h,_,_,_,_,_=>by omega
 | n+1,l,d,h0,hl,hW,hA,hdp,hE=>by
  have hw:=Vb9 (w:=Va4) Vaw l;have hle:=Va6 Va2 l;refine bG Tryz.func41 ?_;refine gO i7 ?_;refine LP (n:=l.length+1) (λN M S=>∃ v:E,v<=l.length/\l.length-v<N/\M=()/\S=(sx 76 [(0,jL (l.map Va2)),(1,jI ((d:E):I)),(11,jI ((lenM Va2 l:E):I)),(12,jI ((v:E):I))] [] [])) kx ⟨0,kv,kv,rfl,rfl⟩ (WK kx) ?_;rintro n0 M S ⟨v,hv,hF0,rfl,rfl⟩;obtain⟨n0,rfl⟩:∃ k,n0=k+1:=⟨n0-1,kv⟩
  by_cases h1:v<l.length
  ·have hd:Zf (((v:E):I)<((lenM Va2 l:E):I))=true:=dT kv;have hm:=Vbk h1;have hev:=Vb0 l v h1;have hce:=Vpx (w:=Va4) (l:=l) (i:=v) h1;have hcw:=Vao (el l v);have hdi:=dp_mem hm;rw[dpI_eq]at hdi;have h15:Zf (((d:E):I)>15)=false:=dF kv;obtain⟨hf,hk⟩:=hW _ hm;have hf1:=Vad.1 hf;have hk1:=Vad.1 hk;have c77:=ifd_to hf1.1.1;have cO:=Vox (el l v).fKind [2,3] gj;have u2:Uni 1 ([2,3].map vI):=by intro y hy;obtain⟨x,_,rfl⟩:=Yo.1 hy;exact⟨rfl,rfl⟩
   have hwl:=wrE (((lenM Va2 l:E):I)-1) (((lenM Va2 l:E):I)-1) kv;have hrr:=wrE (((d:E):I)+1) ((d+1:E):I) kv;have hwr:=wrE (((v:E):I)+1) ((v+1:E):I) kv
   have c79:=chi_to (p:=K (Zf (((v:E):I)>0)) (el l (((v:E):I)-1).toNat).fKind 0) hf1.1.1 kv (by
    have:=adj_el hA h1
    by_cases h0:0<v
    ·rw[Yu h0]at this;rw[dT kv,Zq,show(((v:E):I)-1).toNat=v-1 by omega];exact this
    ·rw[Yz h0]at this
     rw[dF kv];exact this) (λe=>hk1.1 e)
   have hrec:=chs_to n (el l v).fKids (d+1) kv kv (λx hx=>⟨hf1.2 x hx,hk1.2 x hx⟩) hf1.1.2 kv (λe=>by omega);have hb:K (((d:E):I)==0) (K (K ((el l v).fKind==2) (((v:E):I)==0) R) D (K (oneO (el l v).fKind [2,3]) (((v:E):I)==((lenM Va2 l:E):I)-1) R)) R=false:=by
    by_cases hd0:d=0
    ·obtain⟨e1,e2⟩:=hE hd0;have a1:K ((el l v).fKind==2) (((v:E):I)==0) R=false:=by
      by_cases hv0:v=0
      ·subst hv0
       have:=e1 (el l 0) (by
        cases l with
        |nil=>exact Zz h1 (Zx _)
        |cons a l=>rfl)
       rw[Zn this];rfl
      ·rw[Zn (show((v:E):I)≠0 by omega)];cases((el l v).fKind==2) <;>rfl
     have a2:K (oneO (el l v).fKind [2,3]) (((v:E):I)==((lenM Va2 l:E):I)-1) R=false:=by
      by_cases hvl:v+1=l.length
      ·have:=e2 (el l v) (by
        rw[List.getLast?_eq_getElem?, <-hvl,Yh];unfold el
        rw[Ze h1];rfl)
       rw[oneO2,Zn this.1,Zn this.2];rfl
      ·rw[Zn (show((v:E):I)≠((lenM Va2 l:E):I)-1 by omega)];cases oneO (el l v).fKind [2,3] <;>rfl
     rw[a1,a2];cases(((d:E):I)==0) <;>rfl
    ·rw[Zn (show((d:E):I)≠0 by omega)];rfl
   refine gO (m0 hd<|i8 h15<|tn 3<|ks (Zf (((v:E):I)>0)) [6] (dq (λh=>wrE (((v:E):I)-1) (((v:E):I)-1) (by have:=Za h.2;omega))<|he (λh=>elI_aInline l (((v:E):I)-1) (by have:=Za h.2;omega) kv) i6) z<|tn 2<|ke hev<|j7 c77 m5) ?_;refine gO (kz [0]<|t7 (((d:E):I)==0) (tn 6<|kj ((el l v).fKind==2) j6 z<|m7 (K ((el l v).fKind==2) (((v:E):I)==0) R) z (tn 4<|hp (λ_=>u2)<|hc (λ_=>cO)<|m7 (oneO (el l v).fKind [2,3]) (tn 3<|hn (λ_=>hwl) m5) z z) z) z<|kb hb<|j7 c79<|kz [6]<|tn 5<|kn hrr<|kc hrec<|kz [6]<|kn hwr m5) ?_;exact AG (m:=n0) ⟨v+1,kv,kv,rfl,rfl⟩ (WK kx) kx (Zj _)
  ·have hd:Zf (((v:E):I)<((lenM Va2 l:E):I))=false:=dF kv;refine gO (m0 hd z) ?_;refine Xf m5 kx ?_;exact eN
def line_to(l:L Zg)(hw:wl Va4 l<=1073741824)(h:LnW l)(hk:∀ x∈l,LK x)(hd:dpL l<=16):Va1 Zi 20 [jL (l.map Va2)] [] [] (jI 0) [] []:=by
 have c:=chs_to _ l 0 (Zj _) hw (λx hx=>⟨h.wf x hx,hk x hx⟩) h.ad kv (λ_=>⟨h.hd,h.lt⟩);refine bG Tryz.func20 ?_;refine gO (j7 c m5) ?_;exact eN
def mgL_id:∀ {l:L Zg} {p:I},Adj p l->mgL l=l
 |[],_,_=>rfl
 | x::l,p,h=>by
  show mgc x (mgL l)=x::l;rw[mgL_id h.2];cases l with
  |nil=>rfl
  |cons y q=>
   rcases mgc_cs x y q with⟨_,h1,h2⟩|⟨e,_⟩
   ·exact Zz h1 (h.2.1.1 h2)
   ·exact e
def mgI_id:∀ x,WF x->mgI x=x:=Vbn λx ih h=>by
 have h:=Vad.1 h;rw[Vng]
 show{x with fKids:=mgL (x.fKids.map mgI)}=x
 rw[show x.fKids.map mgI=x.fKids by
  conv=>rhs;rw[<-Yx x.fKids]
  exact Z5 (λy hy=>ih y hy (h.2 y hy)),mgL_id h.1.2]
 cases x;rfl
def mgD_id{l:L Zg}(h:∀ x∈l,WF x)(ha:Adj 0 l):mgD l=l:=by
 unfold mgD
 rw[show l.map mgI=l by
  conv=>rhs;rw[<-Yx l]
  exact Z5 (λy hy=>mgI_id y (h y hy)),mgL_id ha]
def dn_none{U:E->E}{N:E}{w1:World}{V:E->L Value}:∀(n:E)(l:L Zg)(u:Value),Yk l<n->(∀x∈l,Xj (λy=>y.fKind≠ -1) x)->Dn N 0 U w1 V w1 l u
 |0,l,u,h,_=>by omega
 | n+1,l,u,h,hc=>.mk (fun a cap e j b off hj ha hk=>Zz hk (Vad.1 (hc _ (Vbk hj))).1) (fun i b off cap x hi e hk hx=>dn_none n _ _ (by
   have hs1:=List.sizeOf_lt_of_mem (Vbk hi);have hs2:Yk (el l i).fKids<Yk (el l i):=by
    cases(el l i);simp only[DInline.mk.sizeOf_spec];omega
   omega) (Vad.1 (hc _ (Vbk hi))).2)
def mgs_to(xs:L Zg)(h1:MgO xs)(h2:OkIs xs)(hc:∀ x∈mgD xs,Xj (λy=>y.fKind≠ -1) x)(hp:∀ x∈mgD xs,Xj (PhP 0) x):Va1 Zi 21 [jL (xs.map Va2)] [] [] (jL ((mgD xs).map Va2)) [] []:=by
 refine⟨⟨Tryz.f21,Tryz.func21,kx,kx⟩,λG w us hw hr hbx _=>?_⟩;obtain⟨u,l,rfl,hu,h'⟩:=hr;have h':l=[]:=h';subst h';have hm:=mgd_to w.heap.size xs h1 h2
 refine(hm.2 (gh0 G) w [u] (gh0_wf hw (Zs _)) ⟨u,[],rfl,hu,rfl⟩ (λp hp=>by
  simp only[gxB,Yc,Y4,or_false]at hp;subst hp
  exact Zs _) ku).mono ?_
 rintro e w1 ⟨u7,G1,rfl,s1,s2,s3, -⟩;obtain⟨hB1,hU1⟩:=Vlo s1;have hR1:Rr w.heap.size 0 w w1 (λ_=>[]) w1:=⟨hB1,Zs _,λ_ _ _=>rfl,λb hb=>hb.2,λ_ _ _ _=>rfl,λ_ _ _ _ _=>.inl λ_ _=>rfl⟩
 have hz:∀ b,w1.heap.size<=b->G1.U b=0:=λb hb=>s2.zero b hb
 obtain⟨t1,t2,t3⟩:=Vn3 (U':=G1.U) hw hB1 s1.U hU1 hz;have hrep:=done_rep (VI:=λ_=>txI ⟨#[]⟩) gj hR1 (λk q=>Zz q (Zx _)) (Yk (mgD xs)+1) (mgD xs) u7 (Zj _) s3 hp (dn_none _ _ _ (Zj _) hc)
 rw[show(mgD xs).map (rsT (λ_=>txI ⟨#[]⟩))=mgD xs by
  conv=>rhs;rw[<-Yx (mgD xs)]
  exact Z5 (λy hy=>rsT_cln _ y (hc y hy))]at hrep
 exact⟨u7,_,rfl,t1,t2,hrep,λp hp=>(by cases hp),λi _=>t3 _,λ_ _=>rfl,λκ=>rfl⟩
def wf_phx:∀ x,WF x->Xj (PhX 0) x/\Xj (λy=>y.fKind≠ -1) x:=Vbn λx ih h=>by
 have h:=Vad.1 h;have hk:=h.1.1.kd1;refine⟨Vad.2 ⟨⟨λe=>by omega,λe=>?_⟩,λy hy=>(ih y hy (h.2 y hy)).1⟩,Vad.2 ⟨kv,λy hy=>(ih y hy (h.2 y hy)).2⟩⟩;obtain⟨t,rfl,ht,_⟩:=h.1.1.t1 e;exact ht
def wf_php:∀ x,WF x->Va4 x<=1073741824->Xj (PhP 0) x:=Vbn λx ih h hw=>by
 have h:=Vad.1 h;have hk:=h.1.1.kd1;have h2:=Vik (x:=x);have h4:=Vb9 (w:=Va4) Vaw x.fKids;exact Vad.2 ⟨⟨λe=>by omega,kv⟩,λy hy=>ih y hy (h.2 y hy) (by have:=Vgr (w:=Va4) hy;omega)⟩
def mgw_to(l:L Zg)(hw:wl Va4 l<=1073741824)(h:LnW l):Va1 Zi 21 [jL (l.map Va2)] [] [] (jL (l.map Va2)) [] []:=by
 have e:=mgD_id h.wf h.ad;have hm:∀ x∈l,Va4 x<=1073741824:=λx hx=>by have:=Vgr (w:=Va4) hx;omega
 have hO:∀ x∈l,OkI x:=λx hx=>OkI_of x (wf_phx x (h.wf x hx)).1 (hm x hx)
 have:=mgs_to l ⟨by have:=Vb9 (w:=Va4) Vaw l;omega,by have:=Vpg l;omega,λx hx=>Vpv (hO x hx)⟩ (Vpu hO) (by rw[e];exact λx hx=>(wf_phx x (h.wf x hx)).2) (by rw[e];exact λx hx=>wf_php x (h.wf x hx) (hm x hx));rwa[e]at this
end
section
open Go Go.Eng
section
variable {s:A} {i:I}
def Wd.kids{k:I}{t d ti:A}{a:Ym}{ks:L Zg}(h:WI (mkI k t d ti a ks))(h1:∀ x∈ks,Wd x)(h2:AdW ks):Wd (mkI k t d ti a ks):=Vad.2 ⟨⟨h,h2⟩,h1⟩
def BW(s:A)(r:BkR):Prop:=r.2.2=D->Wd r.1/\(6<=r.1.fKind/\r.1.fKind<=11)/\Bn s r.2.1
def bkG_w(hz:Bn s 0)(h:Bn s i)(refs:I)(b:Xg){ks:L Zg}(h1:∀ x∈ks,Wd x)(h2:AdW ks):BW s (bkG s refs b ks i):=by
 have no:∀ x j,BW s (x,j,R):=λx j e=>by cases e
 unfold bkG;refine Va5 (BW s) (λq=>?_) (λ_=>?_)
 ·obtain⟨l1,l2⟩:=tlM_q h q;unfold bkT;refine Va5 (BW s) (λ_=>Va5 (BW s) (λ_=>no _ _) (λ_ _=>⟨.kids (.ln _ _ _ _ l1) h1 h2,⟨by show(6:I)<=9;decide,by show(9:I)<=11;decide⟩,l2⟩)) (λ_=>Va5 (BW s) (λq2 _=>?_) (λ_ _=>⟨.kids (.im _ _ _ _ _ l1 AOk.z) h1 h2,⟨by show(6:I)<=10;decide,by show(10:I)<=11;decide⟩,l2⟩));obtain⟨a1,a2⟩:=prsA_q hz l2 (eq_of_beq q2);exact⟨.kids (.im _ _ _ _ _ l1 a1) h1 h2,⟨by show(6:I)<=10;decide,by show(10:I)<=11;decide⟩,a2⟩
 ·unfold bkN;refine Va5 (BW s) (λ_=>no _ _) (λ_=>Va5 (BW s) (λq e=>?_) (λ_=>Va5 (BW s) (λ_=>no _ _) (λq _=>?_)))
  ·obtain⟨k1,k2⟩:=ephI_q h (Y7.1 q);have e:=Za e;exact⟨.kids (.em _ _ k1 (λe2=>by rw[e2]at e;simp at e)) h1 h2,by show 6<=(ephI s i).1/\(ephI s i).1<=11;omega,k2⟩
  ·obtain⟨q1,q2⟩:=Va8 q;obtain⟨a1,a2⟩:=prsA_q hz h (Va7 q1);exact⟨.kids (.sp _ _ a1 q2) h1 h2,⟨by show(6:I)<=11;decide,by show(11:I)<=11;decide⟩,a2⟩
end
structure RdW (s:A) (a:RS):Prop where
 bn:Bn s a.i
 wf:∀ v,v<a.els.length->((v:E):I) ∉ a.brs->EW (el a.els v)
 nb:NB (a.els.map isCe++[Zf (Y s a.i.toNat=96)])
 op:∀ f∈a.brs,isCe (el a.els f.toNat)=R
def EW.txt{t:A}(h0:0<t.size)(h:CL t):EW (txtE t):=.inr ⟨rfl,rfl,.leaf (.tx 1 t (.inl rfl) h0 h) rfl⟩
def sgn_cl(b:Zv):0<(sgnI b).size/\CL (sgnI b):=by
 cases b
 ·exact⟨gj,cl_lit 91 gj⟩
 ·refine⟨gj,CL.as λk hk=>?_⟩;have hk:k<2:=hk;rcases(by omega:k=0\/k=1)with rfl|rfl <;>decide
def NB_ss{X:L Zv}{c b b':Zv}(h:NB (X++[b]))(hc:c=D->b=D/\b'=R):NB ((X++[c])++[b']):=by
 cases c with
 |false=>rw[Yj];exact(Veq X [b']).2 ⟨Vmi _ _ h,Zy⟩
 |true=>
  obtain⟨rfl,rfl⟩:=hc rfl;exact NB_tt _ h
def RdW.snoc{s:A}{a:RS}(hB:∀ f∈a.brs,0<=f/\f<a.els.length)(h:RdW s a){i:I}{e:Xg}{bs:L I}{r:I}(hi:Bn s i)(he:isCe e=D->Y s a.i.toNat=96/\(i<s.size->Y s i.toNat≠96))(hb:(bs=a.brs/\EW e)\/(bs=a.brs++[((a.els.length:E):I)]/\isCe e=R)):RdW s ⟨i,a.els++[e],bs,r⟩:=by
 refine⟨hi,λv h1 h2=>?_,?_,λf hf=>?_⟩
 ·have h1:v<(a.els++[e]).length:=h1
  show EW (el (a.els++[e]) v);rw[Z8,Zw]at h1
  by_cases hv:v<a.els.length
  ·rw[Vhe hv];refine h.wf v hv (λq=>h2 ?_);rcases hb with⟨rfl,_⟩|⟨rfl,_⟩
   ·exact q
   ·exact Yw _ q
  ·obtain rfl:v=a.els.length:=kv;rw[Vnn];rcases hb with⟨_,q⟩|⟨rfl,_⟩
   ·exact q
   ·exact Zz (Yt _ (Zm.2 rfl)) h2
 ·show NB ((a.els++[e]).map isCe++[Zf (Y s i.toNat=96)]);rw[Yg];refine NB_ss h.nb (λq=>?_);obtain⟨u1,u2⟩:=he q;refine⟨Z2 u1,Yq (λe=>?_)⟩;have:=Vm3 (s:=s) (k:=i.toNat) kv;have:=hi.1;exact u2 kv e
 ·show isCe (el (a.els++[e]) f.toNat)=R;have old:∀ f∈a.brs,isCe (el (a.els++[e]) f.toNat)=false:=λf hf=>by
   have:=hB f hf;rw[Vhe kv];exact h.op f hf
  rcases hb with⟨rfl,_⟩|⟨rfl,q⟩
  ·exact old f hf
  ·rcases Z7.1 hf with hf|hf
   ·exact old f hf
   ·rw[Zm.1 hf,Zr,Vnn];exact q
def map_set{els:L Xg}{f:E}{x:Xg}(h1:isCe x=R)(h2:isCe (el els f)=R)(hf:f<els.length):(els.set f x).map isCe=els.map isCe:=by
 rw[List.map_set,h1];apply List.ext_getElem?;intro j;rw[List.getElem?_set]
 split
 ·rename_i e;subst e;rw[Yu (by rw[Z1];exact hf),Ya];unfold el at h2;rw[Ze hf]at h2 ⊢
  show some R=some (isCe els[f]);rw[show isCe els[f]=R from h2]
 ·rfl
section
variable {s:A} {n:E} {a:RS}
def cls_w(hz:Bn s 0)(hs:s.size<=820)(hI:RdI s n a)(hlt:a.i<s.size)(hb:Bn s (a.i+1))(h:RdW s a):RdW s (clsG s a (a.i+1)):=by
 have hi0:=hI.i0;have clo:EW (inE (txI CLO)):=EW.txt gj (cl_lit 93 gj);have cl0:isCe (inE (txI CLO))=false:=rfl;cases hg:a.brs.getLast? with
 |none=>
  have hb0:a.brs=[]:=List.getLast?_eq_none_iff.1 hg;have hc:clsG s a (a.i+1)=⟨a.i+1,a.els++[inE (txI CLO)],[],a.refs⟩:=by unfold clsG;rw[hg]
  rw[hc];exact h.snoc hI.brs hb (λe=>by rw[cl0]at e;cases e) (.inl ⟨hb0.symm,clo⟩)
 | some f=>
  have hbs:=Vlf hg;have hfm:f∈a.brs:=by rw[hbs];simp
  have hf:=hI.brs f hfm;have hbm:∀ x∈a.brs.dropLast,0<=x/\x<f:=λx hx=>by
   have h1:=hI.asc;rw[hbs,List.pairwise_append]at h1;exact⟨(hI.brs x (Yd _ hx)).1,h1.2.2 x hx f ku⟩
  have hnm:∀ v:E,((v:E):I) ∉ a.brs.dropLast->(v:I)≠f->((v:E):I) ∉ a.brs:=λv h1 h2 q=>by
   rw[hbs]at q;rcases Z7.1 q with q|q
   ·exact h1 q
   ·exact h2 (Zm.1 q)
  obtain⟨N1,_,_⟩:=hI.nsg hs (f.toNat+1) (a.els.length-(f.toNat+1)) kv;have hnb:=Vmi _ _ h.nb
  have hN:=nstG_WD N1 (λk hk=>h.wf _ kv (hnm _ (λq=>by have:=hbm _ q;omega) kv)) (λk hk=>by
   have:=NB_at (j:=f.toNat+1+k) hnb (by rw[Z1];omega);have e:∀ j,j<a.els.length->(a.els.map isCe).getD j R=isCe (el a.els j):=λj hj=>by
    rw[Zc,Ya];unfold el;rw[Ze hj];rfl
   rw[e _ kv,e _ kv]at this
   exact this)
  have hO:=bkG_w hz hb a.refs (el a.els f.toNat) hN.1 hN.2;have hc:clsG s a (a.i+1)=K (bkO s a f.toNat (a.i+1)).2.2 (yesE a f.toNat a.brs.dropLast (bkO s a f.toNat (a.i+1))) (noE a f.toNat a.brs.dropLast (a.i+1)):=by unfold clsG;rw[hg]
  rw[hc];obtain⟨r,hr⟩:∃ r,r=bkO s a f.toNat (a.i+1):=⟨_,rfl⟩
  rw[<-hr];unfold bkO at hr;rw[<-hr]at hO;obtain⟨x,j,ok⟩:=r;cases ok with
  | true=>
   rw[Zq];obtain⟨w1,w2,w3⟩:=hO rfl;have hxe:isCe (inE x)=false:=by
    show(x.fKind==4)=R;simpa using(by have:6<=x.fKind:=w2.1;omega:¬ x.fKind=4)
   have htk:(a.els.take f.toNat).length=f.toNat:=by rw[Y5];omega
   refine⟨w3,λv h1 h2=>?_,?_,λg hg=>?_⟩
   ·have h1:v<(a.els.take f.toNat++[inE x]).length:=h1
    show EW (el (a.els.take f.toNat++[inE x]) v);rw[Z8,htk,Zw]at h1
    by_cases hv:v<f.toNat
    ·rw[Vhe kv,Vpb hv];exact h.wf v kv (hnm v h2 kv)
    ·have ev:v=(a.els.take f.toNat).length:=kv;rw[ev,Vnn];exact .inr ⟨rfl,rfl,w1⟩
   ·show NB ((a.els.take f.toNat++[inE x]).map isCe++_);rw[Yg]
    show NB ((_++[isCe (inE x)])++_);rw[hxe,Yj];refine(Veq _ _).2 ⟨?_,Zy⟩;rw[List.map_take];have:=hnb;rw[<-Ys f.toNat (a.els.map isCe)]at this;exact Vmi _ _ this
   ·have hgb:=hbm g hg
    show isCe (el (a.els.take f.toNat++[inE x]) g.toNat)=R;rw[Vhe kv,Vpb kv];exact h.op g (Yd _ hg)
  | false=>
   rw[Zl];obtain⟨t1,t2⟩:=sgn_cl (el a.els f.toNat).fimage;have hset:RdW s ⟨a.i,a.els.set f.toNat (txtE (sgnI (el a.els f.toNat).fimage)),a.brs.dropLast,a.refs⟩:=by
    refine⟨h.bn,λv h1 h2=>?_,?_,λg hg=>?_⟩
    ·have h1:v<(a.els.set f.toNat (txtE (sgnI (el a.els f.toNat).fimage))).length:=h1;rw[Yr]at h1
     show EW (el (a.els.set f.toNat (txtE (sgnI (el a.els f.toNat).fimage))) v)
     by_cases hv:v=f.toNat
     ·subst hv;have e:el (a.els.set f.toNat (txtE (sgnI (el a.els f.toNat).fimage))) f.toNat=txtE (sgnI (el a.els f.toNat).fimage):=by
       conv=>lhs;unfold el
       rw[Z9 kv];rfl
      rw[e];exact EW.txt t1 t2
     ·rw[Vjd hv];exact h.wf v h1 (hnm v h2 kv)
    ·show NB ((a.els.set f.toNat _).map isCe++_);rw[map_set rfl (h.op f hfm) kv];exact h.nb
    ·have hgb:=hbm g hg
     show isCe (el (a.els.set f.toNat _) g.toNat)=R;rw[Vjd kv];exact h.op g (Yd _ hg)
   exact hset.snoc (λg hg=>by have:=hbm g hg;show 0<=g/\g<(((a.els.set f.toNat (txtE (sgnI (el a.els f.toNat).fimage))).length:E):I);rw[Yr];omega) hb (λe=>by rw[cl0]at e;cases e) (.inl ⟨rfl,clo⟩)
def step_w(hz:Bn s 0)(hs:s.size<=820)(hI:RdI s n a)(hlt:a.i<s.size)(h:RdW s a):RdW s (pieG s a (pcQ s a.i)):=by
 obtain⟨_,_,h3⟩:=pcQ_ok hI hlt;obtain⟨p1,p2,p3,p4,p5⟩:=pcQ_w hs h.bn hlt;obtain⟨p,hpq⟩:∃ p,p=pcQ s a.i:=⟨_,rfl⟩
 rw[<-hpq]at p1 p2 p3 p4 p5 h3 ⊢;unfold pieG;cases k1:(p.fKind==1)with
 |true=>
  rw[Zq];exact h.snoc hI.brs p1 (λe=>by cases e) (.inl ⟨rfl,.inl ⟨rfl,p3 (eq_of_beq k1)⟩⟩)
 | false=>
  rw[Zl];cases k2:(p.fKind==2)with
  |true=>
   rw[Zq];exact h.snoc hI.brs p1 (λe=>by cases e) (.inr ⟨rfl,rfl⟩)
  | false=>
   rw[Zl];cases k3:(p.fKind==3)with
   |true=>
    have e:=h3 (eq_of_beq k3);rw[Zq,e];rw[e]at p1;exact cls_w hz hs hI hlt p1 h
   |false=>
    rw[Zl];have:=Zk k1;have:=Zk k2;have:=Zk k3;obtain⟨w1,w2⟩:=p4 kv;exact h.snoc hI.brs p1 (λe=>p5 (eq_of_beq e)) (.inl ⟨rfl,.inr ⟨rfl,rfl,.leaf w1 w2⟩⟩)
end
def runG_w{s:A}(hz:Bn s 0)(hs:s.size<=820):∀(k n:E)(a:RS),RdI s n a->RdW s a->RdW s (runG s k a)
 |0,n,a,_,h=>h
 |k+1,n,a,hI,h=>by
  rw[runG]
  by_cases hlt:a.i<s.size
  ·rw[Z2 hlt,Zq];exact runG_w hz hs k (n+1) _ (Vod hs hI hlt).1 (step_w hz hs hI hlt h)
  ·rw[Yq hlt,Zl];exact h
def fixG_w:∀(brs:L I)(els:L Xg),(∀v,v<els.length->((v:E):I) ∉ brs->EW (el els v))->(∀f∈brs,(0<=f/\f<els.length)/\isCe (el els f.toNat)=R)->NB (els.map isCe)->(∀v,v<(fixG els brs).length->EW (el (fixG els brs) v))/\NB ((fixG els brs).map isCe)
 |[],els,h1,_,h3=>⟨λv hv=>h1 v hv ku,h3⟩
 | k::brs,els,h1,h2,h3=>by
  have hk:=h2 k ku;obtain⟨t1,t2⟩:=sgn_cl (el els k.toNat).fimage;have hsz:(fixE els k).length=els.length:=Yr ..;have hne:∀ v,v≠k.toNat->el (fixE els k) v=el els v:=λv hv=>Vjd hv
  have heq:el (fixE els k) k.toNat=txtE (sgnI (el els k.toNat).fimage):=by
   conv=>lhs;unfold el fixE
   rw[Z9 kv];rfl
  refine fixG_w brs (fixE els k) (λv hv hn=>?_) (λf hf=>?_) ?_
  ·by_cases hvk:v=k.toNat
   ·rw[hvk,heq];exact EW.txt t1 t2
   ·rw[hne v hvk];refine h1 v kv (λq=>?_);rcases Yc.1 q with q|q
    ·omega
    ·exact hn q
  ·have:=h2 f (by simp[hf]);refine⟨by rw[hsz];exact this.1,?_⟩
   by_cases hfk:f.toNat=k.toNat
   ·rw[hfk,heq];rfl
   ·rw[hne _ hfk];exact this.2
  ·show NB ((els.set k.toNat _).map isCe);rw[map_set rfl hk.2 kv];exact h3
def readM_w2(s:A)(hz:Bn s 0)(hs:s.size<=820):LnW (Vfy s):=by
 obtain⟨m,hR,_⟩:=Voo hs s.size 0 ⟨0,[],[],0⟩ (RdI_0 s) kv;have hW:RdW s (endG s):=runG_w hz hs s.size 0 ⟨0,[],[],0⟩ (RdI_0 s) ⟨hz,λv hv=>Zz hv (Zx _),Zy,λf hf=>(by cases hf)⟩;have hX:=Vlr hR _ (Zs _);rw[List.take_length]at hX;obtain⟨g1,_,_⟩:=hX.nsg hs hR (Zs _);obtain⟨e1,e2⟩:=fixG_w (endG s).brs (endG s).els hW.wf (λf hf=>⟨hR.brs f hf,hW.op f hf⟩) (Vmi _ _ hW.nb)
 have hN:=nstG_WD (g1:NsG (elsG s) 0 (elsG s).length) (λk hk=>by rw[Y1];exact e1 k hk) (λk hk=>by
  have:=NB_at (l:=(elsG s).map isCe) (j:=k) e2 (by rw[Z1];exact hk);have e:∀ j,j<(elsG s).length->((elsG s).map isCe).getD j R=isCe (el (elsG s) j):=λj hj=>by
   rw[Zc,Ya];unfold el;rw[Ze hj];rfl
  rw[e _ (Nat.lt_of_succ_lt hk),e _ hk]at this;rw[Y1,Y1]
  exact this)
 exact obM_w2 (λx hx=>by
  obtain⟨y,hy,rfl⟩:=Vg1 hx
  exact ibI_WF y (hN.1 y hy)) (adj_ib0 hN.2)
end
section
open Go Go.Eng
def moreI(s:A)(i:I)(low:I)(high:I):Int:=K (K (K (Zf ((i:I)>=((Zp s:E):I))) D (Zf ((IntKind.i64.wrap ((Y s (O i):E):I):I)<low))) D (Zf ((IntKind.i64.wrap ((Y s (O i):E):I):I)>high))) (-1) ((IntKind.i64.wrap ((Y s (O i):E):I))-128)
def Vgn(s:A)(i:I)(low:I)(high:I)(hs:s.size<=1073741824)(h0:0<=i):Va1 Zi 115 [(jS s),(jI i),(jI low),(jI high)] [] [] (jI (moreI s i low high)) [] []:=by
 refine Xi (λr:I=>(jI r)) (moreI s i low high) Tryz.func115 kx ?_;refine UF (moreI.eq_1 ..) ?_;refine gO (tn 6<|kj (Zf ((i:I)>=((Zp s:E):I))) z (m9 (λh=>by have j0:=h.2;have j0p:=Zb j0;exact(ib s i kv)) i6)<|m7 (K (Zf ((i:I)>=((Zp s:E):I))) D (Zf ((IntKind.i64.wrap ((Y s (O i):E):I):I)<low))) z (m9 (λh=>by have j0:=h.2;obtain⟨j0a,j0o⟩:=Va8 j0;have j0ap:=Zb j0a;have j0op:=Zb j0o;exact(ib s i kv)) i6) z) ?_;refine CS (λh1=>?_) (λh1=>?_)
 ·refine gO (kb h1 m5) ?_;exact EN kx
 ·obtain⟨h1a,h1o⟩:=Va8 h1;obtain⟨h1aa,h1ao⟩:=Va8 h1a;have h1aap:=Zb h1aa;have h1aop:=Zb h1ao;have h1op:=Zb h1o;have:=Vbm s (O i);have:=Vcm s (O i);refine gO (kb h1<|p7 (ib s i kv)<|m6 (wrE ((IntKind.i64.wrap ((Y s (O i):E):I))-128) ((IntKind.i64.wrap ((Y s (O i):E):I))-128) kv) m5) ?_;exact EN kx
def cleanB(c:I):Bool:=K ((c:I)==10) D (K (Zf ((c:I)>=32)) ((c:I) !=127) R)
def cleanB_to(c:I):Va1 Zi 40 [(jI c)] [] [] (jB (cleanB c)) [] []:=by
 refine Xi (λr:Zv=>(jB r)) (cleanB c) Tryz.func40 kx ?_;refine UF (cleanB.eq_1 ..) ?_;refine gO (j8 ((c:I)==10) z (t7 (Zf ((c:I)>=32)) j6 z z) m5) ?_;exact EN kx
def Vc2(s:A)(i low high:I): -128<=moreI s i low high/\moreI s i low high<=127:=by
 have h1:=Vbm s i.toNat;have h2:=Vcm s i.toNat
 unfold moreI;rw[Z4];split <;>omega
def threeP(s:A)(i:I):DPoint:=K (K (Zf ((moreI s (i+1) (K ((IntKind.i64.wrap ((Y s (O i):E):I):I)==224) 160 128) (K ((IntKind.i64.wrap ((Y s (O i):E):I):I)==237) 159 191):I)<0)) D (Zf ((moreI s (i+2) 128 191:I)<0))) (Z3 65533 1) (Z3 (((((IntKind.i64.wrap ((Y s (O i):E):I))-224)*4096)+((moreI s (i+1) (K ((IntKind.i64.wrap ((Y s (O i):E):I):I)==224) 160 128) (K ((IntKind.i64.wrap ((Y s (O i):E):I):I)==237) 159 191))*64))+(moreI s (i+2) 128 191)) 3)
def threeP_to(s:A)(i:I)(hs:s.size<=1073741824)(h0:0<=i)(h1:i<s.size):Va1 Zi 116 [(jS s),(jI i)] [] [] (.av (Vi9 (threeP s i))) [] []:=by
 refine Xi (λr:Yb=>(.av (Vi9 r))) (threeP s i) Tryz.func116 kx ?_;refine UF (threeP.eq_1 ..) ?_;have:=Vbm s (O i);have:=Vcm s (O i);have:=Vgb ((IntKind.i64.wrap ((Y s (O i):E):I):I)==224) 160 128;have:=Vgb ((IntKind.i64.wrap ((Y s (O i):E):I):I)==237) 159 191;have:=Vc2 s (i+1) (K ((IntKind.i64.wrap ((Y s (O i):E):I):I)==224) 160 128) (K ((IntKind.i64.wrap ((Y s (O i):E):I):I)==237) 159 191);have:=Vc2 s (i+2) 128 191;refine gO (qq (ib s i kv)<|tn 6<|ks ((IntKind.i64.wrap ((Y s (O i):E):I):I)==224) [6] m5 z<|tn 2<|ks ((IntKind.i64.wrap ((Y s (O i):E):I):I)==237) [7] m5 z<|p8 (wrE (i+1) (i+1) kv)<|j7 (Vgn s (i+1) (K ((IntKind.i64.wrap ((Y s (O i):E):I):I)==224) 160 128) (K ((IntKind.i64.wrap ((Y s (O i):E):I):I)==237) 159 191) ky ky)<|t8 (wrE (i+2) (i+2) kv)<|kc (Vgn s (i+2) 128 191 ky ky)<|j8 (Zf ((moreI s (i+1) (K ((IntKind.i64.wrap ((Y s (O i):E):I):I)==224) 160 128) (K ((IntKind.i64.wrap ((Y s (O i):E):I):I)==237) 159 191):I)<0)) z j6 z) ?_;refine CS (λh1=>?_) (λh1=>?_)
 ·refine gO (kb h1 j6) ?_;exact EN kx
 ·obtain⟨h1a,h1o⟩:=Va8 h1;have h1ap:=Zb h1a;have h1op:=Zb h1o;refine gO (kb h1<|m6 (wrE ((IntKind.i64.wrap ((Y s (O i):E):I))-224) ((IntKind.i64.wrap ((Y s (O i):E):I))-224) kv)<|kn (wrE (((IntKind.i64.wrap ((Y s (O i):E):I))-224)*4096) (((IntKind.i64.wrap ((Y s (O i):E):I))-224)*4096) kv)<|m6 (wrE ((moreI s (i+1) (K ((IntKind.i64.wrap ((Y s (O i):E):I):I)==224) 160 128) (K ((IntKind.i64.wrap ((Y s (O i):E):I):I)==237) 159 191))*64) ((moreI s (i+1) (K ((IntKind.i64.wrap ((Y s (O i):E):I):I)==224) 160 128) (K ((IntKind.i64.wrap ((Y s (O i):E):I):I)==237) 159 191))*64) kv)<|kn (wrE ((((IntKind.i64.wrap ((Y s (O i):E):I))-224)*4096)+((moreI s (i+1) (K ((IntKind.i64.wrap ((Y s (O i):E):I):I)==224) 160 128) (K ((IntKind.i64.wrap ((Y s (O i):E):I):I)==237) 159 191))*64)) ((((IntKind.i64.wrap ((Y s (O i):E):I))-224)*4096)+((moreI s (i+1) (K ((IntKind.i64.wrap ((Y s (O i):E):I):I)==224) 160 128) (K ((IntKind.i64.wrap ((Y s (O i):E):I):I)==237) 159 191))*64)) kv)<|m6 (wrE (((((IntKind.i64.wrap ((Y s (O i):E):I))-224)*4096)+((moreI s (i+1) (K ((IntKind.i64.wrap ((Y s (O i):E):I):I)==224) 160 128) (K ((IntKind.i64.wrap ((Y s (O i):E):I):I)==237) 159 191))*64))+(moreI s (i+2) 128 191)) (((((IntKind.i64.wrap ((Y s (O i):E):I))-224)*4096)+((moreI s (i+1) (K ((IntKind.i64.wrap ((Y s (O i):E):I):I)==224) 160 128) (K ((IntKind.i64.wrap ((Y s (O i):E):I):I)==237) 159 191))*64))+(moreI s (i+2) 128 191)) kv) j6) ?_;exact EN kx
def fourP(s:A)(i:I):DPoint:=K (K (K (Zf ((moreI s (i+1) (K ((IntKind.i64.wrap ((Y s (O i):E):I):I)==240) 144 128) (K ((IntKind.i64.wrap ((Y s (O i):E):I):I)==244) 143 191):I)<0)) D (Zf ((moreI s (i+2) 128 191:I)<0))) D (Zf ((moreI s (i+3) 128 191:I)<0))) (Z3 65533 1) (Z3 ((((((IntKind.i64.wrap ((Y s (O i):E):I))-240)*262144)+((moreI s (i+1) (K ((IntKind.i64.wrap ((Y s (O i):E):I):I)==240) 144 128) (K ((IntKind.i64.wrap ((Y s (O i):E):I):I)==244) 143 191))*4096))+((moreI s (i+2) 128 191)*64))+(moreI s (i+3) 128 191)) 4)
def fourP_to(s:A)(i:I)(hs:s.size<=1073741824)(h0:0<=i)(h1:i<s.size):Va1 Zi 117 [(jS s),(jI i)] [] [] (.av (Vi9 (fourP s i))) [] []:=by
 refine Xi (λr:Yb=>(.av (Vi9 r))) (fourP s i) Tryz.func117 kx ?_;refine UF (fourP.eq_1 ..) ?_;have:=Vbm s (O i);have:=Vcm s (O i);have:=Vgb ((IntKind.i64.wrap ((Y s (O i):E):I):I)==240) 144 128;have:=Vgb ((IntKind.i64.wrap ((Y s (O i):E):I):I)==244) 143 191;have:=Vc2 s (i+1) (K ((IntKind.i64.wrap ((Y s (O i):E):I):I)==240) 144 128) (K ((IntKind.i64.wrap ((Y s (O i):E):I):I)==244) 143 191);have:=Vc2 s (i+2) 128 191;have:=Vc2 s (i+3) 128 191;refine gO (qq (ib s i kv)<|tn 6<|ks ((IntKind.i64.wrap ((Y s (O i):E):I):I)==240) [6] m5 z<|tn 2<|ks ((IntKind.i64.wrap ((Y s (O i):E):I):I)==244) [7] m5 z<|p8 (wrE (i+1) (i+1) kv)<|j7 (Vgn s (i+1) (K ((IntKind.i64.wrap ((Y s (O i):E):I):I)==240) 144 128) (K ((IntKind.i64.wrap ((Y s (O i):E):I):I)==244) 143 191) ky ky)<|t8 (wrE (i+2) (i+2) kv)<|kc (Vgn s (i+2) 128 191 ky ky)<|t8 (wrE (i+3) (i+3) kv)<|kc (Vgn s (i+3) 128 191 ky ky)<|j8 (Zf ((moreI s (i+1) (K ((IntKind.i64.wrap ((Y s (O i):E):I):I)==240) 144 128) (K ((IntKind.i64.wrap ((Y s (O i):E):I):I)==244) 143 191):I)<0)) z j6<|m7 (K (Zf ((moreI s (i+1) (K ((IntKind.i64.wrap ((Y s (O i):E):I):I)==240) 144 128) (K ((IntKind.i64.wrap ((Y s (O i):E):I):I)==244) 143 191):I)<0)) D (Zf ((moreI s (i+2) 128 191:I)<0))) z j6 z) ?_;refine CS (λh1=>?_) (λh1=>?_)
 ·refine gO (kb h1 j6) ?_;exact EN kx
 ·obtain⟨h1a,h1o⟩:=Va8 h1;obtain⟨h1aa,h1ao⟩:=Va8 h1a;have h1aap:=Zb h1aa;have h1aop:=Zb h1ao;have h1op:=Zb h1o;refine gO (kb h1<|m6 (wrE ((IntKind.i64.wrap ((Y s (O i):E):I))-240) ((IntKind.i64.wrap ((Y s (O i):E):I))-240) kv)<|kn (wrE (((IntKind.i64.wrap ((Y s (O i):E):I))-240)*262144) (((IntKind.i64.wrap ((Y s (O i):E):I))-240)*262144) kv)<|m6 (wrE ((moreI s (i+1) (K ((IntKind.i64.wrap ((Y s (O i):E):I):I)==240) 144 128) (K ((IntKind.i64.wrap ((Y s (O i):E):I):I)==244) 143 191))*4096) ((moreI s (i+1) (K ((IntKind.i64.wrap ((Y s (O i):E):I):I)==240) 144 128) (K ((IntKind.i64.wrap ((Y s (O i):E):I):I)==244) 143 191))*4096) kv)<|kn (wrE ((((IntKind.i64.wrap ((Y s (O i):E):I))-240)*262144)+((moreI s (i+1) (K ((IntKind.i64.wrap ((Y s (O i):E):I):I)==240) 144 128) (K ((IntKind.i64.wrap ((Y s (O i):E):I):I)==244) 143 191))*4096)) ((((IntKind.i64.wrap ((Y s (O i):E):I))-240)*262144)+((moreI s (i+1) (K ((IntKind.i64.wrap ((Y s (O i):E):I):I)==240) 144 128) (K ((IntKind.i64.wrap ((Y s (O i):E):I):I)==244) 143 191))*4096)) kv)<|m6 (wrE ((moreI s (i+2) 128 191)*64) ((moreI s (i+2) 128 191)*64) kv)<|kn (wrE (((((IntKind.i64.wrap ((Y s (O i):E):I))-240)*262144)+((moreI s (i+1) (K ((IntKind.i64.wrap ((Y s (O i):E):I):I)==240) 144 128) (K ((IntKind.i64.wrap ((Y s (O i):E):I):I)==244) 143 191))*4096))+((moreI s (i+2) 128 191)*64)) (((((IntKind.i64.wrap ((Y s (O i):E):I))-240)*262144)+((moreI s (i+1) (K ((IntKind.i64.wrap ((Y s (O i):E):I):I)==240) 144 128) (K ((IntKind.i64.wrap ((Y s (O i):E):I):I)==244) 143 191))*4096))+((moreI s (i+2) 128 191)*64)) kv)<|m6 (wrE ((((((IntKind.i64.wrap ((Y s (O i):E):I))-240)*262144)+((moreI s (i+1) (K ((IntKind.i64.wrap ((Y s (O i):E):I):I)==240) 144 128) (K ((IntKind.i64.wrap ((Y s (O i):E):I):I)==244) 143 191))*4096))+((moreI s (i+2) 128 191)*64))+(moreI s (i+3) 128 191)) ((((((IntKind.i64.wrap ((Y s (O i):E):I))-240)*262144)+((moreI s (i+1) (K ((IntKind.i64.wrap ((Y s (O i):E):I):I)==240) 144 128) (K ((IntKind.i64.wrap ((Y s (O i):E):I):I)==244) 143 191))*4096))+((moreI s (i+2) 128 191)*64))+(moreI s (i+3) 128 191)) kv) j6) ?_;exact EN kx
def atP(s:A)(i:I):DPoint:=K (Zf ((IntKind.i64.wrap ((Y s (O i):E):I):I)<128)) (Z3 (IntKind.i64.wrap ((Y s (O i):E):I)) 1) (K (K (Zf ((IntKind.i64.wrap ((Y s (O i):E):I):I)>=194)) (Zf ((IntKind.i64.wrap ((Y s (O i):E):I):I)<=223)) R) (K (Zf ((moreI s (i+1) 128 191:I)>=0)) (Z3 ((((IntKind.i64.wrap ((Y s (O i):E):I))-192)*64)+(moreI s (i+1) 128 191)) 2) (Z3 65533 1)) (K (K (Zf ((IntKind.i64.wrap ((Y s (O i):E):I):I)>=224)) (Zf ((IntKind.i64.wrap ((Y s (O i):E):I):I)<=239)) R) (threeP s i) (K (K (Zf ((IntKind.i64.wrap ((Y s (O i):E):I):I)>=240)) (Zf ((IntKind.i64.wrap ((Y s (O i):E):I):I)<=244)) R) (fourP s i) (Z3 65533 1))))
def atP_to(s:A)(i:I)(hs:s.size<=1073741824)(h0:0<=i)(h1:i<s.size):Va1 Zi 76 [(jS s),(jI i)] [] [] (.av (Vi9 (atP s i))) [] []:=by
 refine Xi (λr:Yb=>(.av (Vi9 r))) (atP s i) Tryz.func76 kx ?_;refine UF (atP.eq_1 ..) ?_;have:=Vbm s (O i);have:=Vcm s (O i);refine gO (qq (ib s i kv) n8) ?_;refine CSd (λh1p h1=>?_) (λh1p h1=>?_)
 ·refine gO (kb h1 i6) ?_;exact EN kx
 ·refine gO (kb h1<|t7 (Zf ((IntKind.i64.wrap ((Y s (O i):E):I):I)>=194)) j6 z m5) ?_;refine CS (λh2=>?_) (λh2=>?_)
  ·obtain⟨h2a,h2o⟩:=Va9 h2;have h2ap:=Za h2a;have h2op:=Za h2o;have:=Vc2 s (i+1) 128 191;refine gO (kb h2<|p8 (wrE (i+1) (i+1) kv)<|kc (Vgn s (i+1) 128 191 ky ky) i6) ?_;refine CSd (λh3p h3=>?_) (λh3p h3=>?_)
   ·refine gO (kb h3<|m6 (wrE ((IntKind.i64.wrap ((Y s (O i):E):I))-192) ((IntKind.i64.wrap ((Y s (O i):E):I))-192) kv)<|kn (wrE (((IntKind.i64.wrap ((Y s (O i):E):I))-192)*64) (((IntKind.i64.wrap ((Y s (O i):E):I))-192)*64) kv)<|m6 (wrE ((((IntKind.i64.wrap ((Y s (O i):E):I))-192)*64)+(moreI s (i+1) 128 191)) ((((IntKind.i64.wrap ((Y s (O i):E):I))-192)*64)+(moreI s (i+1) 128 191)) kv) j6) ?_;exact EN kx
   ·refine gO (kb h3 j6) ?_;exact EN kx
  ·refine gO (kb h2<|t7 (Zf ((IntKind.i64.wrap ((Y s (O i):E):I):I)>=224)) j6 z m5) ?_;refine CS (λh4=>?_) (λh4=>?_)
   ·obtain⟨h4a,h4o⟩:=Va9 h4;have h4ap:=Za h4a;have h4op:=Za h4o;refine gO (kb h4<|j7 (threeP_to s i ky ky ky) m5) ?_;exact EN kx
   ·refine gO (kb h4<|t7 (Zf ((IntKind.i64.wrap ((Y s (O i):E):I):I)>=240)) j6 z m5) ?_;refine CS (λh5=>?_) (λh5=>?_)
    ·obtain⟨h5a,h5o⟩:=Va9 h5;have h5ap:=Za h5a;have h5op:=Za h5o;refine gO (kb h5<|j7 (fourP_to s i ky ky ky) m5) ?_;exact EN kx
    ·refine gO (kb h5 j6) ?_;exact EN kx
def threeP_bd(s:A)(i:I):1<=(threeP s i).fN/\(threeP s i).fN<=4/\ -500000000<=(threeP s i).fC/\(threeP s i).fC<=500000000:=by
 have h1:=Vbm s i.toNat;have h2:=Vcm s i.toNat
 have:=Vc2 s (i+1) (bif IntKind.i64.wrap ((Y s i.toNat:E):I)==224 then 160 else 128) (bif IntKind.i64.wrap ((Y s i.toNat:E):I)==237 then 159 else 191);have:=Vc2 s (i+2) 128 191;unfold threeP;rw[Z4];split <;>simp only <;>omega
def fourP_bd(s:A)(i:I):1<=(fourP s i).fN/\(fourP s i).fN<=4/\ -500000000<=(fourP s i).fC/\(fourP s i).fC<=500000000:=by
 have h1:=Vbm s i.toNat;have h2:=Vcm s i.toNat
 have:=Vc2 s (i+1) (bif IntKind.i64.wrap ((Y s i.toNat:E):I)==240 then 144 else 128) (bif IntKind.i64.wrap ((Y s i.toNat:E):I)==244 then 143 else 191);have:=Vc2 s (i+2) 128 191;have:=Vc2 s (i+3) 128 191;unfold fourP;rw[Z4];split <;>simp only <;>omega
def atP_bd(s:A)(i:I):1<=(atP s i).fN/\(atP s i).fN<=4/\ -500000000<=(atP s i).fC/\(atP s i).fC<=500000000:=by
 have h1:=Vbm s i.toNat;have h2:=Vcm s i.toNat
 have:=Vc2 s (i+1) 128 191;have:=threeP_bd s i;have:=fourP_bd s i;unfold atP;simp only[Z4];repeat' split
 all_goals first|(simp only;omega)|omega
def points_L0(s:A):E->(L Yb)->I->L Yb
 |0,_,_=>default
 |n0+1,v3,v4=>K (Zf ((v4:I)<((Zp s:E):I))) (points_L0 s n0 (v3++([atP s v4])) (v4+((atP s v4).fN))) v3
def points(s:A):L DPoint:=points_L0 s ((s.size-O 0)+1) ([]) 0
def points_to(s:A)(hs:s.size<=1073741824):Va1 Zi 39 [(jS s)] [] [] (jL ((points s).map Vdt)) [] []:=by
 refine Xi (λr:L Yb=>(jL (r.map Vdt))) (points s) Tryz.func39 kx ?_;refine UF (points.eq_1 ..) ?_;refine gO i6 ?_;refine LP (λN M S=>∃ gv3:E,∃v3:L Yb,∃v4:I,(0<=v4)/\((v3.length:I)<=v4)/\(s.size-O v4<N)/\M=points_L0 s N v3 v4/\S=(sx 22 [(0,(jS s)),(3,(.own (203,87) gv3 2 (v3.map Vdt))),(4,(jI v4))] [] [((203,87),gv3)])) kx ⟨0,_,_,by first|omega|assumption|(simp only[Va6];omega)|(simp;done)|(simp;omega),by first|omega|assumption|(simp only[Va6];omega)|(simp;done)|(simp;omega),kv,rfl,rfl⟩ (WKf [(3,(.own (203,87) 0 2 (([]).map Vdt)))] (ac (show((([]).map Vdt):L AV)=[]/\0<87/\(0:E)=0 from⟨rfl,gj,rfl⟩) an) kx) ?_;rintro n0 M S ⟨gv3,v3,v4,hv,hl,hF0,rfl,rfl⟩;obtain⟨n0,rfl⟩:∃ k,n0=k+1:=⟨n0-1,kv⟩
 refine UF (points_L0.eq_2 ..) ?_;refine gO i7 ?_;refine CSd (λh1p h1=>?_) (λh1p h1=>?_)
 ·have:=atP_bd s v4;refine gO (kb h1<|j7 (atP_to s v4 ky ky ky)<|z8 (show Uni 2 [(Vi9 (atP s v4))]from(Vim rfl rfl))<|kp (show(gv3:E)=gv3/\Uni 2 [(Vi9 (atP s v4))]/\(((v3.map Vdt):L AV).length+([(Vi9 (atP s v4))]:L AV).length)*16<=140737488355328 from⟨rfl,Vim rfl rfl,by first|omega|(simp;done)|(simp;omega)⟩)<|kw (ap1 Vdt v3 (atP s v4))<|yq (wrE (v4+((atP s v4).fN)) (v4+((atP s v4).fN)) kv) m5) ?_;exact AG ⟨gv3+1,_,_,by first|omega|assumption|(simp only[Va6];omega)|(simp;done)|(simp;omega),by first|omega|assumption|(simp only[Va6];omega)|(simp;done)|(simp;omega),kv,rfl,rfl⟩ (WK kx) kx (Zj _)
 ·refine gO (kb h1 z) ?_;refine Xf j6 kx ?_;exact EN kx
def Vhu(s:A):∀(n:E)(acc:L Yb)(i:I),(acc.length:I)<=i->i<=s.size+4->((points_L0 s n acc i).length:I)<=s.size+4
 |0,acc,i,_,_=>by simp only[points_L0];show((([]:L Yb).length:E):I)<=_;simp;omega
 |n+1,acc,i,h1,h2=>by
  have hb:=atP_bd s i;rw[points_L0,Z4];split
  ·rename_i h;simp only[decide_eq_true_eq]at h;exact Vhu s n _ _ (by simp;omega) kv
  ·omega
def points_len(s:A)(hs:s.size<=1073741824):(points s).length<=1073741828:=by
 have:=Vhu s ((s.size-O 0)+1) [] 0 ku kv;unfold points;omega
def validB_L0(s:A):E->E->Zv
 |0,_=>default
 |n0+1,v8=>K (Zf (((v8:E):I)<((lenM Vdt (points s):E):I))) (K (K (!cleanB ((el (points s) v8).fC)) D (K (((el (points s) v8).fC:I)==65533) (((el (points s) v8).fN:I)==1) R)) R (validB_L0 s n0 (v8+1))) D
def validB(s:A):Bool:=validB_L0 s ((Zt (points s)-0)+1) 0
def validB_to(s:A)(hs:s.size<=1073741824):Va1 Zi 19 [(jS s)] [] [] (jB (validB s)) [] []:=by
 have hpl:=points_len s hs;refine Xi (λr:Zv=>(jB r)) (validB s) Tryz.func19 kx ?_;refine UF (validB.eq_1 ..) ?_;refine gO (j7 (points_to s ky) j6) ?_;refine LP (λN M S=>∃ v8:E,(Zt (points s)-v8<N)/\M=validB_L0 s N v8/\S=(sx 27 [(6,(jL ((points s).map Vdt))),(7,(jI ((lenM Vdt (points s):E):I))),(8,(jI ((v8:E):I)))] [] [])) kx ⟨_,kv,rfl,rfl⟩ (WK kx) ?_;rintro n0 M S ⟨v8,hF0,rfl,rfl⟩;obtain⟨n0,rfl⟩:∃ k,n0=k+1:=⟨n0-1,kv⟩
 refine UF (validB_L0.eq_2 ..) ?_;refine gO m5 ?_;refine CSd (λh1p h1=>?_) (λh1p h1=>?_)
 ·have:=Va6 Vdt (points s);refine gO (kb h1<|ke (el_aPoint (points s) v8 (by first|omega|(simp only[Va6,Z6];omega)))<|vq (cleanB_to ((el (points s) v8).fC))<|wq (!cleanB ((el (points s) v8).fC)) z (j8 (((el (points s) v8).fC:I)==65533) i6 z z) z) ?_;refine CS (λh2=>?_) (λh2=>?_)
  ·refine gO (kb h2 m5) ?_;refine Xf z kx ?_;exact EN kx
  ·obtain⟨h2a,h2o⟩:=Va8 h2;have h2an:=notf h2a;refine gO (kb h2<|kn (wrE (((v8:E):I)+1) ((v8+1:E):I) kv) m5) ?_;exact AG ⟨_,kv,rfl,rfl⟩ (WK kx) kx (Zj _)
 ·have:=Va6 Vdt (points s);refine gO (kb h1 z) ?_;refine Xf m5 kx ?_;exact EN kx
def smlT(s:A):Bool:=Zf (((Zp s:E):I)<=800)
def smlT_to(s:A):Va1 Zi 9 [(jS s)] [] [] (jB (smlT s)) [] []:=by
 refine Xi (λr:Zv=>(jB r)) (smlT s) Tryz.func9 kx ?_;refine UF (smlT.eq_1 ..) ?_;refine GO n8 kx ?_;exact EN kx
def kndB_L0(l:L Zg)(k:L I):E->E->Zv
 |0,_=>default
 |n0+1,v5=>K (Zf (((v5:E):I)<((lenM Va2 l:E):I))) (K (((el l v5).fKind:I) !=el k v5) R (kndB_L0 l k n0 (v5+1))) D
def kndB(l:L Zg)(k:L I):Bool:=K (((lenM Va2 l:E):I) !=((lenM vI k:E):I)) R (kndB_L0 l k ((Zt l-0)+1) 0)
def kndB_to(l:L Zg)(k:L I)(hl:l.length<=1073741824)(hk:k.length<=1073741824):Va1 Zi 16 [(jL (l.map Va2)),(jL (k.map vI))] [] [] (jB (kndB l k)) [] []:=by
 refine Xi (λr:Zv=>(jB r)) (kndB l k) Tryz.func16 kx ?_;refine UF (kndB.eq_1 ..) ?_;refine GO iq kx ?_;refine CSn (λh1p h1=>?_) (λh1p h1=>?_)
 ·have:=Va6 Va2 l;have:=Va6 vI k;refine GO (kb h1 m5) kx ?_;exact EN kx
 ·have:=Va6 Va2 l;have:=Va6 vI k;refine GO (kb h1 m5) kx ?_;refine LP (λN M S=>∃ v5:E,(Zt l-v5<N)/\M=kndB_L0 l k N v5/\S=(sx 27 [(0,(jL (l.map Va2))),(1,(jL (k.map vI))),(5,(jI ((v5:E):I)))] [] [])) kx ⟨_,kv,rfl,rfl⟩ (WK kx) ?_;rintro n0 M S ⟨v5,hF0,rfl,rfl⟩;obtain⟨n0,rfl⟩:∃ k,n0=k+1:=⟨n0-1,kv⟩
  refine UF (kndB_L0.eq_2 ..) ?_;refine GO i7 kx ?_;refine CSd (λh2p h2=>?_) (λh2p h2=>?_)
  ·have:=Va6 Va2 l;refine GO (kb h2 z) kx ?_;have d3:=(Vb0 l v5 (by first|omega|(simp only[Va6,Z6];omega)))
   have d4:=(el_vI k v5 (by first|omega|(simp only[Va6,Z6];omega)))
   refine DR3 (pq (eO d3)<|kp d3<|tn 4<|ko (eO d4)<|kp d4 j6) kx kx kx ?_;refine CSn (λh5p h5=>?_) (λh5p h5=>?_)
   ·refine GO (kb h5 m5) kx ?_;refine Xf z kx ?_;exact EN kx
   ·refine GO (kb h5<|m6 (wrE (((v5:E):I)+1) ((v5+1:E):I) kv) m5) kx ?_;exact AG ⟨_,kv,rfl,rfl⟩ (WK kx) kx (Zj _)
  ·have:=Va6 Va2 l;refine GO (kb h2 z) kx ?_;refine Xf m5 kx ?_;exact EN kx
def textsB_L0(a:L A)(b:L A):E->E->Zv
 |0,_=>default
 |n0+1,v5=>K (Zf (((v5:E):I)<((lenM Vak a:E):I))) (K (!eqs (el a v5) (el b v5)) R (textsB_L0 a b n0 (v5+1))) D
def textsB(a:L A)(b:L A):Bool:=K (((lenM Vak a:E):I) !=((lenM Vak b:E):I)) R (textsB_L0 a b ((Zt a-0)+1) 0)
def Vq2(a:L A)(b:L A)(ha:a.length<=1073741824)(hb:b.length<=1073741824):Va1 Zi 36 [(jL (a.map Vak)),(jL (b.map Vak))] [] [] (jB (textsB a b)) [] []:=by
 refine Xi (λr:Zv=>(jB r)) (textsB a b) Tryz.func36 kx ?_;refine UF (textsB.eq_1 ..) ?_;refine GO iq kx ?_;refine CSn (λh1p h1=>?_) (λh1p h1=>?_)
 ·have:=Va6 Vak a;have:=Va6 Vak b;refine GO (kb h1 m5) kx ?_;exact EN kx
 ·have:=Va6 Vak a;have:=Va6 Vak b;refine GO (kb h1 m5) kx ?_;refine LP (λN M S=>∃ v5:E,(Zt a-v5<N)/\M=textsB_L0 a b N v5/\S=(sx 26 [(0,(jL (a.map Vak))),(1,(jL (b.map Vak))),(5,(jI ((v5:E):I)))] [] [])) kx ⟨_,kv,rfl,rfl⟩ (WK kx) ?_;rintro n0 M S ⟨v5,hF0,rfl,rfl⟩;obtain⟨n0,rfl⟩:∃ k,n0=k+1:=⟨n0-1,kv⟩
  refine UF (textsB_L0.eq_2 ..) ?_;refine GO i7 kx ?_;refine CSd (λh2p h2=>?_) (λh2p h2=>?_)
  ·have:=Va6 Vak a;refine GO (kb h2 z) kx ?_;have d3:=(Vi3 a v5 (by first|omega|(simp only[Va6,Z6];omega)))
   have d4:=(Vi3 b v5 (by first|omega|(simp only[Va6,Z6];omega)))
   refine DR3 (pq (eO d3)<|kp d3<|tn 3<|ko (eO d4)<|kp d4 j6) kx kx kx ?_;refine CS (λh5=>?_) (λh5=>?_)
   ·have h5n:=nott h5;refine GO (kb h5 m5) kx ?_;refine Xf z kx ?_;exact EN kx
   ·have h5n:=notf h5;refine GO (kb h5<|m6 (wrE (((v5:E):I)+1) ((v5+1:E):I) kv) m5) kx ?_;exact AG ⟨_,kv,rfl,rfl⟩ (WK kx) kx (Zj _)
  ·have:=Va6 Vak a;refine GO (kb h2 z) kx ?_;refine Xf m5 kx ?_;exact EN kx
def pairsB_L0(a:L Xb)(b:L Xb):E->E->Zv
 |0,_=>default
 |n0+1,v5=>K (Zf (((v5:E):I)<((lenM Vaz a:E):I))) (K (!(eqs ((el a v5).fKey) ((el b v5).fKey)&&(eqs ((el a v5).fValue) ((el b v5).fValue)&&D))) R (pairsB_L0 a b n0 (v5+1))) D
def pairsB(a:L Xb)(b:L Xb):Bool:=K (((lenM Vaz a:E):I) !=((lenM Vaz b:E):I)) R (pairsB_L0 a b ((Zt a-0)+1) 0)
def pairsB_to(a:L Xb)(b:L Xb)(ha:a.length<=1073741824)(hb:b.length<=1073741824):Va1 Zi 74 [(jL (a.map Vaz)),(jL (b.map Vaz))] [] [] (jB (pairsB a b)) [] []:=by
 refine Xi (λr:Zv=>(jB r)) (pairsB a b) Tryz.func74 kx ?_;refine UF (pairsB.eq_1 ..) ?_;refine GO iq kx ?_;refine CSn (λh1p h1=>?_) (λh1p h1=>?_)
 ·have:=Va6 Vaz a;have:=Va6 Vaz b;refine GO (kb h1 m5) kx ?_;exact EN kx
 ·have:=Va6 Vaz a;have:=Va6 Vaz b;refine GO (kb h1 m5) kx ?_;refine LP (λN M S=>∃ v5:E,(Zt a-v5<N)/\M=pairsB_L0 a b N v5/\S=(sx 26 [(0,(jL (a.map Vaz))),(1,(jL (b.map Vaz))),(5,(jI ((v5:E):I)))] [] [])) kx ⟨_,kv,rfl,rfl⟩ (WK kx) ?_;rintro n0 M S ⟨v5,hF0,rfl,rfl⟩;obtain⟨n0,rfl⟩:∃ k,n0=k+1:=⟨n0-1,kv⟩
  refine UF (pairsB_L0.eq_2 ..) ?_;refine GO i7 kx ?_;refine CSd (λh2p h2=>?_) (λh2p h2=>?_)
  ·have:=Va6 Vaz a;refine GO (kb h2 z) kx ?_;have d3:=(Vkb a v5 (by first|omega|(simp only[Va6,Z6];omega)))
   have d4:=(Vkb b v5 (by first|omega|(simp only[Va6,Z6];omega)))
   refine DR3 (pq (eO d3)<|kp d3<|tn 3<|ko (eO d4)<|kp d4 j6) kx kx kx ?_;refine CS (λh5=>?_) (λh5=>?_)
   ·have h5n:=nott h5;refine GO (kb h5 m5) kx ?_;refine Xf z kx ?_;exact EN kx
   ·have h5n:=notf h5;refine GO (kb h5<|m6 (wrE (((v5:E):I)+1) ((v5+1:E):I) kv) m5) kx ?_;exact AG ⟨_,kv,rfl,rfl⟩ (WK kx) kx (Zj _)
  ·have:=Va6 Vaz a;refine GO (kb h2 z) kx ?_;refine Xf m5 kx ?_;exact EN kx
def atsB(a:Ym)(b:Ym):Bool:=K (K (eqs a.fID b.fID) (textsB a.fClasses b.fClasses) R) (pairsB a.fPairs b.fPairs) R
def atsB_to(a:Ym)(b:Ym)(ha:Vfq a<=1073741824)(hb:Vfq b<=1073741824):Va1 Zi 35 [(.av (Vph a)),(.av (Vph b))] [] [] (jB (atsB a b)) [] []:=by
 have hwa:=Vcv a;have hwb:=Vcv b;have hw_0:=Vb9 (w:=wStr) Ves a.fClasses;have hw_1:=Vb9 (w:=Vhi) Vfp a.fPairs;have hw_2:=Vb9 (w:=wStr) Ves b.fClasses;have hw_3:=Vb9 (w:=Vhi) Vfp b.fPairs;refine Xi (λr:Zv=>(jB r)) (atsB a b) Tryz.func35 kx ?_;refine UF (atsB.eq_1 ..) ?_;refine GO (tn 9<|kj (eqs a.fID b.fID) (tn 4<|hc (λh=>by have j0:=h.2;exact(Vq2 a.fClasses b.fClasses ky ky)) z) z<|m7 (K (eqs a.fID b.fID) (textsB a.fClasses b.fClasses) R) (tn 4<|hc (λh=>by have j0:=h.2;obtain⟨j0a,j0o⟩:=Va9 j0;exact(pairsB_to a.fPairs b.fPairs ky ky)) z) z m5) kx ?_;exact EN kx
def samLS_L1(rec:(L Zg)->(L Zg)->Zv)(a:L Zg)(b:L Zg)(v5:E)(k0:E->Zv):E->E->Zv
 |0,_=>default
 |n1+1,w8=>K (Zf (((w8:E):I)<((lenM Vap ((el a v5).fCites):E):I))) (K (!(eqs ((el ((el a v5).fCites) w8).fKey) ((el ((el b v5).fCites) w8).fKey)&&(eqs ((el ((el a v5).fCites) w8).fPrefix) ((el ((el b v5).fCites) w8).fPrefix)&&(eqs ((el ((el a v5).fCites) w8).fSuffix) ((el ((el b v5).fCites) w8).fSuffix)&&(((el ((el a v5).fCites) w8).fBare==(el ((el b v5).fCites) w8).fBare)&&D))))) R (samLS_L1 rec a b v5 k0 n1 (w8+1))) (k0 (v5+1))
def samLS_L0(rec:(L Zg)->(L Zg)->Zv)(a:L Zg)(b:L Zg):E->E->Zv
 |0,_=>default
 |n0+1,v5=>K (Zf (((v5:E):I)<((lenM Va2 a:E):I))) (K (K (K (K (K (K (K (K (((el a v5).fKind:I) !=(el b v5).fKind) D (!eqs ((el a v5).fText) ((el b v5).fText))) D (!eqs ((el a v5).fDest) ((el b v5).fDest))) D (!eqs ((el a v5).fTitle) ((el b v5).fTitle))) D (!atsB ((el a v5).fAttr) ((el b v5).fAttr))) D (!textsB ((el a v5).fArgs) ((el b v5).fArgs))) D (((lenM Vap ((el a v5).fCites):E):I) !=((lenM Vap ((el b v5).fCites):E):I))) D (!rec ((el a v5).fKids) ((el b v5).fKids))) R (samLS_L1 rec a b v5 (samLS_L0 rec a b n0) ((Zt ((el a v5).fCites)-0)+1) 0)) D
def samLS(rec:(L Zg)->(L Zg)->Zv)(a:L Zg)(b:L Zg):Bool:=K (((lenM Va2 a:E):I) !=((lenM Va2 b:E):I)) R (samLS_L0 rec a b ((Zt a-0)+1) 0)
def samL_st(rec:(L Zg)->(L Zg)->Zv)(a:L Zg)(b:L Zg)(ha:wl Va4 a<=1073741824)(hb:wl Va4 b<=1073741824)(hrec:∀(a':L Zg)(b':L Zg),wl Va4 a'<wl Va4 a->wl Va4 a'<=1073741824->wl Va4 b'<=1073741824->Va1 Zi 13 [(jL ((a').map Va2)),(jL ((b').map Va2))] [] [] (jB (rec a' b')) [] []):Va1 Zi 13 [(jL (a.map Va2)),(jL (b.map Va2))] [] [] (jB (samLS rec a b)) [] []:=by
 have hw_0:=Vb9 (w:=Va4) Vaw a;have hw_1:=Vb9 (w:=Va4) Vaw b;refine Xi (λr:Zv=>(jB r)) (samLS rec a b) Tryz.func13 kx ?_;refine UF (samLS.eq_1 ..) ?_;refine GO iq kx ?_;refine CSn (λh1p h1=>?_) (λh1p h1=>?_)
 ·have:=Va6 Va2 a;have:=Va6 Va2 b;refine GO (kb h1 m5) kx ?_;exact EN kx
 ·have:=Va6 Va2 a;have:=Va6 Va2 b;refine GO (kb h1 m5) kx ?_;refine LP (λN M S=>∃ v5:E,(Zt a-v5<N)/\M=samLS_L0 rec a b N v5/\S=(sx 105 [(0,(jL (a.map Va2))),(1,(jL (b.map Va2))),(5,(jI ((v5:E):I)))] [] [])) kx ⟨_,kv,rfl,rfl⟩ (WK kx) ?_;rintro n0 M S ⟨v5,hF0,rfl,rfl⟩;obtain⟨n0,rfl⟩:∃ k,n0=k+1:=⟨n0-1,kv⟩
  refine UF (samLS_L0.eq_2 ..) ?_;refine GO i7 kx ?_;refine CSd (λh2p h2=>?_) (λh2p h2=>?_)
  ·have:=Va6 Va2 a;have hcea:=Vpx (w:=Va4) (l:=a) (i:=v5) kv;have hcwa:=Vao (el a v5);simp only[wStr,w1]at hcwa;have hceb:=Vpx (w:=Va4) (l:=b) (i:=v5) kv;have hcwb:=Vao (el b v5);simp only[wStr,w1]at hcwb;have hla0:=Vb9 (w:=wStr) Ves (el a v5).fArgs;have hla1:=Vb9 (w:=Vc8) Vgj (el a v5).fCites;have hlb0:=Vb9 (w:=wStr) Ves (el b v5).fArgs;have hlb1:=Vb9 (w:=Vc8) Vgj (el b v5).fCites;refine GO (kb h2 z) kx ?_;have d3:=(Vb0 a v5 (by first|omega|(simp only[Va6,Z6];omega)))
   have d4:=(Vb0 b v5 (by first|omega|(simp only[Va6,Z6];omega)))
   refine DR3 (pq (eO d3)<|kp d3<|tn 5<|ko (eO d4)<|kp d4<|kp d4<|tn 12<|kj (((el a v5).fKind:I) !=(el b v5).fKind) z n8<|m7 (K (((el a v5).fKind:I) !=(el b v5).fKind) D (!eqs ((el a v5).fText) ((el b v5).fText))) z n8<|m7 (K (K (((el a v5).fKind:I) !=(el b v5).fKind) D (!eqs ((el a v5).fText) ((el b v5).fText))) D (!eqs ((el a v5).fDest) ((el b v5).fDest))) z n8<|m7 (K (K (K (((el a v5).fKind:I) !=(el b v5).fKind) D (!eqs ((el a v5).fText) ((el b v5).fText))) D (!eqs ((el a v5).fDest) ((el b v5).fDest))) D (!eqs ((el a v5).fTitle) ((el b v5).fTitle))) z (tn 4<|hc (λh=>by have j0:=h.2;obtain⟨j0a,j0o⟩:=Va8 j0;obtain⟨j0aa,j0ao⟩:=Va8 j0a;obtain⟨j0aaa,j0aao⟩:=Va8 j0aa;have j0aaap:=Va7 j0aaa;have j0aaon:=notf j0aao;have j0aon:=notf j0ao;have j0on:=notf j0o;exact(atsB_to ((el a v5).fAttr) ((el b v5).fAttr) ky ky)) m5)<|m7 (K (K (K (K (((el a v5).fKind:I) !=(el b v5).fKind) D (!eqs ((el a v5).fText) ((el b v5).fText))) D (!eqs ((el a v5).fDest) ((el b v5).fDest))) D (!eqs ((el a v5).fTitle) ((el b v5).fTitle))) D (!atsB ((el a v5).fAttr) ((el b v5).fAttr))) z (tn 4<|hc (λh=>by have j0:=h.2;obtain⟨j0a,j0o⟩:=Va8 j0;obtain⟨j0aa,j0ao⟩:=Va8 j0a;obtain⟨j0aaa,j0aao⟩:=Va8 j0aa;obtain⟨j0aaaa,j0aaao⟩:=Va8 j0aaa;have j0aaaap:=Va7 j0aaaa;have j0aaaon:=notf j0aaao;have j0aaon:=notf j0aao;have j0aon:=notf j0ao;have j0on:=notf j0o;exact(Vq2 ((el a v5).fArgs) ((el b v5).fArgs) ky ky)) m5)<|m7 (K (K (K (K (K (((el a v5).fKind:I) !=(el b v5).fKind) D (!eqs ((el a v5).fText) ((el b v5).fText))) D (!eqs ((el a v5).fDest) ((el b v5).fDest))) D (!eqs ((el a v5).fTitle) ((el b v5).fTitle))) D (!atsB ((el a v5).fAttr) ((el b v5).fAttr))) D (!textsB ((el a v5).fArgs) ((el b v5).fArgs))) z lq<|m7 (K (K (K (K (K (K (((el a v5).fKind:I) !=(el b v5).fKind) D (!eqs ((el a v5).fText) ((el b v5).fText))) D (!eqs ((el a v5).fDest) ((el b v5).fDest))) D (!eqs ((el a v5).fTitle) ((el b v5).fTitle))) D (!atsB ((el a v5).fAttr) ((el b v5).fAttr))) D (!textsB ((el a v5).fArgs) ((el b v5).fArgs))) D (((lenM Vap ((el a v5).fCites):E):I) !=((lenM Vap ((el b v5).fCites):E):I))) z (tn 4<|hc (λh=>by have j0:=h.2;have:=Va6 Vap ((el a v5).fCites);have:=Va6 Vap ((el b v5).fCites);obtain⟨j0a,j0o⟩:=Va8 j0;obtain⟨j0aa,j0ao⟩:=Va8 j0a;obtain⟨j0aaa,j0aao⟩:=Va8 j0aa;obtain⟨j0aaaa,j0aaao⟩:=Va8 j0aaa;obtain⟨j0aaaaa,j0aaaao⟩:=Va8 j0aaaa;obtain⟨j0aaaaaa,j0aaaaao⟩:=Va8 j0aaaaa;have j0aaaaaap:=Va7 j0aaaaaa;have j0aaaaaon:=notf j0aaaaao;have j0aaaaon:=notf j0aaaao;have j0aaaon:=notf j0aaao;have j0aaon:=notf j0aao;have j0aon:=notf j0ao;have:=Va6 Vap ((el a v5).fCites);have:=Va6 Vap ((el b v5).fCites);have j0op:=Va7 j0o;exact(hrec ((el a v5).fKids) ((el b v5).fKids) ky ky ky)) m5) z) kx kx kx ?_;refine CS (λh5=>?_) (λh5=>?_)
   ·have:=Va6 Vap ((el a v5).fCites);have:=Va6 Vap ((el b v5).fCites);refine GO (kb h5 m5) kx ?_;refine Xf z kx ?_;exact EN kx
   ·have:=Va6 Vap ((el a v5).fCites);have:=Va6 Vap ((el b v5).fCites);obtain⟨h5a,h5o⟩:=Va8 h5;have:=Va6 Vap ((el a v5).fCites);have:=Va6 Vap ((el b v5).fCites);obtain⟨h5aa,h5ao⟩:=Va8 h5a;obtain⟨h5aaa,h5aao⟩:=Va8 h5aa;obtain⟨h5aaaa,h5aaao⟩:=Va8 h5aaa;obtain⟨h5aaaaa,h5aaaao⟩:=Va8 h5aaaa;obtain⟨h5aaaaaa,h5aaaaao⟩:=Va8 h5aaaaa;obtain⟨h5aaaaaaa,h5aaaaaao⟩:=Va8 h5aaaaaa;have h5aaaaaaap:=Va7 h5aaaaaaa;have h5aaaaaaon:=notf h5aaaaaao;have h5aaaaaon:=notf h5aaaaao;have h5aaaaon:=notf h5aaaao;have h5aaaon:=notf h5aaao;have h5aaon:=notf h5aao;have:=Va6 Vap ((el a v5).fCites);have:=Va6 Vap ((el b v5).fCites);have h5aop:=Va7 h5ao;have h5on:=notf h5o;refine GO (kb h5 m5) kx ?_;refine LP (λN M S=>∃ w8:E,(Zt ((el a v5).fCites)-w8<N)/\M=samLS_L1 rec a b v5 (samLS_L0 rec a b n0) N w8/\S=(sx 105 [(0,(jL (a.map Va2))),(1,(jL (b.map Va2))),(5,(jI ((v5:E):I))),(6,(.ptr 6 0)),(7,(.ptr 7 0)),(8,(jI ((w8:E):I))),(20,(jL (a.map Va2))),(21,(jI ((v5:E):I))),(22,(.av (.ro [(vI ((el a v5).fKind)),(vS ((el a v5).fText)),(vS ((el a v5).fDest)),(vS ((el a v5).fTitle)),(vS (((el a v5).fAttr).fID)),(.sl ((((el a v5).fAttr).fClasses).map Vak)),(.sl ((((el a v5).fAttr).fPairs).map Vaz)),(.sl (((el a v5).fArgs).map Vak)),(.sl (((el a v5).fCites).map Vap)),(.sl (((el a v5).fKids).map Va2))] 0))),(23,(.av (Vaq (el a v5)))),(24,(jL (b.map Va2))),(25,(jI ((v5:E):I))),(26,(.av (.ro [(vI ((el b v5).fKind)),(vS ((el b v5).fText)),(vS ((el b v5).fDest)),(vS ((el b v5).fTitle)),(vS (((el b v5).fAttr).fID)),(.sl ((((el b v5).fAttr).fClasses).map Vak)),(.sl ((((el b v5).fAttr).fPairs).map Vaz)),(.sl (((el b v5).fArgs).map Vak)),(.sl (((el b v5).fCites).map Vap)),(.sl (((el b v5).fKids).map Va2))] 0))),(27,(.av (Vaq (el b v5))))] [(7,(.cells 42 (Vf1 (el b v5)))),(6,(.cells 42 (Vf1 (el a v5))))] [])) kx ⟨_,kv,rfl,rfl⟩ (WK kx) ?_;rintro n1 M S ⟨w8,hF1,rfl,rfl⟩;obtain⟨n1,rfl⟩:∃ k,n1=k+1:=⟨n1-1,kv⟩
    refine UF (samLS_L1.eq_2 ..) ?_;refine GO n8 kx ?_;refine CSd (λh6p h6=>?_) (λh6p h6=>?_)
    ·have:=Va6 Vap ((el a v5).fCites);refine GO (kb h6 z) kx ?_;have d7:=(Vlu ((el a v5).fCites) w8 (by first|omega|(simp only[Va6,Z6];omega)))
     have d8:=(Vlu ((el b v5).fCites) w8 (by first|omega|(simp only[Va6,Z6];omega)))
     refine DR3 (tn 3<|ko (eO d7)<|kp d7<|tn 4<|ko (eO d8)<|kp d8 j6) kx kx kx ?_;refine CS (λh9=>?_) (λh9=>?_)
     ·have h9n:=nott h9;refine GO (kb h9 m5) kx ?_;refine Xf z kx ?_;refine Xf z kx ?_;exact EN kx
     ·have h9n:=notf h9;refine GO (kb h9<|m6 (wrE (((w8:E):I)+1) ((w8+1:E):I) kv) m5) kx ?_;exact AG ⟨_,kv,rfl,rfl⟩ (WK kx) kx (Zj _)
    ·have:=Va6 Vap ((el a v5).fCites);refine GO (kb h6 z) kx ?_;refine Xf (m6 (wrE (((v5:E):I)+1) ((v5+1:E):I) kv) m5) kx ?_;exact AG ⟨_,kv,rfl,rfl⟩ (WK kx) kx (Zj _)
  ·have:=Va6 Va2 a;refine GO (kb h2 z) kx ?_;refine Xf m5 kx ?_;exact EN kx
def samLN:E->(L Zg)->(L Zg)->Zv
 |0,_,_=>default
 |n+1,a,b=>samLS (samLN n) a b
def samLN_to:∀(n:E)(a:L Zg)(b:L Zg),wl Va4 a<n->wl Va4 a<=1073741824->wl Va4 b<=1073741824->Va1 Zi 13 [(jL (a.map Va2)),(jL (b.map Va2))] [] [] (jB (samLN n a b)) [] []
 |0,a,b,h0,_,_=>Zz h0 (Zx _)
 |n+1,a,b,h0,ha,hb=>by
  exact samL_st (samLN n) a b ha hb (λa' b' q1 ha' hb'=>samLN_to n a' b' kv ha' hb')
def samL(a:L Zg)(b:L Zg):Bool:=samLN (wl Va4 a+1) a b
def samL_to(a:L Zg)(b:L Zg)(ha:wl Va4 a<=1073741824)(hb:wl Va4 b<=1073741824):Va1 Zi 13 [(jL (a.map Va2)),(jL (b.map Va2))] [] [] (jB (samL a b)) [] []:=samLN_to _ a b (Zj _) ha hb
def ax1:ByteArray:=⟨#[97,32,91,42,98,42,93,40,120,41,32,99]⟩
def ax2:ByteArray:=⟨#[97,32,91,98,93,40,99,41,93,40,100,41]⟩
def ax3:ByteArray:=⟨#[91,42,97,93,40,120,41,42]⟩
def ax4:ByteArray:=⟨#[33,91,97,93,40,120,32,34,84,34,41,123,46,98,125]⟩
def ax5:ByteArray:=⟨#[91,93,123,61,115,116,114,111,110,103,125]⟩
def ax6:ByteArray:=⟨#[91,97,93,123,61,115,116,114,111,110,103,125]⟩
def aL(s:A):L DInline:=(parM s).1
def knd_l{l:L Zg}{k:L I}{b:Zv}(h:kndB l k=b)(h1:l.length<=9)(h2:k.length<=9):Va1 Zi 16 [jL (l.map Va2),jL (k.map vI)] [] [] (jB b) [] []:=h ▸ kndB_to l k kv kv
def awk_to(m:I):Va1 Zi 10 [] (glL m) [] (jB D) (glL m) []:=by
 have p1:=Vl5 ax1 m gj;have p2:=Vl5 ax2 m gj;have p3:=Vl5 ax3 m gj;have p4:=Vl5 ax4 m gj;have p5:=Vl5 ax5 m gj;have p6:=Vl5 ax6 m gj;rw[show parM ax1=(aL ax1,0) by kernel_rfl]at p1;rw[show parM ax2=(aL ax2,0) by kernel_rfl]at p2;rw[show parM ax3=(aL ax3,0) by kernel_rfl]at p3;rw[show parM ax4=(aL ax4,0) by kernel_rfl]at p4;rw[show parM ax5=(aL ax5,0) by kernel_rfl]at p5;rw[show parM ax6=(aL ax6,0) by kernel_rfl]at p6;refine bGs Tryz.func10 ?_;have i1:=Vb0 (aL ax1) 1 (Za kx);have i2:=Vb0 (aL ax2) 2 (Za kx);have i4:=Vb0 (aL ax4) 0 (Za kx);have k1:=knd_l (l:=aL ax1) (k:=[1,9,1]) (b:=D) kx (Za kx) gj;have k1':=knd_l (l:=(el (aL ax1) 1).fKids) (k:=[6]) (b:=D) kx (Za kx) gj;have k2:=knd_l (l:=aL ax2) (k:=[1,9,1]) (b:=D) kx (Za kx) gj;have k3:=knd_l (l:=aL ax3) (k:=[9,1]) (b:=D) kx (Za kx) gj;have k4:=knd_l (l:=aL ax4) (k:=[10]) (b:=D) kx (Za kx) gj;have k5:=knd_l (l:=aL ax5) (k:=[1]) (b:=D) kx (Za kx) gj;have k6:=knd_l (l:=aL ax6) (k:=[7]) (b:=D) kx (Za kx) gj;have u1:Uni 1 [vI 1,vI 9,vI 1]:=Vn0 [1,9,1];have u2:Uni 1 [vI 6]:=Vn0 [6];have u3:Uni 1 [vI 9,vI 1]:=Vn0 [9,1];have u4:Uni 1 [vI 10]:=Vn0 [10];have u5:Uni 1 [vI 1]:=Vn0 [1];have u6:Uni 1 [vI 7]:=Vn0 [7];refine gO (tn 1<|kg p1 Zy<|tn 5<|kg p2 Zy<|tn 8<|kb (b:=R) (d:=R) rfl<|m0 (b:=R) (d:=R) rfl<|m0 (b:=R) (d:=R) rfl<|m0 (b:=R) (d:=R) rfl<|m0 (b:=R) (d:=R) rfl<|kp u1<|kb (b:=R) (d:=R) rfl<|kc k1<|kb (b:=R) (d:=R) rfl<|m0 (b:=R) (d:=R) rfl<|m0 (b:=R) (d:=R) rfl<|m0 (b:=R) (d:=R) rfl<|ke i1<|kb (b:=R) (d:=R) rfl<|m0 (b:=R) (d:=R) rfl<|m0 (b:=R) (d:=R) rfl<|m0 (b:=R) (d:=R) rfl<|m0 (b:=R) (d:=R) rfl<|m0 (b:=R) (d:=R) rfl<|ke i1<|kb (b:=R) (d:=R) rfl<|m0 (b:=R) (d:=R) rfl<|m0 (b:=R) (d:=R) rfl<|kp u2<|kb (b:=R) (d:=R) rfl<|kc k1'<|kb (b:=R) (d:=R) rfl<|m0 (b:=R) (d:=R) rfl<|m0 (b:=R) (d:=R) rfl<|m0 (b:=R) (d:=R) rfl<|kp u1<|kb (b:=R) (d:=R) rfl<|kc k2<|kb (b:=R) (d:=R) rfl<|m0 (b:=R) (d:=R) rfl<|m0 (b:=R) (d:=R) rfl<|m0 (b:=R) (d:=R) rfl<|ke i2<|kb (b:=R) (d:=R) rfl<|m0 (b:=R) (d:=R) rfl<|m0 (b:=R) (d:=R) rfl<|m0 (b:=R) (d:=R) rfl<|kb (b:=R) (d:=R) rfl<|kq 5 z) ?_;refine gO (kg p3 Zy<|tn 5<|kg p4 Zy<|tn 5<|kg p5 Zy<|tn 5<|kg p6 Zy<|nq u3<|kc k3<|m0 (b:=D) (d:=D) rfl<|m0 (b:=D) (d:=D) rfl<|kp u4<|kb (b:=D) (d:=D) rfl<|kc k4<|kb (b:=D) (d:=D) rfl<|m0 (b:=D) (d:=D) rfl<|m0 (b:=D) (d:=D) rfl<|ke i4<|kb (b:=D) (d:=D) rfl<|m0 (b:=D) (d:=D) rfl<|m0 (b:=D) (d:=D) rfl<|m0 (b:=D) (d:=D) rfl<|m0 (b:=D) (d:=D) rfl<|m0 (b:=D) (d:=D) rfl<|ke i4<|kb (b:=D) (d:=D) rfl<|m0 (b:=D) (d:=D) rfl<|m0 (b:=D) (d:=D) rfl<|m0 (b:=D) (d:=D) rfl<|m0 (b:=D) (d:=D) rfl<|m0 (b:=D) (d:=D) rfl<|m0 (b:=D) (d:=D) rfl<|m0 (b:=D) (d:=D) rfl<|kp u5<|kb (b:=D) (d:=D) rfl<|kc k5<|kb (b:=D) (d:=D) rfl<|m0 (b:=D) (d:=D) rfl<|m0 (b:=D) (d:=D) rfl<|kp u6<|kb (b:=D) (d:=D) rfl<|kc k6<|kb (b:=D) (d:=D) rfl m5) ?_;exact eNs
def Vcx(s:A):eqs s s=true:=by simp[eqs]
def Vhx{α:Type}[Inhabited α](f:α->AV)(l:L α)(F:E->E->Zv)(hF:∀ n i,i<l.length->F (n+1) i=K (Zf (((i:E):I)<((lenM f l:E):I))) (F n (i+1)) D)
  (hz:∀ n i,¬i<l.length->F (n+1) i=D):∀(n i:E),l.length-i<n->F n i=D
 |0,i,h=>by omega
 |n+1,i,h=>by
  have hl:=Va6 f l
  by_cases hi:i<l.length
  ·rw[hF n i hi,dT kv,Zq,Vhx f l F hF hz n _ kv]
  ·exact hz n i hi
def Vgd(a:I):(a !=a)=false:=ku
def Vkk(a:L A):textsB a a=true:=by
 unfold textsB;rw[Vgd,Zl];refine Vhx Vak a (textsB_L0 a a) (λn i hi=>?_) (λn i hi=>?_) _ _ kv
 ·rw[textsB_L0,Vcx];rfl
 ·have hl:=Va6 Vak a;rw[textsB_L0,dF kv];rfl
def pairsB_self(a:L Xb):pairsB a a=true:=by
 unfold pairsB;rw[Vgd,Zl];refine Vhx Vaz a (pairsB_L0 a a) (λn i hi=>?_) (λn i hi=>?_) _ _ kv
 ·rw[pairsB_L0,Vcx,Vcx];rfl
 ·have hl:=Va6 Vaz a;rw[pairsB_L0,dF kv];rfl
def atsB_self(a:Ym):atsB a a=true:=by unfold atsB;rw[Vcx,Vkk,pairsB_self];rfl
def samLS_self(rec:L Zg->L Zg->Zv)(a:L Zg)(hr:∀ x∈a,rec x.fKids x.fKids=D):samLS rec a a=true:=by
 unfold samLS;rw[Vgd,Zl];have hin:∀(v5:E)(k0:E->Zv)(n w:E),(el a v5).fCites.length-w<n->samLS_L1 rec a a v5 k0 n w=k0 (v5+1):=by
  intro v5 k0 n
  induction n with
  |zero=>intro w h;omega
  |succ n ih=>
   intro w h;have hl:=Va6 Vap (el a v5).fCites;rw[samLS_L1]
   by_cases hi:w<(el a v5).fCites.length
   ·rw[dT kv,Zq,Vcx,Vcx,Vcx,Yl,ih _ kv];rfl
   ·rw[dF kv];rfl
 refine Vhx Va2 a (samLS_L0 rec a a) (λn i hi=>?_) (λn i hi=>?_) _ _ kv
 ·rw[samLS_L0,Vgd,Vcx,Vcx,Vcx,atsB_self,Vkk,Vgd,hr _ (Vbk hi),hin _ _ _ _ kv];rfl
 ·have hl:=Va6 Va2 a;rw[samLS_L0,dF kv];rfl
def Vn5:∀(n:E)(a:L Zg),wl Va4 a<n->samLN n a a=D
 |0,a,h=>by omega
 |n+1,a,h=>by
  rw[samLN];refine samLS_self _ a (λx hx=>?_);have h1:=Vgr (w:=Va4) hx;have h2:=Vao x;exact Vn5 n x.fKids kv
def samL_self(a:L Zg):samL a a=true:=Vn5 _ a kv
def cnd_w(b c:Zv)(l:L Zg)(n:E)(h:wl Va4 l<=n):wl Va4 (K b (([],3):L Zg×I) (K c ([],11) (l,0))).1<=n:=by
 cases b
 ·cases c
  ·exact h
  ·exact Yv _
 ·exact Yv _
def parT_w(t:A)(hs:t.size<=820):wl Va4 (parT t).1<=1073000000:=by
 have h:=readM_w t hs;unfold parT;generalize Vfy t=l at h ⊢;exact cnd_w _ _ l _ h
def parM_w(s:A)(hs:s.size<=820):wl Va4 (parM s).1<=1073000000:=parT_w _ (Xd (Veu _ _) hs)
def Vne{s:A}{i low high:I}(h:¬ moreI s i low high<0):i<s.size/\low<=((Y s i.toNat:E):I)/\((Y s i.toNat:E):I)<=high:=by
 have key:∀ {b:Zv} {y:I},¬K b (-1) y<0->b=false:=λ{b y} h=>by
  cases b
  ·rfl
  ·exact Zz (show(-1:I)<0 by decide) h
 unfold moreI at h;rw[wrb]at h;obtain⟨h1,h3⟩:=Va8 (key h);obtain⟨h1,h2⟩:=Va8 h1;have h1:=Zb h1;have h2:=Zb h2;have h3:=Zb h3;omega
def PqB(p:Yb):Bool:=K (K (!cleanB p.fC) D (K (p.fC==65533) (p.fN==1) R)) R D
def pq_bad:PqB (Z3 65533 1)=false:=rfl
def at_sq{s:A}{i:E}(hi:i<s.size)(h:PqB (atP s (i:I))=D):∃ n:E,(atP s (i:I)).fN=(n:I)/\Sq (Y s) i n/\i+n<=s.size:=by
 let Q:Yb->Prop:=λp=>PqB p=D->∃ n:E,p.fN=(n:I)/\Sq (Y s) i n/\i+n<=s.size
 have bad:Q (Z3 65533 1):=λh=>by rw[pq_bad]at h;cases h
 have c1:((i:I)+1).toNat=i+1:=kv;have c2:((i:I)+2).toNat=i+2:=kv;have c3:((i:I)+3).toNat=i+3:=kv;refine(?_:Q (atP s (i:I))) h;unfold atP;rw[Zr,wrb];refine Va5 Q (λq h=>?_) (λq1=>Va5 Q (λq=>Va5 Q (λq2 _=>?_) (λ_=>bad)) (λ_=>Va5 Q (λq=>?_) (λ_=>Va5 Q (λq=>?_) (λ_=>bad))))
 ·have q:=Za q;refine⟨1,rfl,.inl ⟨rfl,?_⟩,kv⟩;unfold PqB at h;obtain⟨h,_⟩:=cond_ft h;obtain⟨h,_⟩:=Va8 h;have h:cleanB ((Y s i:E):I)=true:=not_t h;unfold cleanB at h;cases h1:(((Y s i:E):I)==10)with
  |true=>have:=eq_of_beq h1;omega
  |false=>
   rw[h1,Zl]at h;obtain⟨h2,h3⟩:=Va9 h;have h2:=Za h2;have h3:=Y7.1 h3;omega
 ·obtain⟨q,q3⟩:=Va9 q;have q:=Za q;have q3:=Za q3;have q2:=Za q2;have m:=Vne (s:=s) (i:=(i:I)+1) (low:=128) (high:=191) kv;rw[c1]at m;exact⟨2,rfl,.inr (.inl ⟨rfl,kv,kv,kv,kv⟩),kv⟩
 ·obtain⟨q,q3⟩:=Va9 q;have q:=Za q;have q3:=Za q3;unfold threeP;rw[Zr,wrb];refine Va5 Q (λ_=>bad) (λq4 _=>?_);obtain⟨q4,q5⟩:=Va8 q4;have m1:=Vne (Zb q4);have m2:=Vne (Zb q5);rw[c1]at m1;rw[c2]at m2;refine⟨3,rfl,.inr (.inr (.inl ⟨rfl,kv,kv,?_⟩)),kv⟩;generalize Y s i=b at q q3 m1 ⊢;cases e1:(((b:E):I)==224) <;>cases e2:(((b:E):I)==237) <;>rw[e1,e2]at m1 <;>simp only[Zq,Zl]at m1
  ·have:=Zk e1;have:=Zk e2;omega
  ·have:=Zk e1;have:=eq_of_beq e2;omega
  ·have:=eq_of_beq e1;have:=Zk e2;omega
  ·have:=eq_of_beq e1;have:=eq_of_beq e2;omega
 ·obtain⟨q,q3⟩:=Va9 q;have q:=Za q;have q3:=Za q3;unfold fourP;rw[Zr,wrb];refine Va5 Q (λ_=>bad) (λq4 _=>?_);obtain⟨q4,q6⟩:=Va8 q4;obtain⟨q4,q5⟩:=Va8 q4;have m1:=Vne (Zb q4);have m2:=Vne (Zb q5);have m3:=Vne (Zb q6);rw[c1]at m1;rw[c2]at m2;rw[c3]at m3;refine⟨4,rfl,.inr (.inr (.inr ⟨rfl,kv,kv,?_⟩)),kv⟩;generalize Y s i=b at q q3 m1 ⊢;cases e1:(((b:E):I)==240) <;>cases e2:(((b:E):I)==244) <;>rw[e1,e2]at m1 <;>simp only[Zq,Zl]at m1
  ·have:=Zk e1;have:=Zk e2;omega
  ·have:=Zk e1;have:=eq_of_beq e2;omega
  ·have:=eq_of_beq e1;have:=Zk e2;omega
  ·have:=eq_of_beq e1;have:=eq_of_beq e2;omega
def pts_sub{s:A}:∀(n:E)(acc:L Yb)(i:I)(p:Yb),s.size-i.toNat<n->0<=i->p∈acc->p∈points_L0 s n acc i
 |0,acc,i,p,h,_,_=>by omega
 |n+1,acc,i,p,h,h0,hp=>by
  have:=(atP_bd s i).1;rw[points_L0]
  by_cases hi:i<s.size
  ·rw[dT hi,Zq];exact pts_sub n _ _ p kv kv (Yw _ hp)
  ·rw[dF hi,Zl];exact hp
def pts_vp{s:A}:∀(n:E)(acc:L Yb)(i:E),s.size-i<n->i<=s.size->(∀p∈points_L0 s n acc (i:I),PqB p=D)->VP (Y s) i s.size
 |0,acc,i,h,_,_=>by omega
 |n+1,acc,i,h,hz,hp=>by
  rw[points_L0]at hp
  by_cases hi:i<s.size
  ·rw[dT kv,Zq]at hp;have hb:=(atP_bd s (i:I)).1;obtain⟨k,e1,e2,e3⟩:=at_sq hi (hp _ (pts_sub n _ _ _ kv kv (Yt _ (Zm.2 rfl))));rw[e1,show(i:I)+(k:I)=((i+k:E):I)from rfl]at hp;have:=e2.pos;exact .cons e2 (pts_vp n _ (i+k) kv e3 hp)
  ·obtain rfl:i=s.size:=kv;exact .nil _
def val_ct{s:A}(h:validB s=D):CT s:=by
 have key:∀ n v,(points s).length-v<n->validB_L0 s n v=D->∀ j,v<=j->j<(points s).length->PqB (el (points s) j)=true:=by
  intro n
  induction n with
  |zero=>intro v h;omega
  |succ n ih=>
   intro v hn hr j j1 j2;have hl:=Va6 Vdt (points s);rw[validB_L0,dT kv,Zq]at hr;obtain⟨h1,h2⟩:=cond_ft hr
   by_cases hj:j=v
   ·subst hj;unfold PqB;rw[h1];rfl
   ·exact ih (v+1) kv h2 j kv j2
 refine pts_vp ((s.size-O 0)+1) [] 0 ku (Yv _) (λp hp=>?_);have hp:p∈points s:=hp;obtain⟨j,hj,e⟩:=Zu hp;have:=key _ 0 kv h j (Yv _) hj;unfold el at this;rw[Ze hj,e]at this;exact this
def trm_bn{s:A}(h:CT s):Bn (trmB s WSP) 0:=(trm_ct (p:=WSP) (λk hk=>by
 have hk:k<2:=hk
 rcases(by omega:k=0\/k=1)with rfl|rfl <;>decide) h).1.bn
def parM_cs(s:A):((parM s).2=0/\(parM s).1=Vfy (trmB s WSP)/\dpL (Vfy (trmB s WSP))<=16)\/((parM s).1=[]/\((parM s).2=3\/(parM s).2=11)):=by
 unfold parM parT;cases h1:Zf (szL (Vfy (trmB s WSP))>32768)with
 |true=>exact .inr ⟨rfl,.inl rfl⟩
 |false=>
  cases h2:Zf (dpL (Vfy (trmB s WSP))>16)with
  |true=>exact .inr ⟨rfl,.inr rfl⟩
  |false=>exact .inl ⟨rfl,rfl,by have:=Zb h2;omega⟩
def well_to(s:A)(m:I):Va1 Zi 8 [jS s] (glL m) [] (jB D) (glL m) []:=by
 have c1:=smlT_to s;have ha:=awk_to m;cases hz:smlT s with
 |false=>
  rw[hz]at c1;refine bGs Yn ?_;refine gO (j7 c1<|z6 (b:=D) (d:=D) rfl<|kb (b:=D) (d:=D) rfl<|kb (b:=D) (d:=D) rfl<|kb (b:=D) (d:=D) rfl<|kb (b:=D) (d:=D) rfl<|kg ha Zy m5) ?_;exact eNs
 | true=>
  rw[hz]at c1;have hs:s.size<=800:=by
   have:=Za hz;omega
  have cv:=validB_to s kv;cases hv:validB s with
  |false=>
   rw[hv]at cv;refine bGs Yn ?_;refine gO (j7 c1<|z6 (b:=R) (d:=R) rfl<|m0 (b:=R) (d:=R) rfl<|kc cv<|kb (b:=R) (d:=R) rfl<|m0 (b:=R) (d:=R) rfl<|kb (b:=D) (d:=D) rfl<|kg ha Zy m5) ?_;exact eNs
  | true=>
   rw[hv]at cv;have hp:=Vl5 s m kv;have hw:=parM_w s kv;rcases parM_cs s with⟨e1,e2,e3⟩|⟨e1,e2⟩
   ·have hL:LnW (parM s).1:=by rw[e2];exact readM_w2 _ (trm_bn (val_ct hv)) (Xd (Veu _ _) kv)
    have cl:=line_to (parM s).1 kv hL (parM_lk s kv) (by rw[e2];exact e3);have cm:=mgw_to (parM s).1 kv hL;have cS:=samL_to (parM s).1 (parM s).1 kv kv;rw[samL_self]at cS;have n0:((parM s).2 !=0)=false:=by rw[e1];rfl
    refine bGs Yn ?_;refine gO (j7 c1<|z6 (b:=R) (d:=R) rfl<|m0 (b:=R) (d:=R) rfl<|kc cv<|kb (b:=R) (d:=R) rfl<|m0 (b:=R) (d:=R) rfl<|kb (b:=R) (d:=R) rfl<|tn 1<|kg hp Zy<|xq n0<|n7 cl<|z6 (b:=D) (d:=D) rfl<|m0 (b:=D) (d:=D) rfl<|kc cm<|kb (b:=D) (d:=D) rfl<|m0 (b:=D) (d:=D) rfl<|kc cS<|kb (b:=D) (d:=D) rfl<|m0 (b:=D) (d:=D) rfl<|kg ha Zy<|kb (b:=D) (d:=D) rfl m5) ?_;exact eNs
   ·have e:parM s=([],3)\/parM s=([],11):=by
     rcases e2 with e|e
     ·exact .inl (Prod.ext e1 e)
     ·exact .inr (Prod.ext e1 e)
    rcases e with e|e
    ·rw[e]at hp;refine bGs Yn ?_;refine gO (j7 c1<|z6 (b:=R) (d:=R) rfl<|m0 (b:=R) (d:=R) rfl<|kc cv<|kb (b:=R) (d:=R) rfl<|m0 (b:=R) (d:=R) rfl<|kb (b:=R) (d:=R) rfl<|tn 1<|kg hp Zy<|xq (b:=D) (d:=D) rfl<|w7 (b:=R) (d:=R) rfl<|m0 (b:=R) (d:=R) rfl<|m0 (b:=R) (d:=R) rfl<|m0 (b:=D) (d:=D) rfl<|m0 (b:=D) (d:=D) rfl<|m0 (b:=D) (d:=D) rfl<|m0 (b:=D) (d:=D) rfl<|m0 (b:=D) (d:=D) rfl<|kg ha Zy<|kb (b:=D) (d:=D) rfl m5) ?_;exact eNs
    ·rw[e]at hp;refine bGs Yn ?_;refine gO (j7 c1<|z6 (b:=R) (d:=R) rfl<|m0 (b:=R) (d:=R) rfl<|kc cv<|kb (b:=R) (d:=R) rfl<|m0 (b:=R) (d:=R) rfl<|kb (b:=R) (d:=R) rfl<|tn 1<|kg hp Zy<|xq (b:=D) (d:=D) rfl<|w7 (b:=D) (d:=D) rfl<|kb (b:=D) (d:=D) rfl<|kb (b:=D) (d:=D) rfl<|m0 (b:=D) (d:=D) rfl<|m0 (b:=D) (d:=D) rfl<|m0 (b:=D) (d:=D) rfl<|m0 (b:=D) (d:=D) rfl<|m0 (b:=D) (d:=D) rfl<|kg ha Zy<|kb (b:=D) (d:=D) rfl m5) ?_;exact eNs
end
end Go.Proofs.YthbpjmogdonlkaaGreatDoor
namespace Go.Eng
open Go.ChangeShapes Go.WideShapes Go.ChangeAt Go.RowKit
def U0(w:World)(b:E):Nat:=match w.heap[b]? with
 |some (.cells arr _ _)=>arr.size
 |_=>0
def wf0(w:World):Wf ⟨U0 w,λ_=>0,λ_=>none,λ_=>0,[]⟩ w:=
 ⟨λκ κ' b h=>by simp at h,λκ b h=>by simp at h,λb hb=>by simp only[U0];rw[Array.getElem?_eq_none hb]⟩
end Go.Eng
namespace Go.Proofs.YthbpjmogdonlkaaGreatDoor
section
open Go Go.Eng Go.Lib Go.ChangeShapes Go.WideShapes Go.ChangeAt Go.RowKit
def gOw(κ:Key):Option Nat:=if κ=(1999,0)then some 3 else if κ=(1998,0)then some 2 else none
def Vk8{κ:Key}{b:E}(h:gOw κ=some b):(κ=(1999,0)/\b=3)\/(κ=(1998,0)/\b=2):=by
 unfold gOw at h
 split at h
 ·rename_i e;exact .inl ⟨e,(Yf h).symm⟩
 ·split at h
  ·rename_i e;exact .inr ⟨e,(Yf h).symm⟩
  ·cases h
def law_callsG{P:Program}{f:FuncId}{xs:L AV}{m:I}(h:Va1 P f (xs.map .av) (glL m) [] (jB D) (glL m) []){W:World}{vs:L Value}(hr:RepL (U0 W) W xs vs)
  {t3 t2:E} (h3:W.heap[3]? =some (.cells (Lib.pow10Tab.map (λx=>Value.int .u64 x)).toArray t3 (0,0))) (n3:t3≠5) (h2:W.heap[2]? =some (.cells #[.int .i64 m] t2 (0,0))) (n2:t2≠5):
  Calls P f vs.toArray W (λe W'=>e=.returned (.bool D)/\Below W.heap.size W W'):=by
 have l3:3<W.heap.size:=(Array.getElem?_eq_some_iff.1 h3).1;have hwf:Wf ⟨U0 W,λ_=>0,gOw,λ_=>0,[]⟩ W:=by
  refine⟨λκ κ' b q1 q2=>?_,λκ b q=>?_,(wf0 W).zero⟩
  ·rcases Vk8 q1 with⟨e1,e2⟩|⟨e1,e2⟩ <;>rcases Vk8 q2 with⟨e3,e4⟩|⟨e3,e4⟩
   ·rw[e1,e3]
   ·omega
   ·omega
   ·rw[e1,e3]
  ·rcases Vk8 q with⟨_,e⟩|⟨_,e⟩ <;>omega
 have hu3:1<=U0 W 3:=by unfold U0;rw[h3];exact(by decide:(1:E)<=20)
 have hu2:1<=U0 W 2:=by unfold U0;rw[h2];exact(by decide:(1:E)<=1)
 refine(h.2 ⟨U0 W,λ_=>0,gOw,λ_=>0,[]⟩ W vs hwf (Vda (hr:RepL (Gh.U ⟨U0 W,λ_=>0,gOw,λ_=>0,[]⟩) W xs vs)) ?_ ku).mono ?_
 ·intro p hp;simp only[glL,glP,glM,Yc,Y4,or_false]at hp;rcases hp with rfl|rfl
  ·exact⟨_,_,rfl,h3⟩
  ·exact⟨_,_,rfl,h2⟩
 rintro e w' ⟨v,G',rfl,s1,_,s3,s4,_⟩;simp only[jB,RepS,Rep]at s3;rw[s3.1];refine⟨rfl,s1.os,s1.toExt.tp,s1.output,s1.size,λk hk=>?_⟩;have g3:=s4 glP (by simp[glL]);have g2:=s4 (glM m) (by simp[glL])
 by_cases e3:k=3
 ·subst e3;obtain⟨arr,ha⟩:=s1.imm.pln 3 t3 hu3 n3 ⟨_,h3⟩;obtain⟨e,mm,_,hb⟩:=g3;rw[ha]at hb;simp only[Y0,Obj.cells.injEq]at hb;rw[ha,h3,hb.1]
 ·by_cases e2:k=2
  ·subst e2;obtain⟨arr,ha⟩:=s1.imm.pln 2 t2 hu2 n2 ⟨_,h2⟩;obtain⟨e,mm,_,hb⟩:=g2;rw[ha]at hb;simp only[Y0,Obj.cells.injEq]at hb;rw[ha,h2,hb.1]
  ·exact(s1.stay k hk (λκ q=>by rcases Vk8 q with⟨_,e⟩|⟨_,e⟩ <;>omega)).1
def pow_block {l : List (String × DataW Unit)} {W : World} (hL : laidMetH Tryz.prog l W) (hh : (l.all λx => x.2.handleName?.isNone) = true) (hm : ("internal/strconv.uint64pow10", (tabData .u64 Lib.pow10Tab : DataW Unit)) ∈ l) (hS : W.ShapedOpen Tryz.prog) :
  W.heap[3]? =some (.cells (Lib.pow10Tab.map (λx=>Value.int .u64 x)).toArray 290 (0,0)):=by
 rw [Go.MakeChecks.laidMetH_plain _ _ _ hh] at hL; obtain ⟨g, t, cs, fuel, p, hg, hty, hv, htr⟩ := Lib.laidMet.reads hL hm; obtain rfl : 3 = g := Option.some.inj ((show Tryz.prog.globalNamed "internal/strconv.uint64pow10" = some 3 by kernel_rfl).symm.trans hg); obtain rfl : 290 = t := Option.some.inj ((show (Tryz.prog.globals[3]?).map (·.type) = some 290 by kernel_rfl).symm.trans hty); have hc := cells_of_tab (show Tryz.prog.underlying 290 = some (.array 20 255) by kernel_rfl) kx kx kx htr; obtain ⟨cs', hb, _⟩ := hS.1 3 (Array.replicate 20 (.int .u64 0)) 290 (of_decide_eq_true kx) kx; have hv' : W.var? Tryz.prog "internal/strconv.uint64pow10" = some cs' := by
  unfold World.var?;rw[hg];simp only[Option.bind_some,hb]
 obtain rfl:cs'=cs:=Yf (hv'.symm.trans hv);rw[hb];have:cs'=(Lib.pow10Tab.map (λx=>Value.int .u64 x)).toArray:=by rw[<-hc]
 rw[this]
def max_block{W:World}(hS:W.ShapedOpen Zi):∃ m:I,W.heap[2]? =some (.cells #[.int .i64 m] 3 (0,0)):=by
 obtain⟨m,hm⟩:=cell_of_shapedOpen_int (k:=.i64) (zero:=#[.int .i64 0]) (t:=3) (g:=2) hS (Za kx) kx rfl kx kx kx;obtain⟨cs,hb,hs,_⟩:=hS.1 2 #[.int .i64 0] 3 (Za kx) kx;refine⟨m,?_⟩;have h1:cs.size=1:=hs;simp only[World.cell?,hb]at hm;obtain⟨l⟩:=cs
 match l,h1,hm with
 |[x],_,hm=>
  have e:x=.int .i64 m:=by simpa using hm
  rw[hb,e]
end
section
open Go Go.Eng Go.ChangeShapes Go.WideShapes Go.ChangeAt Go.RowKit
section
variable {H:Type} (enc:TypeId×Value->H) (P:Program) (w:World) (sp:E->Zv) (held:Zv)
variable {enc P w sp held}
def One(sz:E){α:Type}(f:α->L AV)(g:α->AV):Prop:=
 ∀(U:E->E)(w:World)(a:α)(us:L Value),RepL U w (f a) us->us.length=sz->(∀v∈us,v.oneCell'=D)->∃ u:Value,Rep U w (g a) u/\u.cells.toList=us
end
end
end Go.Proofs.YthbpjmogdonlkaaGreatDoor
