/- Texts joined by a program (merge.py). -/
import Derived.Test.YthbpjmogdonlkaaGreatDoorMee
import Derived.Test.YthbpjmogdonlkaaGreatDoorMed
import Derived.Test.YthbpjmogdonlkaaGreatDoorMec
import Derived.Lib.AppendIntMem
import Derived.KernelRfl
set_option linter.unusedSimpArgs false
set_option linter.unusedVariables false
set_option maxRecDepth 100000
set_option maxHeartbeats 4000000
set_option linter.defProp false
open _root_ renaming ByteArray->C,Int->I,List->F,Nat->J,cond_false->Za,trivial->Zb,cond_true->Zf,of_decide_eq_false->Zk,decide_eq_false->Zo,cond->Zp,of_decide_eq_true->Zq,decide_eq_true_eq->Zr,if_pos->Zs,if_neg->Zy,absurd->Z1,True->Z5,decide_eq_true->Z8,bne_iff_ne->Yt,Bool->Yv,ne_of_beq_false->Y2,UInt8->Xg,beq_iff_eq->Xo,decide_eq_decide->Xr,Array->Xw,or_false->Qb,beq_false_of_ne->Qi,beq_eq_false_iff_ne->Ql,congrArg->Iz,Inhabited->Jv,Unit->Ds
open Go.Proofs.YthbpjmogdonlkaaGreatDoor renaming DInline->A,DElem->Zu,DPiece->Yu,DAttr->Yy,AllI->Ie,uneS_L0->Jb,nxtN_L0->J2,nmeS_L0->J3,wrdA_L0->Dh,valG_L0->Di,autP_L1->Dj,autP_L0->Dk,DCited->Dq,TkOk->Dw,BYi->D2
open Bool renaming false->B,true->K,and_eq_true->Zt,cond_false_right->Z7,or_eq_true->Yr,cond_eq_ite->Qa,not_false->Ja,not_true->Je,false_eq_true->Ji
open Go.Proofs.Tryz renaming prog->Zc,f57->Z3,func77->Yh,f172->Yj,func145->Xh,f88->Qd,f23->Qe,f11->Qq,func120->Ig,func52->I0,f52->I1,func91->Jw,func11->Jy,f91->J5
open ByteArray renaming extract->Zd,size->Zj,size_extract->Ya,append_assoc->Yf,size_append->Yo,size_push->Y3,data_extract->Y4,ext->Xf,data_append->Xx,push->Dz
open List renaming getD_eq_getElem?_getD->Ze,getElem?_eq_getElem->Zi,mem_singleton->Zv,getElem?_eq_none->Zx,length_append->Zz,mem_append->Z0,getElem?_map->Yd,take_of_length_le->Ye,not_mem_nil->Yg,dropLast_subset->Yi,getElem?_append_left->Yk,length_singleton->Yn,mem_map->Yq,mem_cons->Ys,length_map->Yw,mem_or_eq_of_mem_set->Yx,take_succ_eq_append_getElem->Xb,mem_cons_of_mem->Xc,getElem?_set->Xd,ext_getElem?->Xe,range->Xj,drop_eq_nil_of_le->Xk,map_cons->Xm,length_take->Xt,length_cons->Xu,take_length->Xy,all_eq_true->Xz,pairwise_append->Qf,mem_of_mem_take->Qg,getElem?_modify->Qh,map_append->Qk,map_congr_left->Qn,getElem_of_mem->Qo,getElem?_range->Qp,mem_cons_self->Qr,getElem?_append_right->Qs,getLast?_eq_none_iff->Qt,getLast?_eq_getElem?->Qu,drop_eq_getElem_cons->Qv,length->Q1,length_eq_zero_iff->Ia,length_drop->Ib,getElem_mem->Ic,map_map->Il,getElem?_set_self->Im,sizeOf_lt_of_mem->Iv,contains_iff_mem->Iw,mem_range->I4,mem_of_mem_drop->I5,mem_of_getElem?->I6,mem_append_left->I7,getElem?_set_ne->I8,dropWhile_cons->Jd,map_singleton->Jg,getElem?_take->Jh,mem_reverse->Jt,cons_append->Ju,length_set->J0,append_nil->J1,drop_zero->J8,map_take->Dd,map_nil->Do
open UInt8 renaming ofNat->Zg,toNat_inj->Jz
open Decidable renaming decide->Zh
open Nat renaming lt_succ_self->Zl,le_refl->Zm,zero_le->Zw,mod_eq_of_lt->Z4,le_trans->Z6,zero_add->Y1,not_lt_zero->Y8,min_eq_left->Y9,mul_le_mul_right->Xp,lt_or_ge->Xs,le_succ->Q0,le_add_right->Q8,add_sub_cancel_left->Q9,succ_mul->Ii,add_zero->Ij,lt_of_lt_of_eq->Jf,sub_self->Jl,or_lt_two_pow->Jm,min_self->Jn,le_succ_of_le->Jo,lt_irrefl->Dc,sub_zero->Dm
open Array renaming getD_eq_getD_getElem?->Zn,getElem?_eq_getElem->Y6,mapM_eq_mapM_toList->Qw,replicate->Ir,toList_push->Jr
open Option renaming some->O,getD_some->Yz,none->Y5,map_some->Y7,getD_none->Q6,bind_some->Q7,map_eq_map->Jk,bind_none->Js
open Go.Eng renaming byt->Y,Weak->Q5,Sound->I2,RepS->Jc,ABox->Jj,RepSs->J6,Uni->Db,OUT->Dr,NXW->Dt,Rep->Dy,DR3->D0
open Int renaming le_refl->Z2,toNat_natCast->Z9,toNat->Yb,mul_le_mul_of_nonneg_left->Ym,mul_le_mul_of_nonneg_right->Y0
open Go.Proofs.YthbpjmogdonlkaaGreatDoor.DInline renaming mk->Yc
open Go.Utf8 renaming valid->Yl,decode->Qc,encode->Qy
open SizeOf renaming sizeOf->Yp
open Option.some renaming injEq->Xa,inj->Qj
open Go.MapKept renaming run_getObj_map->Xi,run_checkKey->Xq,run_findKey->Xv,run_setObj_map->Ik
open Go.Oper renaming upon_value->Xl,wp->Ih,upon_skip->I3
open Go renaming getD_replicate_false->Xn,Value->Qm,World->Qx,Oper->Iu,wp_region_list->Iy,Operand->J4,MapEntry->J7,undef->Dg,Program->Dl,TypeId->Dv
open Go.Result renaming andThen_ok->Qz
open Go.Lib renaming repeatL->Q3,trimRightS->J9,trimLeftS->De,indexByte->Df,indexAny->Dp,trimS->Dx
open Prod.mk renaming injEq->Q4
open Go.IntKind renaming bits->Ip,signed->I9,wrap->Jp
open Go.Instr renaming mapUpdate->Iq,lookup->Jq,fill->Da,build->Du
namespace Go.Proofs.YthbpjmogdonlkaaGreatDoor
open Go Go.Eng
def pgB(s:C)(v:I)(a:Yy):F (J×Jj):=[(8,.cells 3 [jI v]),atG 7 a,(4,.cells 39 [jS e0,.nil,.nil]),(2,.cells 9 [jS s])]
def pgS(s:C)(v:I)(a:Yy)(b:Yv):St:=sx 57 [(2,.ptr 2 0),(4,.ptr 4 0),(7,.ptr 7 0),(8,.ptr 8 0),(9,.fn 241 [] [.ptr 8 0,.ptr 2 0]),(10,.fn 242 [] [.ptr 7 0,.ptr 2 0,.ptr 8 0]),(11,jB b)] (pgB s v a) (gnA a)
def sp8(s:C)(v:I)(hs:s.size<=1073741824)(h0:0<=v)(h1:v<=s.size):Va1 Zc 241 [.ptr 8 0,.ptr 2 0] [(8,.cells 3 [jI v]),(2,.cells 9 [jS s])] [] (jB (Zh (skpS s v>v))) [(8,.cells 3 [jI (skpS s v)]),(2,.cells 9 [jS s])] []:=Vcz kx (Vac (Vah (8,0) (1002,0) rfl) (Vac (Vah (2,0) (1001,0) rfl) (spcG_to s v hs h0 h1)))
def it8(s:C)(v:I)(a:Yy)(ha:Few a)(hs:s.size<=1073741824)(h0:0<=v)(h1:v<s.size):Va1 Zc 242 [.ptr 7 0,.ptr 2 0,.ptr 8 0] [(8,.cells 3 [jI v]),atG 7 a,(2,.cells 9 [jS s])] (gnA a) (jI (rdiG s v a).1.2) [(8,.cells 3 [jI (rdiG s v a).1.1]),atG 7 (rdiG s v a).2,(2,.cells 9 [jS s])] (gnA (rdiG s v a).2):=Vcz kx (Vac (Vah (7,0) (1000,0) rfl) (Vac (Vah (8,0) (1002,0) rfl) (Vac (Vah (2,0) (1001,0) rfl) (itcG_to s v a ha hs h0 h1))))
def encA(r:Yy×I×I):SV:=.av (.tup [Vph r.1,vI r.2.1,vI r.2.2])
def prsA_to(s:C)(i:I)(hs:s.size<=1073741824):Va1 Zc 195 [jS s,jI i] [] [] (encA (prsA s i)) [] []:=by
 obtain⟨R,hR⟩:∃ R,prsA s i=R:=⟨_,rfl⟩
 rw[hR];unfold prsA at hR;refine bG Tryz.func195 ?_;cases d1:Zh (i<0)with
 |true=>
  rw[d1]at hR;simp only[Zf]at hR;subst hR;refine gO (xq d1<|kb d1<|kb d1<|kb d1<|kb d1<|m0 (b:=K) (d:=K) rfl<|kb (b:=K) (d:=K) rfl<|kb (b:=K) (d:=K) rfl<|kb (b:=K) (d:=K) rfl<|kb (b:=K) (d:=K) rfl<|kb (b:=K) (d:=K) rfl i7) ?_;exact eN
 | false=>
  rw[d1]at hR;simp only[Za]at hR;cases d2:Zh (i>=((Zj s:J):I))with
  |true=>
   rw[d2]at hR;simp only[Zf]at hR;subst hR;refine gO (xq d1<|m0 d1<|m0 d1<|m0 d1<|m0 d1<|m0 d2<|kb d2<|kb d2<|kb d2<|kb d2<|kb (b:=K) (d:=K) rfl i7) ?_;exact eN
  | false=>
   rw[d2]at hR;simp only[Za]at hR;have d1':=Zk d1;have d2':=Zk d2;have hib:=ib s i ⟨kv,kv⟩;cases d3:(D2 s i !=123)with
   |true=>
    rw[d3]at hR;simp only[Zf]at hR;subst hR;refine gO (xq d1<|m0 d1<|m0 d1<|m0 d1<|m0 d1<|m0 d2<|m0 d2<|m0 d2<|kp hib<|kb d2<|m0 d2<|kb d3 i7) ?_;exact eN
   | false=>
    rw[d3]at hR;simp only[Za]at hR;have w1:=wrE (i+1) (i+1) kv;have k1:=sp8 s (i+1) hs kv kv;have hsk:=Vc4 s (i+1) kv;refine gO (xq d1<|m0 d1<|m0 d1<|m0 d1<|m0 d1<|m0 d2<|m0 d2<|m0 d2<|kp hib<|kb d2<|m0 d2<|kb d3<|p8 w1<|kq 7 iq) ?_;refine RT [(7,1,.own kA 0 1 (([]:F C).map Vak)),(7,2,.own kP 0 2 (([]:F DPair).map Vaz))] (ac (show([]:F AV)=[]/\0<10/\(0:J)=0 from⟨rfl,gj,rfl⟩) (ac (show([]:F AV)=[]/\0<169/\(0:J)=0 from⟨rfl,gj,rfl⟩) an)) kx ?_;refine gO (tn 1<|kg k1 Zb m5) ?_;refine LP (n:=s.size+2) (λN M S=>∃(v:I)(a:Yy)(sep:Yv),0<=v/\v<=s.size/\Few2 a/\prsL s N v a sep=R/\s.size-Yb v<N/\M=()/\S=pgS s v a sep) kx ⟨skpS s (i+1),aZ,K,kv,kv,⟨gj,gj⟩,hR,kv,rfl,rfl⟩ (WK kx) ?_;rintro n0 M S ⟨v,a,sep,hv,hv2,ha,hM,hF,rfl,rfl⟩;obtain⟨n0,rfl⟩:∃ k,n0=k+1:=⟨n0-1,kv⟩
    rw[prsL]at hM;cases d4:Zh (v>=((Zj s:J):I))with
    |true=>
     rw[d4]at hM;simp only[Zf]at hM;subst hM;refine gO (i8 d4 i7) ?_;refine Dr z kx ?_;exact eN
    | false=>
     rw[d4]at hM;simp only[Za]at hM;have d4':=Zk d4;have hib2:=ib s v ⟨kv,kv⟩;cases d5:(D2 s v==125)with
     |true=>
      rw[d5]at hM;simp only[Zf]at hM;subst hM;have w2:=wrE (v+1) (v+1) kv;refine gO (i8 d4<|p7 hib2<|m0 d5 z) ?_;refine D0 (t8 w2<|kp w2 i6) kx kx kx ?_;refine Dr z kx ?_;exact eN
     | false=>
      rw[d5]at hM;simp only[Za]at hM;cases sep with
      |false=>
       simp only[Ja,Zf]at hM;subst hM;refine gO (i8 d4<|p7 hib2<|m0 d5<|z6 (b:= !B) (d:=K) rfl i7) ?_;refine Dr z kx ?_;exact eN
      | true=>
       simp only[Je,Za]at hM;have k2:=it8 s v a ha.few hs hv kv;have hri:=rdiG_bd s v a ha hv kv;generalize rdiG s v a=r at k2 hM hri;obtain⟨r1,r2,r3,r4⟩:=hri;cases d6:(r.1.2 !=0)with
       |true=>
        rw[d6]at hM;simp only[Zf]at hM;subst hM;refine gO (i8 d4<|p7 hib2<|m0 d5<|z6 (b:= !K) (d:=B) rfl<|tn 1<|kg k2 (show a.fClasses.length=a.fClasses.length/\a.fPairs.length=a.fPairs.length/\Z5 from⟨rfl,rfl,Zb⟩)<|w7 d6 n8) ?_;refine Dr z kx ?_;exact eN
       |false=>
        rw[d6]at hM;simp only[Za]at hM;have k3:=sp8 s r.1.1 hs r2 r3;have h4:=r4 (Va7 d6);have hsk2:=Vc4 s r.1.1 r2;refine gO (i8 d4<|p7 hib2<|m0 d5<|z6 (b:= !K) (d:=B) rfl<|tn 1<|kg k2 (show a.fClasses.length=a.fClasses.length/\a.fPairs.length=a.fPairs.length/\Z5 from⟨rfl,rfl,Zb⟩)<|w7 d6<|tn 1<|kg k3 Zb m5) ?_;exact AG (m:=n0) ⟨skpS s r.1.1,r.2,_,kv,kv,r1,hM,kv,rfl,rfl⟩ (WK kx) kx (Zl _)
def PA(s:C)(v:I)(r:Yy×I×I):Prop:=Few2 r.1/\(r.2.2=0->v<r.2.1/\r.2.1<=s.size)
def few0:Few2 aZ:=⟨gj,gj⟩
def PA5(s:C)(v:I):PA s v (aZ,0,5):=⟨few0,λh=>by simp at h⟩
def prsL_bd(s:C):∀(n:J)(v:I)(a:Yy)(sep:Yv),0<=v->v<=s.size->Few2 a->s.size-v.toNat<n->PA s v (prsL s n v a sep)
 |0,v,a,sep,_,_,_,h=>by omega
 |n+1,v,a,sep,h0,h1,ha,h=>by
  rw[prsL];refine Va5 (PA s v) (λ_=>PA5 s v) (λq=>?_);have q:=Zk q;have hr:=rdiG_bd s v a ha h0 kv;obtain⟨r1,r2,r3,r4⟩:=hr;refine Va5 (PA s v) (λ_=>⟨ha,λ_=>⟨by show v<v+1;omega,by show v+1<=_;omega⟩⟩) (λ_=>Va5 (PA s v) (λ_=>PA5 s v) (λ_=>Va5 (PA s v) (λq2=>⟨few0,λh=>?_⟩) (λq2=>?_)))
  ·exact Z1 h (Yt.1 q2)
  ·have h4:=r4 (Va7 q2);have hs:=Vc4 s (rdiG s v a).1.1 r2;have ih:=prsL_bd s n (skpS s (rdiG s v a).1.1) (rdiG s v a).2 (Zh (skpS s (rdiG s v a).1.1>(rdiG s v a).1.1)) kv kv r1 kv;exact⟨ih.1,λh=>by have:=ih.2 h;omega⟩
def prsA_bd(s:C)(i:I):PA s i (prsA s i):=by
 unfold prsA;refine Va5 (PA s i) (λ_=>PA5 s i) (λq=>?_);obtain⟨q,_⟩:=Va8 q;obtain⟨q1,q2⟩:=Va8 q;have q1:=Zk q1;have q2:=Zk q2;have hs:=Vc4 s (i+1) kv;have ih:=prsL_bd s (s.size+2) (skpS s (i+1)) aZ K kv kv few0 kv;exact⟨ih.1,λh=>by have:=ih.2 h;omega⟩
end Go.Proofs.YthbpjmogdonlkaaGreatDoor
namespace Go.Eng
section
variable {P:Dl}
def mgetS(ks:F I)(l:F SV)(s:I):SV:=match Vbq ks s with
 |some j=>l.getD j .junk
 |none=>.nil
def Vgq(ks:F I)(s:I):F Int:=match Vbq ks s with
 |some _=>ks
 |none=>ks++[s]
def mputS(ks:F I)(l:F SV)(s:I)(v:SV):F SV:=match Vbq ks s with
 |some j=>l.set j v
 |none=>l++[v]
def RepSs.set{G:Gh}{w:Qx}:∀ {l:F SV} {us:F Qm} (n:J) {x:SV} {u:Qm},J6 G w l us->Jc G w x u->J6 G w (l.set n x) (us.set n u)
 |[],us,n,x,u,h,_=>by simp only[J6]at h;subst h;simp[J6]
 |y::l,us,0,x,u,h,hx=>by
  obtain⟨v,us1,rfl,h2,h3⟩:=h;exact⟨u,us1,rfl,hx,h3⟩
 |y::l,us,n+1,x,u,h,hx=>by
  obtain⟨v,us1,rfl,h2,h3⟩:=h;exact⟨v,us1.set n u,rfl,h2,RepSs.set n h3 hx⟩
def mi_weak{S:St}{b:J}(hb:S.bx.lookup b=O (.map [] [])):Q5 S (S.setBox b (.mi [] [])):=by
 intro G w a hr;refine⟨hr.wf,hr.size,hr.fr,λp hp=>?_,hr.gn,hr.defers⟩;simp only[St.setBox,Yq]at hp;obtain⟨q,hq,rfl⟩:=hp
 split
 ·rename_i hqb;obtain⟨blk,ents,clock,g1,g2,g3,g4,g5,g6⟩:=hr.bx _ (Vag hb);have h0:ents.toList=[]:=by
   have:=Iz Q1 g4;simpa using this
  refine⟨blk,ents,clock,by rw[hqb];exact g1,g2,g3,g4,by rw[h0];rfl,g6⟩
 ·exact hr.bx q hq
def Vks{o:Iu}{S:St}{t k e:Dv}{sz bt b:J}{x i:J4}{ks:F I}{l:F SV}{s:I}(ho:o.op=.lookup t x i B)(hx:S.ev x=.mp b)(hi:S.ev i=.av (.val (.int .i64 s)))
  (ht:tMap P t=O (k,e)) (hk:P.underlying k=O (.int .i64)) (hz:Van P e=O (sz,bt,O (.slice Y5 0 0))) (hb:S.bx.lookup b=O (.mi ks l)):I2 P o S ⟨Z5,mgetS ks l s,S⟩:=
 Sound.still λ_ G w a hr=>by
  have h2:=hr.ev x;rw[hx]at h2;obtain⟨blk,h3,h4⟩:=h2;have h5:=hr.ev i;rw[hi]at h5;simp only[Jc,Dy]at h5;obtain⟨blk',ents,clock,g1,g2,g3,g4,g5,g6⟩:=hr.bx _ (Vag hb);simp only at g1;rw[h3]at g1;simp at g1;subst g1;have hf:=Vfa s ents.toList ks 0 g4;have hlen:ents.toList.length=ks.length:=by simpa using Iz Q1 g4
  have run:∀ v,(Jq t (.map (O blk)) (.int .i64 s) B).run P w=.ok v w->(execOp a.eval o).run P w=.ok (.value v) w:=λv e1=>by simp only[execOp,ho,h4,h5.1,Sem.run_bind,e1];rfl
  cases hp:Vbq ks s with
  |none=>
   rw[hp]at hf;simp only[Js]at hf;refine⟨.slice Y5 0 0,run _ ?_,?_⟩
   ·simp[Jq,Va0 (Vcp ht),Xi g2,Xq hk (Vdp s),Xv hk hf,Var hz]
   ·unfold mgetS;rw[hp];rfl
  | some j=>
   have hj:=Vdn hp;have hjl:j<ks.length:=by
    rcases Xs j ks.length with h|h
    ·exact h
    ·simp[Zx h]at hj
   have hje:j<ents.toList.length:=kv;rw[hp]at hf;simp only[Q7,Zi hje,Y7]at hf;refine⟨(ents.toList[j]'hje).val,run _ ?_,?_⟩
   ·simp[Jq,Va0 (Vcp ht),Xi g2,Xq hk (Vdp s),Xv hk hf]
   ·have hvl:l.length=ents.toList.length:=by rw[<-g5.length];simp
    have hjv:j<l.length:=kv;unfold mgetS;rw[hp];simp only[Ze,Zi hjv,Yz];obtain⟨u,e1,e2⟩:=g5.get j l[j] (Zi hjv);simp only[Yd,Zi hje,Y7,Xa]at e1;rw[e1];exact e2
def Viv{t k e:Dv}(ht:tMap P t=O (k,e))(hk:P.underlying k=O (.int .i64)){w:Qx}{b:J}{ents:Xw J7}{clock:J}
  (hb:w.heap[b]? =O (.map ents clock)) {ks:F I} (hks:ents.toList.map (·.key)=ks.map (.int .i64)) (s:I) (v:Qm) (hborn:∀ e∈ents.toList,e.born<clock):
  ∃(ents':Xw J7)(clock':J),(Iq t (.map (O b)) (.int .i64 s) v).run P w=.ok () {w with heap:=w.heap.setIfInBounds b (.map ents' clock')}/\ents'.toList.map (·.key)=(Vgq ks s).map (.int .i64)/\
   (∀e∈ents'.toList,e.born<clock')/\ents'.toList.map (·.val)=(match Vbq ks s with|some j=>(ents.toList.map (·.val)).set j v|none=>ents.toList.map (·.val)++[v]):=by
 have hf:=Vfa s ents.toList ks 0 hks;have hlen:ents.toList.length=ks.length:=by simpa using Iz Q1 hks
 cases hp:Vbq ks s with
 | none=>
  rw[hp]at hf;simp only[Js]at hf;refine⟨ents.push {key:=.int .i64 s,val:=v,born:=clock},clock+1,?_,?_,?_,?_⟩
  ·simp[Iq,Va0 (Vcp ht),Xi hb,Xq hk (Vdp s),Xv hk hf,Ik _ hb]
  ·simp only[Vgq,hp,Jr,Qk,hks];simp
  ·intro e he;simp only[Jr,Z0,Zv]at he;rcases he with he|rfl
   ·have:=hborn e he;omega
   ·simp
  ·simp
 | some j=>
  have hj:=Vdn hp;have hjl:j<ks.length:=by
   rcases Xs j ks.length with h|h
   ·exact h
   ·simp[Zx h]at hj
  have hje:j<ents.toList.length:=kv;have hje':j<ents.size:=by simpa using hje
  rw[hp]at hf;simp only[Q7,Zi hje,Y7]at hf;have hkey:(ents.toList[j]'hje).key=.int .i64 s:=by
   have:=Iz (λl=>l[j]?) hks;simp only[Yd,Zi hje,hj,Y7,Xa]at this;exact this
  have hkey':ents[j].key=.int .i64 s:=by simpa using hkey
  have hmod:∀ f:J7->J7,(ents.modify j f).toList=ents.toList.modify j f:=λf=>by simp
  refine⟨ents.modify j (λe=>{e with key:=.int .i64 s,val:=v}),clock,?_,?_,?_,?_⟩
  ·simp[Iq,Va0 (Vcp ht),Xi hb,Xq hk (Vdp s),Xv hk hf,hje',hkey',MapKept.run_keyThatStays (Vdp s),Ik _ hb]
  ·simp only[Vgq,hp,hmod, <-hks];apply Xe;intro i;simp only[Yd,Qh];cases he:ents.toList[i]? with
   |none=>simp
   |some e=>
    simp only[Y7,Jk]
    split
    ·rename_i hij;subst hij;rw[Zi hje]at he;simp only[Xa]at he;subst he;simp only[Y7];rw[hkey]
    ·simp
  ·intro e he;simp only[hmod]at he;obtain⟨i,hi⟩:=List.mem_iff_getElem?.1 he;simp only[Qh]at hi;cases hx:ents.toList[i]? with
   |none=>rw[hx]at hi;simp at hi
   |some e0=>
    rw[hx]at hi;have h0:=hborn e0 (I6 hx);simp only[Jk,Y7]at hi
    split at hi
    ·simp only[Xa]at hi;rw[<-hi];exact h0
    ·simp only[id_eq,Xa]at hi;rw[<-hi];exact h0
  ·simp only[hmod];apply Xe;intro i;simp only[Yd,Qh,Xd,Yw]
   by_cases hij:j=i
   ·subst hij;simp[hje']
   ·rw[Zy hij];cases he:ents.toList[i]? with
    |none=>simp
    |some e=>simp[hij]
def Vhl{o:Iu}{S:St}{t k e:Dv}{x i y:J4}{b:J}{ks:F I}{l:F SV}{s:I}{v:SV}(ho:o.op=.mapUpdate t x i y)(hx:S.ev x=.mp b)(hi:S.ev i=.av (.val (.int .i64 s)))(hy:S.ev y=v)
  (ht:tMap P t=O (k,e)) (hk:P.underlying k=O (.int .i64)) (hb:S.bx.lookup b=O (.mi ks l)):I2 P o S ⟨Z5,Vav,S.setBox b (.mi (Vgq ks s) (mputS ks l s v))⟩:=by
 intro _ G w a hr;have h2:=hr.ev x;rw[hx]at h2;obtain⟨blk,h3,h4⟩:=h2;have h5:=hr.ev i;rw[hi]at h5;simp only[Jc,Dy]at h5;have h6:=hr.ev y;rw[hy]at h6;obtain⟨blk',ents,clock,g1,g2,g3,g4,g5,g6⟩:=hr.bx _ (Vag hb);simp only at g1;rw[h3]at g1;simp at g1;subst g1;obtain⟨ents',clock',e1,e2,e3,e4⟩:=Viv (P:=P) ht hk g2 g4 s (a.eval y) g6;obtain⟨s1,s2,s3⟩:=Vh3 hr.wf h3 g2 g3 (.map ents' clock');have hper:∀ s u,Jc G w s u->Jc G {w with heap:=w.heap.setIfInBounds blk (.map ents' clock')} s u:=λs u hs=>hs.persist s1.toExt (λ_ _=>rfl)
 refine⟨.skip,Dg,_,G,?_,.inr ⟨rfl,rfl⟩,s1,⟨s2,hr.size,λt s ht=>hper _ _ (hr.fr t s ht),λp hp=>?_,hr.gn,hr.defers⟩,?_,λ_ _=>rfl⟩
 ·simp only[execOp,ho,h4,h5.1,Sem.run_bind,e1];rfl
 ·simp only[St.setBox,Yq]at hp;obtain⟨q,hq,rfl⟩:=hp
  split
  ·rename_i hqb;refine⟨blk,ents',clock',by rw[hqb];exact h3,(MapKept.heap_set g2).1,g3,e2,?_,e3⟩;rw[e4];unfold mputS;have g5':J6 G {w with heap:=w.heap.setIfInBounds blk (.map ents' clock')} l (ents.toList.map (·.val)):=RepSs.persistL s1.toExt (λ_ _=>rfl) g5;have h6':=hper _ _ h6;cases Vbq ks s with
   |none=>exact g5'.append ⟨_,[],rfl,h6',rfl⟩
   |some j=>exact g5'.set j h6'
  ·rename_i hqb;exact(hr.bx q hq).persist s1.toExt (s3 (q.1,0) (by simpa using hqb)) (λ_ _=>rfl)
 ·simp only[Vav,Jc,Dy];exact⟨#[],rfl,by simp[RepL]⟩
def Vg4{S:St}{c k id:J}{ks:F I}{l:F SV}{vs:F AV}(hs:Vgc S c k=.mp id)(hc:c≠id)(hb:S.bx.lookup id=O (.mi ks l))(hl:∀(G:Gh)(w:Qx)(us:F Qm),J6 G w l us->RepL G.U w vs us):
  Ghost S (Vd0 (S.forget id) c k (.av (.im ks vs))):=by
 intro G w a hr;obtain⟨blk,ents,clock,g1,g2,g3,g4,g5,g6⟩:=hr.bx _ (Vag hb);simp only at g1;have hU:∀ b,G.U b<=(G.setU blk 1).U b:=by
  intro b;simp only[Gh.setU];split
  ·rename_i h;rw[h,g3];omega
  ·omega
 have hkp:∀ κ,κ≠(id,0)->Keep G w (G.setU blk 1) w κ:=λκ hκ=>⟨rfl,λb hb'=>⟨rfl,by
  simp only[Gh.setU];rw[Zy (λhe=>hκ (hr.wf.inj κ (id,0) b hb' (by rw[he];exact g1)))]⟩⟩
 have hstep:Step G w (G.setU blk 1) w:=⟨⟨hU,Imm.refl _ _,Zm _,rfl,rfl,rfl,λ_ _=>rfl,λ_=>Zm _,λκ h0 _=>hkp κ (by intro e;rw[e]at h0;simp at h0)⟩,
  λb _ hn=>⟨rfl,by simp only[Gh.setU];rw[Zy (λhe=>hn (id,0) (by rw[he];exact g1))]⟩,λκ b h=>.inl ⟨κ,h⟩⟩
 have hlt:=hr.wf.lt _ _ g1;have hwf:Wf (G.setU blk 1) w:=⟨hr.wf.inj,hr.wf.lt,λb hb'=>by simp only[Gh.setU];rw[Zy kv];exact hr.wf.zero b hb'⟩
 have hr1:Rel (G.setU blk 1) w (S.forget id) a:=(hr.forget id).but (Vhc S id) hstep.toExt hwf hkp rfl;refine⟨_,hstep,?_,λ_ _=>rfl⟩;have hrep:∀ u,Jc G w (.mp id) u->Dy (G.setU blk 1).U w (.im ks vs) u:=by
  rintro u ⟨blk',h1,rfl⟩;rw[g1]at h1;simp at h1;subst h1;simp only[Dy];exact⟨blk,ents,clock,rfl,by simp[Gh.setU],g2,g4,RepL.mono hU (Imm.refl _ _) _ _ (hl G w _ g5)⟩
 unfold Vd0
 split
 ·rename_i ty l' hl';refine⟨hr1.wf,hr1.size,hr1.fr,λp hp=>?_,hr1.gn,hr1.defers⟩;simp only[St.setBox,Yq]at hp;obtain⟨q,hq,rfl⟩:=hp
  split
  ·rename_i hqb;have hb1:=hr1.bx _ (Vag hl');simp only at hb1 ⊢;rw[hqb];obtain⟨b2,arr,q1,q2,q3,q4,q5⟩:=hb1;refine⟨b2,arr,q1,q2,q3,?_,q5⟩
   -- the value that stands there
   unfold Vgc at hs
   split at hs
   ·rename_i ty0 l0 hl0;have hb0:=hr.bx _ (Vag hl0);simp only at hb0;obtain⟨b3,arr3,p1,p2,p3,p4,p5⟩:=hb0;have he:b3=b2:=by
     have:(G.setU blk 1).ow (c,0)=G.ow (c,0):=rfl;rw[this,p1]at q1;exact Qj q1
    subst he;rw[p2]at q2;obtain⟨rfl,_⟩:arr3=arr/\ty0=ty:=by simpa using q2
    have hk:k<l0.length:=by
     rcases Xs k l0.length with h|h
     ·exact h
     ·rw[Ze,Zx h]at hs;cases hs
    have hk2:l0[k]? =O (.mp id):=by
     rw[Ze,Zi hk]at hs;rw[Zi hk];simpa using hs
    obtain⟨u,e1,e2⟩:=p4.get k _ hk2;have hset:arr3.toList.set k u=arr3.toList:=by
     apply Xe;intro i;rw[Xd]
     split
     ·rename_i hi;subst hi
      split
      ·exact e1.symm
      ·rename_i hlt;rw[Zx kv]at e1;cases e1
     ·rfl
    rw[<-hset];exact q4.set k (show Jc (G.setU blk 1) w (.av (.im ks vs)) u from hrep u e2)
   ·cases hs
  ·exact hr1.bx q hq
 ·exact hr1
def WA_one{ops:Xw Iu}{Q:St->Prop}{fuel i:J}{L:Xw Yv}{S:St}{o:Iu}{r:Res}(hr:Region.ready .any ops L=[i])(ho:ops[i]? =O o)(hg:o.guard=Y5)(hs:I2 P o S r)(hok:r.ok)
  (h:WA P ops Q fuel (L.setIfInBounds i K) (r.st.put o.dst r.v)):WA P ops Q (fuel+1) L S:=by
 intro Q' G w a hrl k;refine Vjg hr ?_;obtain⟨nx,v,w',G',h1,h2,h3,h4,h5,h6⟩:=hs hok G w a hrl;unfold wpOp;simp only[ho];rw[Zs (Vat hg a)];refine .inl ?_;unfold Ih;rw[h1];have fin:∀ u,Jc G' w' r.v u->wpAny P .any ops Q' fuel (L.setIfInBounds i K) (a.put o.dst u) w':=λu hu=>h Q' G' w' _ (h4.put o.dst hu) (λS2 G2 a2 w2 q1 q2 q3 q4=>k S2 G2 a2 w2 q1 (h3.trans q2) q3 (λi hi=>(q4 i hi).trans (h6 i hi)))
 rcases h2 with rfl|⟨rfl,rfl⟩
 ·rw[Xl];exact fin _ h5
 ·rw[I3];exact fin _ h5
def WA_nil{ops:Xw Iu}{Q:St->Prop}{L:Xw Yv}{S:St}(hd:Region.ready .any ops L=[])(hQ:Q S):WA P ops Q 0 L S:=by
 intro Q' G w a hrl k;exact⟨hd,k S G a w hQ (Step.refl G w) hrl (λ_ _=>rfl)⟩
def headsE(ops:Xw Iu)(n:J):Bool:=
 decide (n<=ops.size)&&(Xj n).all (λi=>(Vk0 ops i).all (λd=>decide (d<i)))&&(Xj ops.size).all (λi=>decide (i<n)||(Xj n).all (λj=>(Vk0 ops i).contains j))
def W_headE{id:J}{ops:Xw Iu}{Q:Exit->St->Prop}{S Sc:St}(hm:P.follows .mixedOrders=K)(n m:J)(gn1:F (Key×J))(v:J->SV)(d:J->J)(hB:headsE ops n=K)
  (hd:∀ i,i<n->∃ o,ops[i]? =O o/\o.dst=O (d i)/\o.guard=Y5) (hinj:∀ i j,i<n->j<n->d i=d j->i=j) (hlt:∀ i,i<n->d i<S.fr.length)
  (hop:∀ i,i<n->∀ o,ops[i]? =O o->∀ S':St,S'.bx=S.bx->S'.fr.length=S.fr.length->(∀e∈o.after,Region.binds .any e=K->e.on<n->S'.fr[d e.on]? =O (v e.on))->(∀t:J,(∀j,j<n->t≠d j)->S'.fr[t]? =S.fr[t]?)->
   (i≠m->I2 P o S' ⟨Z5,v i,S'⟩)/\(i=m->S'.gn=S.gn->I2 P o S' ⟨Z5,v i,{S' with gn:=gn1}⟩))
  (hS1:Sc.bx=S.bx) (hS2:Sc.gn=if m<n then gn1 else S.gn) (hS3:∀ j,j<n->Sc.fr[d j]? =O (v j)) (hS4:∀ t:J,(∀j,j<n->t≠d j)->Sc.fr[t]? =S.fr[t]?)
  (h:WA P ops (Q .normal) (ops.size-n) (upTo ops.size n) Sc):W P (.region id ops K) Q S:=by
 simp only[headsE,Zt,Zr,Xz,I4,Yr,List.contains_eq_mem]at hB;obtain⟨⟨hle,hlow⟩,hhi⟩:=hB;intro G0 w0 a0 hr0;obtain⟨hstep0,hr0'⟩:=hr0.draw;apply wp_region_any hm;have main:∀(f:J)(listed:Xw Yv)(G:Gh)(w:Qx)(a:Act)(S':St),(Xj n).countP (λi=> !listed.getD i B)=f->listed.size=ops.size->(∀j,n<=j->listed.getD j B=B)->S'.bx=S.bx->(S'.gn=if listed.getD m B then gn1 else S.gn)->S'.fr.length=S.fr.length->
   (∀j,j<n->listed.getD j B=K->S'.fr[d j]? =O (v j))->(∀t:J,(∀j,j<n->t≠d j)->S'.fr[t]? =S.fr[t]?)->Rel G w S' a->Step G0 w0 G w->(∀i,Fx i->G.ow (i,0)=G0.ow (i,0))->wpAny P .any ops (lift Q G0 w0) (f+(ops.size-n)) listed a w:=by
  intro f
  induction f with
  | zero=>
   intro listed G w a S' hb hsz hun h1 h2 h3 h4 h5 hr hst how;have hall':∀ j,j<n->listed.getD j B=true:=λj hj=>by
    rw[List.countP_eq_zero]at hb;simpa using hb j (I4.2 hj)
   have hfr:S'.fr=Sc.fr:=by
    apply Xe;intro t
    by_cases ht:∃ j,j<n/\t=d j
    ·obtain⟨j,hj,rfl⟩:=ht;rw[h4 j hj (hall' j hj),hS3 j hj]
    ·have ht':∀ j,j<n->t≠d j:=λj hj e=>ht ⟨j,hj,e⟩
     rw[h5 t ht',hS4 t ht']
   have hgn:S'.gn=Sc.gn:=by
    rw[h2,hS2]
    by_cases hmn:m<n
    ·rw[Zs hmn,hall' m hmn];rfl
    ·rw[Zy hmn,hun m kv];rfl
   have hSS:S'=Sc:=by
    obtain⟨f1,b1,g1⟩:=S';obtain⟨f2,b2,g2⟩:=Sc;simp only at hfr h1 hgn hS1;rw[hfr,h1,hgn,hS1]
   subst hSS;rw[upTo_eq hsz hall' hun,Y1];exact h (lift Q G0 w0) G w a hr (λS2 G2 a2 w2 q1 q2 q3 q4=>⟨S2,G2,q1,hst.trans q2,q3,λi hi=>(q4 i hi).trans (how i hi)⟩)
  | succ f ih=>
   intro listed G w a S' hb hsz hun0 h1 h2 h3 h4 h5 hr hst how;rw[show f+1+(ops.size-n)=(f+(ops.size-n))+1 by omega];refine⟨λh0=>?_,λi hi=>?_⟩
   ·obtain⟨i,hi,hmin⟩:∃ i,(i<n/\listed.getD i B=B)/\∀ j,j<i->listed.getD j B=true:=by
     obtain⟨i,h1,h2⟩:=Vi6 hb;obtain⟨k,k1,k2,k3⟩:=least (p:=λj=> !listed.getD j B) i h2;exact⟨k,⟨kv,by simpa using k1⟩,λj hj=>by simpa using k3 j hj⟩
    have hio:i<ops.size:=kv;have:i∈Region.ready .any ops listed:=by
     rw[mem_ready];refine⟨by rw[Vi0 kv];exact hi.2,ops[i],Y6 hio,λe he hb=>hmin _ ?_⟩;exact hlow i hi.1 _ ((Vhw (Y6 hio)).2 ⟨e,he,hb,rfl⟩)
    rw[h0]at this;cases this
   ·obtain⟨hun,o,ho,hdep⟩:=mem_ready.1 hi;have hlisted:i<listed.size:=by rw[hsz];exact(Array.getElem?_eq_some_iff.1 ho).1
    rw[Vi0 hlisted]at hun;have hin:i<n:=by
     rcases hhi i kv with hq|hq
     ·exact hq
     ·exfalso;obtain⟨j,hj1,hj2⟩:=Vi6 hb;have hq:=hq j hj1;rw[Vhw ho]at hq;obtain⟨e,q1,q2,q3⟩:=hq;have:=hdep e q1 q2;rw[q3]at this;rw[this]at hj2;cases hj2
    obtain⟨o',ho',hdst,hg⟩:=hd i hin;have:o'=o:=Qj (ho'.symm.trans ho);subst this;obtain⟨hq1,hq2⟩:=hop i hin o' ho S' h1 h3 (λe he hbe hen=>h4 e.on hen (hdep e he hbe)) h5;have hsm:∀ j,j≠i->(listed.setIfInBounds i K).getD j B=listed.getD j false:=λj hj=>by
     simp only[Zn];rw[Array.getElem?_setIfInBounds_ne (λe=>hj e.symm)]
    have hsi:(listed.setIfInBounds i K).getD i B=true:=by
     simp[Zn,hlisted]
    have key:∀ S2:St,S2.fr=S'.fr->S2.bx=S'.bx->(S2.gn=if(listed.setIfInBounds i K).getD m B then gn1 else S.gn)->I2 P o' S' ⟨Z5,v i,S2⟩->wpOp P ops (lift Q G0 w0) i (wpAny P .any ops (lift Q G0 w0) (f+(ops.size-n)) (listed.setIfInBounds i K)) a w:=by
     intro S2 r1 r2 r3 hsd;obtain⟨nx,u,w',G',x1,x2,x3,x4,x5,x6⟩:=hsd Zb G w a hr;unfold wpOp;simp only[ho];rw[Zs (Vat hg a)];refine .inl ?_;have next:∀ u,Jc G' w' (v i) u->wpAny P .any ops (lift Q G0 w0) (f+(ops.size-n)) (listed.setIfInBounds i K) (a.put o'.dst u) w':=by
      intro u hu;refine ih _ G' w' _ (S2.put (O (d i)) (v i)) ?_ (by simp[hsz]) (λj hj=>?_) (r2.trans h1) r3 (by simp[St.put,r1,h3]) (λj hj hl=>?_) (λt ht=>?_) (by rw[hdst];exact x4.put (O (d i)) hu) (hst.trans x3) (λi hi=>(x6 i hi).trans (how i hi))
      ·exact Vjf hin (by simp[hun]) (by simp[hsi]) (λj hj=>by rw[hsm j hj]) hb
      ·rw[hsm j kv];exact hun0 j hj
      ·simp only[St.put,Xd,r1]
       by_cases hji:d i=d j
       ·have:=hinj i j hin hj hji;subst this;rw[Zs rfl,Zs (by rw[h3];exact hlt i hin)]
       ·rw[Zy hji];refine h4 j hj ?_;rw[<-hl,hsm j (λe=>hji (by rw[e]))]
      ·simp only[St.put,Xd,r1];rw[Zy (λe=>ht i hin e.symm)];exact h5 t ht
     unfold Ih;rw[x1];rcases x2 with rfl|⟨rfl,rfl⟩
     ·rw[Xl];exact next _ x5
     ·rw[I3];exact next _ x5
    by_cases him:i=m
    ·subst him;rw[hun]at h2;exact key {S' with gn:=gn1} rfl rfl (by rw[hsi];rfl) (hq2 rfl h2)
    ·exact key S' rfl rfl (by rw[hsm m (λe=>him e.symm)];exact h2) (hq1 him)
 have:=main ((Xj n).countP (λi=> !(Ir ops.size B).getD i B)) (Ir ops.size B) G0 _ a0 S rfl ku (λj _=>Xn _ _) rfl (by rw[Xn];rfl) rfl (λj _ hl=>by rw[Xn]at hl;cases hl) (λ_ _=>rfl) hr0' hstep0 (λ_ _=>rfl);have hcnt:(Xj n).countP (λi=> !(Ir ops.size B).getD i B)=n:=by
  rw[List.countP_eq_length.2 (λi _=>by rw[Xn];rfl),List.length_range]
 rw[hcnt,show n+(ops.size-n)=ops.size by omega]at this;exact this
end
section
variable {P:Dl}
def WO_maps{ops:Xw Iu}{o1 o2 o3:Iu}{rest:F Iu}{Q:St->Prop}{S:St}{t m1 m2 d1 d2 bt b1 b2:J}{pl:F (J×J)}{S2:St}{l2:F SV}
  (ho1:(o1.op,o1.dst,o1.guard)=(.build t #[(0,.tmp m1),(1,.tmp m2)],O d1,Y5)) (ho2:(o2.dst,o2.guard)=(O d2,Y5)) (ho3:(o3.op,o3.dst,o3.guard)=(.store t (.tmp d2) (.tmp d1),Y5,Y5))
  (hi:Van P t=O (2,bt,O (.agg #[.map Y5,.map Y5]))) (hpl:Vfr P t=O pl) (hp0:pl[0]? =O (0,1)) (hp1:pl[1]? =O (1,1)) (hm1:S.fr[m1]? =O (.mp b1)) (hm2:S.fr[m2]? =O (.mp b2)) (hl1:d1<S.fr.length) (hl3:d2<S.fr.length) (hne:(m1≠d1/\m2≠d1/\d1≠d2)/\m1≠d2/\m2≠d2)
  (ha:Vb8 P o2 (S.put (O d1) .junk)=O ⟨Z5,.ptr d2 0,S2⟩) (h1':(S2.put (O d2) (.ptr d2 0)).fr[m1]? =O (.mp b1)) (h2':(S2.put (O d2) (.ptr d2 0)).fr[m2]? =O (.mp b2)) (hb2:S2.bx.lookup d2=O (.cells t l2)) (hlen:l2.length=2)
  (h:WO P ops rest Q ((S2.put (O d2) (.ptr d2 0)).setBox d2 (.cells t [.mp b1,.mp b2]))):WO P ops (o1::o2::o3::rest) Q S:=by
 simp only[Q4]at ho1 ho2 ho3;obtain⟨ho1,hd1,hg1⟩:=ho1;obtain⟨hd2,hg2⟩:=ho2;obtain⟨ho3,hd3,hg3⟩:=ho3;intro more Q' G w a hr hq;have hsz:a.tmps.size=S.fr.length:=hr.size.symm;have r1:=hr.fr m1 _ hm1;have r2:=hr.fr m2 _ hm2;obtain⟨u1,eu1⟩:∃ u,a.eval (.tmp m1)=u:=⟨_,rfl⟩
 obtain⟨u2,eu2⟩:∃ u,a.eval (.tmp m2)=u:=⟨_,rfl⟩
 have r1':Jc G w (.mp b1) u1:=by rw[<-eu1];exact r1
 have r2':Jc G w (.mp b2) u2:=by rw[<-eu2];exact r2
 obtain⟨k1,q1,rfl⟩:=id r1';obtain⟨k2,q2,rfl⟩:=id r2';have hf:Da (λi=>pl[i]?) (Value.agg #[.map Y5,.map Y5]).cells [(0,.map (O k1)),(1,.map (O k2))]=O #[.map (O k1),.map (O k2)]:=by
  have h0:Da (λi=>([(0,1),(1,1)]:F (J×J))[i]?) (Value.agg #[.map Y5,.map Y5]).cells [(0,.map (O k1)),(1,.map (O k2))]=O #[.map (O k1),.map (O k2)]:=kx;refine Vi1 (p2:=λi=>pl[i]?) (λi q hq=>?_) _ _ _ h0
  match i,hq with
  |0,hq=>rw[hp0];exact hq
  |1,hq=>rw[hp1];exact hq
  |i+2,hq=>simp at hq
 have x1:(execOp a.eval o1).run P w=.ok (.value (.agg #[.map (O k1),.map (O k2)])) w:=by
  unfold Vfr at hpl
  split at hpl
  ·rename_i fs hu;have hmm:=run_places w fs.toList _ hpl;have hm2:(fs.mapM (λf=>do pure (f.offset, <-sizeOf f.type)):Sem (Xw (J×J))).run P w=.ok pl.toArray w:=by
    rw[Qw];simp only[Sem.run_map,hmm,Qz]
   simp only[bind_pure_comp]at hm2;simp[execOp,ho1,Du,Var hi,Va0 hu,hm2,eu1,eu2,hf]
  ·simp at hpl
 simp only[Ju,wpList];rw[Zs (Vat hg1 a)];refine .inl ?_;unfold Ih;rw[x1,Xl,hd1];have hr1:Rel G w (S.put (O d1) .junk) (a.put (O d1) (.agg #[.map (O k1),.map (O k2)])):=hr.put (O d1) Zb;have ed1:(a.put (O d1) (.agg #[.map (O k1),.map (O k2)])).eval (.tmp d1)=.agg #[.map (O k1),.map (O k2)]:=Nb_same kv;have em1:(a.put (O d1) (.agg #[.map (O k1),.map (O k2)])).eval (.tmp m1)=.map (O k1):=by rw[Vih hne.1.1];exact eu1
 have em2:(a.put (O d1) (.agg #[.map (O k1),.map (O k2)])).eval (.tmp m2)=.map (O k2):=by rw[Vih hne.1.2.1];exact eu2
 have esz:(a.put (O d1) (.agg #[.map (O k1),.map (O k2)])).tmps.size=S.fr.length:=by rw[<-hr1.size];simp[St.put]
 generalize a.put (O d1) (.agg #[.map (O k1),.map (O k2)])=a9 at hr1 ed1 em1 em2 esz ⊢;rw[Zs (Vat hg2 _)];refine .inl ?_
 try unfold Ih
 obtain⟨nx,v,w',G',y1,y2,y3,y4,y5,y6⟩:=Vay ha Zb G w a9 hr1;obtain⟨blk,p1,rfl⟩:=id y5;rw[y1];rcases y2 with rfl|⟨_,e⟩
 ·rw[Xl,hd2];have hr3:=y4.put (O d2) y5;have s1:=hr3.fr m1 _ h1';have s2:=hr3.fr m2 _ h2';have e1:(a9.put (O d2) (.pointer (O ⟨blk,0,Y5⟩))).eval (.tmp d1)=.agg #[.map (O k1),.map (O k2)]:=by rw[Vih hne.1.2.2];exact ed1
  have e2:(a9.put (O d2) (.pointer (O ⟨blk,0,Y5⟩))).eval (.tmp d2)=.pointer (O ⟨blk,0,Y5⟩):=Nb_same kv;have e3:(a9.put (O d2) (.pointer (O ⟨blk,0,Y5⟩))).eval (.tmp m1)=.map (O k1):=by rw[Vih hne.2.1];exact em1
  have e4:(a9.put (O d2) (.pointer (O ⟨blk,0,Y5⟩))).eval (.tmp m2)=.map (O k2):=by rw[Vih hne.2.2];exact em2
  rw[show(a9.put (O d2) (.pointer (O ⟨blk,0,Y5⟩))).tmps.getD m1 Dg=.map (O k1)from e3]at s1;rw[show(a9.put (O d2) (.pointer (O ⟨blk,0,Y5⟩))).tmps.getD m2 Dg=.map (O k2)from e4]at s2;generalize a9.put (O d2) (.pointer (O ⟨blk,0,Y5⟩))=a3 at hr3 e1 e2 ⊢;obtain⟨w3,z1,z2,z3⟩:=hr3.storeBox hb2 p1 0 (xs:=[.mp b1,.mp b2]) (vs:=[.map (O k1),.map (O k2)]) ⟨_,_,rfl,s1,_,_,rfl,s2,rfl⟩ (by intro x hx;simp only[Ys,Yg,Qb]at hx;rcases hx with rfl|rfl <;>rfl) (by simp;omega);rw[show l2.take 0++[SV.mp b1,.mp b2]++l2.drop (0+[SV.mp b1,.mp b2].length)=[.mp b1,.mp b2] by rw[List.take_zero,List.nil_append,Xk (by simp;omega),J1]]at z3;rw[Zs (Vat hg3 _)];refine .inl ?_
  try unfold Ih
  have x3:(execOp a3.eval o3).run P w'=.ok .skip w3:=by
   simp[execOp,ho3,e1,e2,Instr.storeAt,Instr.sureAddr,storeVar,Vae hi,Value.cells,z1 P]
  rw[x3,I3,hd3];exact h more Q' _ _ _ z3 (λS' G2 a2 w4 t1 t2 t3 t4=>hq S' G2 a2 w4 t1 ((y3.trans z2).trans t2) t3 (λi hi'=>(t4 i hi').trans (y6 i hi')))
 ·cases e
def rowsG_lk(b e:J)(R:J->F AV)(n:J)(κ:Key):(rowsG b e R n).lookup κ=if κ.2=e+1/\b<=κ.1/\κ.1<b+n then O (R (κ.1-b)).length else none:=by
 have gen:∀(l:F J),(l.map (λj=>(rowK b e j,(R j).length))).lookup κ=if κ.2=e+1/\b<=κ.1/\(κ.1-b)∈l then O (R (κ.1-b)).length else none:=by
  intro l
  induction l with
  |nil=>simp
  | cons j l ih=>
   rw[Xm,List.lookup_cons]
   by_cases h:κ=rowK b e j
   ·subst h;simp[rowK]
   ·rw[show(κ==rowK b e j)=B by rw[Ql];exact h];simp only[];rw[ih];have:(κ.2=e+1/\b<=κ.1/\κ.1-b∈j::l) ↔ (κ.2=e+1/\b<=κ.1/\κ.1-b∈l):=by
     constructor
     ·rintro⟨h1,h2,h3⟩;refine⟨h1,h2,?_⟩;rcases Ys.1 h3 with h3|h3
      ·exact Z1 (show κ=rowK b e j from by
        obtain⟨k1,k2⟩:=κ;simp only[rowK,Q4]at h1 h2 h3 ⊢
        exact⟨kv,h1⟩) h
      ·exact h3
     ·rintro⟨h1,h2,h3⟩;exact⟨h1,h2,Xc _ h3⟩
    simp only[this]
 have:=gen (Xj n);rw[rowsG,this];have h2:(κ.2=e+1/\b<=κ.1/\κ.1-b∈Xj n) ↔ (κ.2=e+1/\b<=κ.1/\κ.1<b+n):=by
  rw[I4];constructor <;>rintro⟨h1,h2,h3⟩ <;>exact⟨h1,h2,kv⟩
 simp only[h2]
def rwF(la:F (F I)):J->F AV:=λj=>(la.getD j []).map (λi=>.val (.int .i64 i))
def Vbp(ks:F I)(la:F (F I))(n i:I):F (F I):=match Vbq ks n with
 |some j=>la.set j (la.getD j []++[i])
 |none=>la++[[i]]
def rowJ(ks:F I)(la:F (F I))(n:I):Nat:=(Vbq ks n).getD la.length
def Vf8{ks:F I}{s:I}{j:J}(h:Vbq ks s=O j):j<ks.length:=by
 have:=Vdn h;rcases Xs j ks.length with h|h
 ·exact h
 ·simp[Zx h]at this
def Vgk{ks:F I}{la:F (F I)}(h:ks.length=la.length)(n i:I):(Vbp ks la n i).length=(Vgq ks n).length:=by
 unfold Vbp Vgq;cases Vbq ks n <;>simp[h]
def Vkz{ks:F I}{la:F (F I)}(h:ks.length=la.length)(n i:I)(j:J):rwF (Vbp ks la n i) j=if j=rowJ ks la n then rwF la j++[.val (.int .i64 i)]else rwF la j:=by
 unfold Vbp rowJ rwF;cases hp:Vbq ks n with
 |some k=>
  have hk:=Vf8 hp;simp only[Yz]
  by_cases e:j=k
  ·subst e;rw[Zs rfl,Ze,Im kv,Yz];simp
  ·rw[Zy e,Ze,I8 (λq=>e q.symm), <-Ze]
 | none=>
  simp only[Q6]
  by_cases e:j=la.length
  ·subst e;rw[Zs rfl];simp
  ·rw[Zy e];simp only[Ze];rcases Xs j la.length with q|q
   ·rw[Yk q]
   ·rw[Zx (l:=la) kv,Zx (l:=la++[[i]]) (by simp;omega)]
def rowAdd_rows{ks:F I}{la:F (F I)}(h:ks.length=la.length)(b e:J)(n i:I):
  mputS ks (Vdj b e (rwF la) la.length) n (.own (rowK b e (rowJ ks la n)) ((rwF la (rowJ ks la n)).length+1) 1 (rwF la (rowJ ks la n)++[.val (.int .i64 i)]))=Vdj b e (rwF (Vbp ks la n i)) (Vbp ks la n i).length:=by
 apply Xe;intro j;have hR:(Vdj b e (rwF (Vbp ks la n i)) (Vbp ks la n i).length)[j]? =if j<(Vbp ks la n i).length then O (.own (rowK b e j) (rwF (Vbp ks la n i) j).length 1 (rwF (Vbp ks la n i) j))else none:=by
  simp only[Vdj,Yd]
  split
  ·rename_i q;rw[Qp q];rfl
  ·rename_i q;rw[Zx (by simp;omega)];rfl
 have hL:(Vdj b e (rwF la) la.length)[j]? =if j<la.length then O (.own (rowK b e j) (rwF la j).length 1 (rwF la j))else none:=by
  simp only[Vdj,Yd]
  split
  ·rename_i q;rw[Qp q];rfl
  ·rename_i q;rw[Zx (by simp;omega)];rfl
 have hln:(Vdj b e (rwF la) la.length).length=la.length:=by simp[Vdj]
 rw[hR,Vkz h];unfold mputS;have hlen:=Vgk h n i;unfold Vgq at hlen;cases hp:Vbq ks n with
 |some k=>
  have hk:=Vf8 hp;rw[hp]at hlen;simp only[rowJ,hp,Yz]at hlen ⊢;rw[Xd,hL,hln]
  by_cases q:k=j
  ·subst q;rw[Zs rfl,Zs kv,Zs kv,Zs rfl];simp
  ·rw[Zy q,show(Vbp ks la n i).length=la.length by omega];simp only[Zy (show ¬j=k from λe=>q e.symm)]
 | none=>
  rw[hp]at hlen;simp only[rowJ,hp,Q6,Zz,Yn]at hlen ⊢
  by_cases q:j=la.length
  ·subst q;rw[Zs kv,Zs rfl,Qs kv,hln,Jl];simp
  ·simp only[Zy q];rcases Xs j la.length with r|r
   ·rw[Yk kv,hL,Zs r,Zs kv]
   ·rw[Zx (by simp[hln];omega),Zy kv]
def rnB2:Nat:=1099511627776
def rnG(e:J)(la ld:F (F I)):F (Key×J):=rowsG 5000 e (rwF la) la.length++rowsG rnB2 e (rwF ld) ld.length
def Vl0(e:J)(la ld:F (F I))(hl:la.length<=2147483648)(κ:Key):((rnG e la ld).lookup κ).getD 0=if κ.2=e+1/\5000<=κ.1/\κ.1<1099511627776 then(rwF la (κ.1-5000)).length else if κ.2=e+1/\1099511627776<=κ.1 then(rwF ld (κ.1-1099511627776)).length else 0:=by
 have h0:∀(l:F (F I))(j:J),l.length<=j->(rwF l j).length=0:=λl j hj=>by
  simp[rwF,Zx hj]
 rw[rnG,List.lookup_append,rowsG_lk,rowsG_lk];unfold rnB2
 by_cases h1:κ.2=e+1/\5000<=κ.1/\κ.1<5000+la.length
 ·rw[Zs h1,Option.some_or,Zs kv];rfl
 ·rw[Zy h1,Option.none_or]
  by_cases h2:κ.2=e+1/\1099511627776<=κ.1/\κ.1<1099511627776+ld.length
  ·rw[Zs h2,Zy (show ¬(κ.2=e+1/\5000<=κ.1/\κ.1<1099511627776) by omega),Zs kv];rfl
  ·rw[Zy h2];simp only[Q6]
   split
   ·rename_i h3;rw[h0];omega
   ·split
    ·rename_i h3 h4;rw[h0];omega
    ·rfl
def rnG_nextA{S:St}{e:J}{la ld:F (F I)}{ks:F I}(hg:S.gn=rnG e la ld)(hk:ks.length=la.length)(hl:la.length<2147483648)(n i:I)(κ:Key):(S.next (rowK 5000 e (rowJ ks la n))).gen κ=((rnG e (Vbp ks la n i) ld).lookup κ).getD 0:=by
 have hG:∀ κ,S.gen κ=((rnG e la ld).lookup κ).getD 0:=λκ=>by rw[<-hg];rfl
 have hj:rowJ ks la n<=la.length:=by
  unfold rowJ;cases hp:Vbq ks n with
  |none=>simp
  |some k=>have:=Vf8 hp;simp;omega
 have hlen:(Vbp ks la n i).length<=la.length+1:=by
  rw[Vgk hk];unfold Vgq;cases Vbq ks n <;>simp <;>omega
 rw[Vqy,hG,hG,Vl0 _ _ _ kv,Vl0 _ _ _ kv,Vl0 _ _ _ kv,Vkz hk]
 by_cases h:κ=rowK 5000 e (rowJ ks la n)
 ·subst h;rw[Zs rfl];have e1:(rowK 5000 e (rowJ ks la n)).2=e+1:=rfl;have e2:(rowK 5000 e (rowJ ks la n)).1=5000+rowJ ks la n:=rfl;rw[Zs kv,Zs kv,e2,Q9,Zs rfl];simp
 ·rw[Zy h]
  by_cases h2:κ.2=e+1/\5000<=κ.1/\κ.1<1099511627776
  ·rw[Zs h2,Zs h2,Zy];intro h3
   exact h (by
    obtain⟨k1,k2⟩:=κ;simp only[rowK,Q4]at h2 h3 ⊢
    exact⟨kv,h2.1⟩)
  ·rw[Zy h2,Zy h2]
def rnG_nextD{S:St}{e:J}{la ld:F (F I)}{ks:F I}(hg:S.gn=rnG e la ld)(hk:ks.length=ld.length)(hl:la.length<2147483648)(n i:I)(κ:Key):(S.next (rowK rnB2 e (rowJ ks ld n))).gen κ=((rnG e la (Vbp ks ld n i)).lookup κ).getD 0:=by
 have hG:∀ κ,S.gen κ=((rnG e la ld).lookup κ).getD 0:=λκ=>by rw[<-hg];rfl
 rw[Vqy,hG,hG,Vl0 _ _ _ kv,Vl0 _ _ _ kv,Vl0 _ _ _ kv,Vkz hk]
 by_cases h:κ=rowK rnB2 e (rowJ ks ld n)
 ·have e1:κ.2=e+1:=by rw[h];rfl
  have e2:κ.1=1099511627776+rowJ ks ld n:=by rw[h];rfl
  have hA:¬ (κ.2=e+1/\5000<=κ.1/\κ.1<1099511627776):=kv;have hB:κ.2=e+1/\1099511627776<=κ.1:=kv;rw[<-h,Zs rfl];simp only[Zy hA,Zs hB];rw[e2,Q9,Zs rfl];simp
 ·rw[Zy h]
  by_cases h2:κ.2=e+1/\5000<=κ.1/\κ.1<1099511627776
  ·rw[Zs h2,Zs h2]
  ·rw[Zy h2,Zy h2]
   by_cases h3:κ.2=e+1/\1099511627776<=κ.1
   ·rw[Zs h3,Zs h3,Zy];intro h4
    exact h (by
     obtain⟨k1,k2⟩:=κ;simp only[rowK,rnB2,Q4]at h3 h4 ⊢
     exact⟨kv,h3.1⟩)
   ·rw[Zy h3,Zy h3]
def mgetS_rows{ks:F I}{la:F (F I)}(h:ks.length=la.length)(b e:J)(n:I):mgetS ks (Vdj b e (rwF la) la.length) n=(match Vbq ks n with
 |some _=>.own (rowK b e (rowJ ks la n)) (rwF la (rowJ ks la n)).length 1 (rwF la (rowJ ks la n))
 |none=>.nil):=by
 unfold mgetS rowJ;cases hp:Vbq ks n with
 |none=>rfl
 |some j=>
  have:=Vf8 hp;simp only[Yz,Ze,rowsS_get (show j<la.length by omega)]
end
end Go.Eng
namespace Go.Proofs.YthbpjmogdonlkaaGreatDoor
section
open Go Go.Eng
def rnC:ABox:=.cells 146 [.mp 7,.mp 8]
def rnM(b:J)(ks:F I)(la:F (F I)):ABox:=.mi ks (Vdj b 3 (rwF la) la.length)
def rnBx(ka:F I)(la:F (F I))(kd:F I)(ld:F (F I)):F (J×Jj):=[(2,.cells 146 [NM,NM]),(3,rnC),(7,rnM 5000 ka la),(8,rnM rnB2 kd ld)]
def rnSt(s:C)(ka:F I)(la:F (F I))(kd:F I)(ld:F (F I))(sl:F (J×SV)):St:=sx 58 ([(0,jS s),(2,.ptr 2 0),(3,.ptr 3 0)]++sl) (rnBx ka la kd ld) (rnG 3 la ld)
def WO_wk{P:Dl}{ops:Xw Iu}{l:F Iu}{Q:St->Prop}{S S':St}(hw:Q5 S S')(h:WO P ops l Q S'):WO P ops l Q S:=λmore Q' G w a hr k=>h more Q' G w a (hw G w a hr) k
def rnS0(s:C):St:=sx 58 [(0,jS s),(2,.ptr 2 0),(7,.mp 7),(8,.mp 8)] [(2,.cells 146 [NM,NM]),(7,.mi [] []),(8,.mi [] [])] []
def rn1G(s:C):W Zc (.region 1 (Vaa 1 Qd) B) (λe S1=>e=.normal/\Q5 S1 (rnSt s [] [] [] [] [])) (Sr0 s):=by
 refine Vam ?_;rw[show(Vaa 1 Qd).toList=[regO 1 Qd 0,regO 1 Qd 1,regO 1 Qd 2,regO 1 Qd 3,regO 1 Qd 4] by kernel_rfl];refine Vbs (.mp 7) 7 kx (Vey (t:=144) (k:=3) (e:=36) (r:=Y5) (id:=7) kx kx (by intro x h;cases h) gj kx) ?_;refine Vbs (.mp 8) 8 kx (Vey (t:=144) (k:=3) (e:=36) (r:=Y5) (id:=8) kx kx (by intro x h;cases h) gj kx) ?_;refine WO_wk (mi_weak (b:=7) kx) ?_;refine WO_wk (mi_weak (b:=8) kx) ?_;refine WO_wk (S':=rnS0 s) (WK kx) ?_;refine WO_maps (S2:=((rnS0 s).put (O 9) .junk).addBox 3 (.cells 146 [NM,NM])) (t:=146) (m1:=7) (m2:=8) (d1:=9) (d2:=3) (bt:=16) (b1:=7) (b2:=8) (pl:=[(0,1),(1,1)]) (l2:=[NM,NM]) kx kx kx kx kx rfl rfl kx kx (Jf (by decide:9<58) kx) (Jf (by decide:3<58) kx) gj kx kx kx kx rfl ?_;exact Vbl rfl ⟨rfl,WK kx⟩
def Vbz(d:Yv):Nat:=Zp d 46 26
noncomputable def rnO(d:Yv):Xw Oper:=Vaa (Zp d 10 8) Qd
noncomputable def rnQ(d:Yv)(i:J):Oper:=(rnO d).getD i ((rnO d).getD 0 default)
def rnVal(d:Yv)(v w:SV)(n i:I):J->SV
 |0=>.ptr 3 (Zp d 1 0)
 |1=>.mp (Zp d 8 7)
 |2=>jI n
 |3=>.ptr 3 (Zp d 1 0)
 |4=>.mp (Zp d 8 7)
 |5=>jI n
 |6=>v
 |7=>jI i
 |8=>jL [vI i]
 |_=>w
def rnSl(i e n:I):F (J×SV):=[(4,jI i),(5,jI e),(6,jI n)]
def uniV(i:I):Db 1 [vI i]:=by
 intro y hy;simp only[Ys,Yg,Qb]at hy;subst hy;exact⟨rfl,rfl⟩
def u36:Vbe Zc 36=O 3:=kx
def i3:Van Zc 3=O (1,8,O (.int .i64 0)):=kx
def Vla{a:Xw Edge}{k:J}(h:a.toList.any (λx=>x.on==k&&(match x.ground with| .data=>K|_=>B))=K):(⟨k,.data⟩:Edge)∈a:=by
 rw[List.any_eq_true]at h;obtain⟨x,h1,h2⟩:=h;rw[Zt,Xo]at h2;obtain⟨h2,h3⟩:=h2;obtain⟨n,g⟩:=x;simp only at h2 h3
 split at h3
 ·subst h2;simpa using h1
 ·cases h3
def rnQ_at(d:Yv)(j:J)(hj:j<11):(rnO d)[j]? =O (rnQ d j):=by
 have hs:(rnO d).size=11:=by cases d <;>kernel_rfl
 unfold rnQ;rw[Zn,Y6 kv,Yz]
def rnK(d:Yv)(ks:F I)(la:F (F I))(n:I):Key:=rowK (Zp d rnB2 5000) 3 (rowJ ks la n)
def sound_row{o:Iu}{S:St}{t b bb:J}{x i:J4}{ks:F I}{la:F (F I)}{s:I}(ho:o.op=.lookup 144 x i B)(hx:S.ev x=.mp b)(hi:S.ev i=.av (.val (.int .i64 s)))
  (hb:S.bx.lookup b=O (.mi ks (Vdj bb 3 (rwF la) la.length))) (hl:ks.length=la.length):I2 Zc o S ⟨Z5,.own (rowK bb 3 (rowJ ks la s)) (rwF la (rowJ ks la s)).length 1 (rwF la (rowJ ks la s)),S⟩:=by
 intro _ G w a hr;obtain⟨nx,v,w',G',h1,h2,h3,h4,h5,h6⟩:=Vks (P:=Zc) (k:=3) (e:=36) (sz:=1) (bt:=24) ho hx hi kx kx kx hb Zb G w a hr;refine⟨nx,v,w',G',h1,h2,h3,h4,?_,h6⟩;have h5:Jc G' w' (mgetS ks (Vdj bb 3 (rwF la) la.length) s) v:=h5;rw[mgetS_rows hl]at h5;cases hp:Vbq ks s with
 |some j=>rw[hp]at h5;exact h5
 |none=>
  rw[hp]at h5;have e1:rowJ ks la s=la.length:=by simp[rowJ,hp]
  have e2:rwF la la.length=[]:=by simp[rwF]
  simp only[Jc]at h5;rw[e1,e2,h5];exact⟨Nat.succ_pos _,Zw _,Y5,0,[],rfl,by simp[RepL],ku,ku,ku,ku,.inl (by simp[Va3]),λ_=>.inl ⟨rfl,.inl rfl⟩⟩
def rn8(d:Yv)(s:C)(ka:F I)(la:F (F I))(kd:F I)(ld:F (F I))(i e n:I)(hka:ka.length=la.length)(hkd:kd.length=ld.length)(hla:la.length<2147483648)
  (hr:(rwF (Zp d ld la) (rowJ (Zp d kd ka) (Zp d ld la) n)).length<=1073741824):
  W Zc (.region (Zp d 10 8) (rnO d) K) (λx S1=>x=.normal/\Q5 S1 (rnSt s (Zp d ka (Vgq ka n)) (Zp d la (Vbp ka la n i)) (Zp d (Vgq kd n) kd) (Zp d (Vbp kd ld n i) ld) (rnSl i e n))) (rnSt s ka la kd ld (rnSl i e n)):=by
 have hl4:(rnSt s ka la kd ld (rnSl i e n)).fr.length=58:=kx;have hbs:Vbz d=26\/Vbz d=46:=by cases d <;>simp[Vbz]
 obtain⟨ks,hks⟩:∃ ks,ks=Zp d kd ka:=⟨_,rfl⟩
 obtain⟨rs,hrs⟩:∃ rs,rs=Zp d ld la:=⟨_,rfl⟩
 have hkr:ks.length=rs.length:=by rw[hks,hrs];cases d <;>assumption
 rw[<-hks, <-hrs]at hr;obtain⟨v,hv⟩:∃ v:SV,v=.own (rnK d ks rs n) (rwF rs (rowJ ks rs n)).length 1 (rwF rs (rowJ ks rs n)):=⟨_,rfl⟩
 obtain⟨w,hw⟩:∃ w:SV,w=.own (rnK d ks rs n) ((rwF rs (rowJ ks rs n)).length+1) 1 (rwF rs (rowJ ks rs n)++[vI i]):=⟨_,rfl⟩
 refine W_headE (Sc:={(Xj 10).foldl (λS j=>S.put (O (Vbz d+j)) (rnVal d v w n i j)) (rnSt s ka la kd ld (rnSl i e n))with gn:=((rnSt s ka la kd ld (rnSl i e n)).next (rnK d ks rs n)).gn}) kx 10 9 ((rnSt s ka la kd ld (rnSl i e n)).next (rnK d ks rs n)).gn (rnVal d v w n i) (λj=>Vbz d+j) (by cases d <;>kernel_rfl) ?_ (λi j _ _ h=>Nat.add_left_cancel h) (λj hj=>by rw[hl4];omega) ?_ rfl rfl ?_ ?_ ?_
 ·intro j hj;refine⟨rnQ d j,rnQ_at d j kv,?_⟩;cases d
  all_goals
   match j,hj with
   |0,_=>exact⟨kx,kx⟩
   |1,_=>exact⟨kx,kx⟩
   |2,_=>exact⟨kx,kx⟩
   |3,_=>exact⟨kx,kx⟩
   |4,_=>exact⟨kx,kx⟩
   |5,_=>exact⟨kx,kx⟩
   |6,_=>exact⟨kx,kx⟩
   |7,_=>exact⟨kx,kx⟩
   |8,_=>exact⟨kx,kx⟩
   |9,_=>exact⟨kx,kx⟩
   |j+10,h=>exact Z1 h kv
 ·intro j hj o ho S' hb hlen hdep hoth;have hget:∀(t:J)(x:SV),t<10->(rnSt s ka la kd ld (rnSl i e n)).fr[t]? =O x->S'.ev (.tmp t)=x:=by
   intro t x h1 h2;have:=hoth t (λj _=>by omega);simp only[St.ev,Ze,this,h2,Yz]
  have e3:S'.ev (.tmp 3)=.ptr 3 0:=hget 3 _ gj kx;have e4:S'.ev (.tmp 4)=jI i:=hget 4 _ gj kx;have e6:S'.ev (.tmp 6)=jI n:=hget 6 _ gj kx;have hd:∀ k,k<10->(⟨k,.data⟩:Edge)∈o.after->S'.ev (.tmp (Vbz d+k))=rnVal d v w n i k:=by
   intro k h1 h2;have:=hdep ⟨k,.data⟩ h2 rfl h1;simp only[St.ev,Ze,this,Yz]
  have b3:S'.bx.lookup 3=O rnC:=by rw[hb];kernel_rfl
  have hfa:o.op=.fieldAddr 146 (.tmp 3) (Zp d 1 0)->I2 Zc o S' ⟨Z5,.ptr 3 (Zp d 1 0),S'⟩:=by
   intro hop;refine Vay ?_;unfold Vb8;rw[hop];simp only[e3];cases d <;>kernel_rfl
  have hmv:∀ t x,o.op=.move (.tmp t)->S'.ev (.tmp t)=x->I2 Zc o S' ⟨Z5,x,S'⟩:=by
   intro t x hop hx;refine Vay ?_;unfold Vb8;rw[hop];simp only[hx]
  have hld:∀ t,o.op=.load 144 (.tmp t)->S'.ev (.tmp t)=.ptr 3 (Zp d 1 0)->I2 Zc o S' ⟨Z5,.mp (Zp d 8 7),S'⟩:=λt hop hx=>Vay (st_load hop hx kx b3 (by cases d <;>rfl))
  have ho':rnQ d j=o:=Qj ((rnQ_at d j kv).symm.trans ho);subst ho'
  match j,hj with
  |0,_=>exact⟨λ_=>hfa (by cases d <;>kernel_rfl),λh=>Z1 h gj⟩
  |1,_=>exact⟨λ_=>hld (Vbz d+0) (by cases d <;>kernel_rfl) (hd 0 gj (Vla (by cases d <;>kernel_rfl))),λh=>Z1 h gj⟩
  |2,_=>exact⟨λ_=>hmv 6 _ (by cases d <;>kernel_rfl) e6,λh=>Z1 h gj⟩
  |3,_=>exact⟨λ_=>hfa (by cases d <;>kernel_rfl),λh=>Z1 h gj⟩
  |4,_=>exact⟨λ_=>hld (Vbz d+3) (by cases d <;>kernel_rfl) (hd 3 gj (Vla (by cases d <;>kernel_rfl))),λh=>Z1 h gj⟩
  |5,_=>exact⟨λ_=>hmv 6 _ (by cases d <;>kernel_rfl) e6,λh=>Z1 h gj⟩
  |6,_=>
   have h4:=hd 4 gj (Vla (by cases d <;>kernel_rfl));have h5:=hd 5 gj (Vla (by cases d <;>kernel_rfl));refine⟨λ_=>?_,λh=>Z1 h gj⟩
   show I2 Zc _ S' ⟨Z5,v,S'⟩;rw[hv];exact sound_row (t:=0) (b:=Zp d 8 7) (bb:=Zp d rnB2 5000) (x:=.tmp (Vbz d+4)) (i:=.tmp (Vbz d+5)) (by cases d <;>kernel_rfl) h4 h5 (by rw[hb,hks,hrs];cases d <;>kernel_rfl) hkr
  |7,_=>exact⟨λ_=>hmv 4 _ (by cases d <;>kernel_rfl) e4,λh=>Z1 h gj⟩
  |8,_=>
   have h7:=hd 7 gj (Vla (by cases d <;>kernel_rfl));refine⟨λ_=>?_,λh=>Z1 h gj⟩;refine λ_=>Vay (r:=⟨Db 1 [vI i],jL [vI i],S'⟩) ?_ (uniV i)
   unfold Vb8;rw[show(rnQ d 8).op=.buildSlice 36 1 #[(0,.tmp (Vbz d+7))] by cases d <;>kernel_rfl];have h1:(S'.ev (.tmp (Vbz d+7))).toAV=O (vI i):=by rw[h7];rfl
   simp only[Vc7,u36,i3,Xm,Do,Vd5,h1];rw[Zs ⟨rfl,kv⟩]
  | 9,_=>
   have h6:=hd 6 gj (Vla (by cases d <;>kernel_rfl));have h8:=hd 8 gj (Vla (by cases d <;>kernel_rfl));refine⟨λh=>Z1 rfl h,λ_ hgn=>?_⟩;have h6:S'.ev (.tmp (Vbz d+6))=v:=h6;have h8:S'.ev (.tmp (Vbz d+8))=jL [vI i]:=h8;rw[hv]at h6;have hgk:S'.gen (rnK d ks rs n)=(rwF rs (rowJ ks rs n)).length:=by
    have hj:rowJ ks rs n<=rs.length:=by
     unfold rowJ;cases hp:Vbq ks n with
     |none=>simp
     |some k=>have:=Vf8 hp;simp;omega
    unfold St.gen;rw[hgn]
    show((rnG 3 la ld).lookup _).getD 0=_;rw[Vl0 _ _ _ kv];rw[hrs]at hj;subst hks hrs;cases d
    ·rw[Zs ⟨rfl,Q8 _ _,by simp only[rnK,rowK,Za]at hj ⊢;omega⟩];simp[rnK,rowK]
    ·rw[Zy (by simp[rnK,rowK,rnB2]),Zs ⟨rfl,Q8 _ _⟩];simp[rnK,rowK,rnB2]
   have hs:=Vay (Vge (P:=Zc) (o:=rnQ d 9) (S:=S') (t:=36) (e:=3) (d:=Vbz d+9) (sz:=1) (bt:=8) (z:=.int .i64 0) (x:=.tmp (Vbz d+6)) (y:=.tmp (Vbz d+8)) (l':=[vI i]) (by cases d <;>kernel_rfl) (by cases d <;>kernel_rfl) h6 (by rw[h8];rfl) rfl u36 i3 rfl gj kx);have hst:S'.next (rnK d ks rs n)={S' with gn:=((rnSt s ka la kd ld (rnSl i e n)).next (rnK d ks rs n)).gn}:=by
    unfold St.next St.gen;rw[hgn]
   rw[hst]at hs
   show I2 Zc _ S' ⟨Z5,w,_⟩;rw[hw];exact λ_=>hs ⟨hgk,uniV i,by simp;omega⟩
  |j+10,h=>exact Z1 h kv
 ·intro j hj
  match j,hj with
  |0,_=>cases d <;>rfl
  |1,_=>cases d <;>rfl
  |2,_=>cases d <;>rfl
  |3,_=>cases d <;>rfl
  |4,_=>cases d <;>rfl
  |5,_=>cases d <;>rfl
  |6,_=>cases d <;>rfl
  |7,_=>cases d <;>rfl
  |8,_=>cases d <;>rfl
  |9,_=>cases d <;>rfl
  |j+10,h=>exact Z1 h kv
 ·intro t ht;have hne:∀ j,j<10->¬ Vbz d+j=t:=λj hj e=>ht j hj e.symm
  simp only[Xj,List.range.loop,List.foldl_cons,List.foldl_nil,St.put];simp only[Xd];rw[Zy (hne 9 kv),Zy (hne 8 kv),Zy (hne 7 kv),Zy (hne 6 kv),Zy (hne 5 kv),Zy (hne 4 kv),Zy (hne 3 kv),Zy (hne 2 kv),Zy (hne 1 kv),Zy (hne 0 kv)]
 ·rw[show(rnO d).size-10=0+1 by cases d <;>kernel_rfl];refine WA_one (i:=10) (o:=rnQ d 10) (by cases d <;>kernel_rfl) (rnQ_at d 10 gj) (by cases d <;>kernel_rfl) (Vhl (t:=144) (k:=3) (e:=36) (x:=.tmp (Vbz d+1)) (i:=.tmp (Vbz d+2)) (y:=.tmp (Vbz d+9)) (b:=Zp d 8 7) (ks:=ks) (l:=Vdj (Zp d rnB2 5000) 3 (rwF rs) rs.length) (s:=n) (v:=w) (by cases d <;>kernel_rfl) (by cases d <;>kernel_rfl) (by cases d <;>kernel_rfl) (by cases d <;>kernel_rfl) kx kx (by subst hks hrs;cases d <;>kernel_rfl)) Zb ?_;refine WA_nil (by cases d <;>kernel_rfl) ⟨rfl,?_⟩;have hE:=rowAdd_rows hkr (Zp d rnB2 5000) 3 n i;subst hw hks hrs;cases d
  ·refine WKg ?_ ?_
   ·simp only[Za]at hE;simp only[Za,rnBx,rnM];rw[<-hE]
    kernel_rfl
   ·intro κ;exact rnG_nextA (S:=rnSt s ka la kd ld (rnSl i e n)) (e:=3) rfl hka hla n i κ
  ·refine WKg ?_ ?_
   ·simp only[Zf]at hE;simp only[Zf,rnBx,rnM];rw[<-hE]
    kernel_rfl
   ·intro κ;exact rnG_nextD (S:=rnSt s ka la kd ld (rnSl i e n)) (e:=3) rfl hkd hla n i κ
structure Tks where
 ka:F I
 la:F (F I)
 kd:F I
 ld:F (F I)
def tkA(T:Tks)(n i:I):Tks:={T with ka:=Vgq T.ka n,la:=Vbp T.ka T.la n i}
def tkD(T:Tks)(n i:I):Tks:={T with kd:=Vgq T.kd n,ld:=Vbp T.kd T.ld n i}
def tkB(s:C)(e:I):Bool:=Zp (Zh (e<((Zj s:J):I))) (((Y s (Yb e):J):I)==36) B
def rnsL(s:C):J->I->Tks->Tks
 |0,_,T=>T
 |n+1,i,T=>Zp (Zh (i<((Zj s:J):I))) (Zp (((Y s (Yb i):J):I) !=96) (rnsL s n (i+1) T) (rnsL s n (runE s i) (Zp (tkB s (runE s i)) (tkD (tkA T (runE s i-i) i) (runE s i-i) i) (tkA T (runE s i-i) i)))) T
def rnsM(s:C):Tks:=rnsL s (s.size+1) 0 ⟨[],[],[],[]⟩
structure TkI (s:C) (ks:F I) (ls:F (F I)) (v:J):Prop where
 len:ks.length=ls.length
 num:ls.length<=v
 row:∀ l∈ls,l.length<=v/\∀ y∈l,0<=y/\y<s.size
def TkI.mono{s:C}{ks:F I}{ls:F (F I)}{v w:J}(h:TkI s ks ls v)(hw:v<=w):TkI s ks ls w:=⟨h.len,Z6 h.num hw,λl hl=>⟨Z6 (h.row l hl).1 hw,(h.row l hl).2⟩⟩
def TkI.add{s:C}{ks:F I}{ls:F (F I)}{v:J}(h:TkI s ks ls v)(n i:I)(hi:0<=i/\i<s.size):TkI s (Vgq ks n) (Vbp ks ls n i) (v+1):=by
 have hl:=Vgk h.len n i;have hn:=h.num;have hlen:=h.len;refine⟨hl.symm,?_,λl hm=>?_⟩
 ·rw[hl];unfold Vgq;cases Vbq ks n <;>simp <;>omega
 ·unfold Vbp at hm;cases hp:Vbq ks n with
  |none=>
   rw[hp]at hm;rcases Z0.1 hm with hm|hm
   ·exact⟨Jo (h.row l hm).1,(h.row l hm).2⟩
   ·simp only[Ys,Yg,Qb]at hm;subst hm;refine⟨ku,λy hy=>?_⟩;simp only[Ys,Yg,Qb]at hy;subst hy;exact hi
  | some j=>
   rw[hp]at hm;have hj:=Vf8 hp;rcases Yx hm with hm|rfl
   ·exact⟨Jo (h.row l hm).1,(h.row l hm).2⟩
   ·have hq:ls.getD j []∈ls:=by
     rw[Ze,Zi kv];exact Ic _
    have:=h.row _ hq;refine⟨by rw[Zz,Yn];omega,λy hy=>?_⟩;rcases Z0.1 hy with hy|hy
    ·exact this.2 y hy
    ·simp only[Ys,Yg,Qb]at hy;subst hy;exact hi
def TkI.ok{s:C}{ks:F I}{ls:F (F I)}(h:TkI s ks ls s.size):Dw s ls:=h.row
def TkI.rw_le{s:C}{ks:F I}{ls:F (F I)}{v:J}(h:TkI s ks ls v)(j:J):(rwF ls j).length<=v:=by
 unfold rwF;rw[Yw,Ze];cases hj:ls[j]? with
 |none=>simp
 |some l=>exact(h.row l (I6 hj)).1
def rowsA_tk(ls:F (F I)):rowsA (rwF ls) ls.length=tkV ls:=by
 apply Xe;intro j;simp only[rowsA,tkV,Yd]
 by_cases h:j<ls.length
 ·rw[Qp h,Zi h];simp[rwF,h]
 ·rw[Zx (by simp;omega),Zx kv];rfl
def tk_frz(b:J)(ls:F (F I))(G:Gh)(w:Qx)(us:F Qm)(h:J6 G w (Vdj b 3 (rwF ls) ls.length) us):RepL G.U w (tkV ls) us:=by
 rw[<-rowsA_tk];exact rowsS_rep h
def tk_frz2(b:J)(ls:F (F I))(G:Gh)(w:Qx)(us:F Qm)(h:J6 G w ((Vdj b 3 (rwF ls) ls.length).map (SV.forget 7)) us):RepL G.U w (tkV ls) us:=by
 refine tk_frz b ls G w us ?_;rwa[show(Vdj b 3 (rwF ls) ls.length).map (SV.forget 7)=Vdj b 3 (rwF ls) ls.length by simp only[Vdj,Il];rfl]at h
def TkJ(s:C)(T:Tks)(v:J):Prop:=TkI s T.ka T.la v/\TkI s T.kd T.ld v
def tkS_ok{s:C}{T:Tks}{v:J}(h:TkJ s T v)(h1:v<s.size)(b:Yv)(n:I):TkJ s (Zp b (tkD (tkA T n ((v:J):I)) n ((v:J):I)) (tkA T n ((v:J):I))) (v+1):=by
 have h2:0<=((v:J):I)/\((v:J):I)<s.size:=⟨kv,kv⟩
 cases b
 ·exact⟨h.1.add n _ h2,h.2.mono (Q0 _)⟩
 ·exact⟨h.1.add n _ h2,h.2.add n _ h2⟩
def runE_nat(s:C)(v:J)(h:v<s.size):∃ e:J,runE s ((v:J):I)=((e:J):I)/\v+1<=e/\e<=s.size:=by
 have h1:=Vf2 s ((v:J):I) kv kv;have h2:=Vf3 s ((v:J):I) kv;exact⟨(runE s ((v:J):I)).toNat,kv,kv,kv⟩
def rnsL_ok(s:C):∀(n v:J)(T:Tks),v<=s.size->TkJ s T v->TkJ s (rnsL s n ((v:J):I) T) s.size
 |0,v,T,h1,h2=>⟨h2.1.mono h1,h2.2.mono h1⟩
 | n+1,v,T,h1,h2=>by
  unfold rnsL
  by_cases h:v<s.size
  ·rw[Z8 kv,Zf];cases(((Y s (Yb ((v:J):I)):J):I) !=96)with
   |true=>exact rnsL_ok s n (v+1) T h ⟨h2.1.mono (Q0 _),h2.2.mono (Q0 _)⟩
   |false=>
    obtain⟨e,e1,e2,e3⟩:=runE_nat s v h;rw[Za,e1];have:=tkS_ok h2 h (tkB s ((e:J):I)) (((e:J):I)-((v:J):I));exact rnsL_ok s n e _ e3 ⟨this.1.mono e2,this.2.mono e2⟩
  ·rw[Zo kv,Za];exact⟨h2.1.mono h1,h2.2.mono h1⟩
def tkJ0(s:C):TkJ s ⟨[],[],[],[]⟩ 0:=⟨⟨rfl,Zm _,λl h=>by cases h⟩,⟨rfl,Zm _,λl h=>by cases h⟩⟩
def rnsM_ok(s:C):Dw s (rnsM s).la/\Dw s (rnsM s).ld:=by
 have:=rnsL_ok s (s.size+1) 0 _ (Zw _) (tkJ0 s);exact⟨this.1.ok,this.2.ok⟩
def rnX(s:C)(T:Tks)(sl:F (J×SV)):St:=rnSt s T.ka T.la T.kd T.ld sl
def rnR(T:Tks):SV:=.av (.agg [.im T.ka (tkV T.la),.im T.kd (tkV T.ld)])
def rnsG_to(s:C)(hs:s.size<=1073741824):RnsTo s (rnsM s).ka (rnsM s).la (rnsM s).kd (rnsM s).ld:=by
 refine BEG (λ_:Ds=>rnR (rnsM s)) () Tryz.func88 kx ?_;refine gO (kq 1 m5) ?_;refine Dt (rnSt s [] [] [] [] []) m5 kx ?_ kx ?_
 ·exact Vaj (S':=Sr0 s) (WK kx) (Val (c':=.region 1 (Vaa 1 Qd) B) kx (rn1G s))
 refine LP (λN M S=>∃(v:J)(T:Tks),(s.size<N+v)/\v<=s.size/\TkJ s T v/\rnsL s N ((v:J):I) T=rnsM s/\M=()/\S=rnX s T [(4,jI ((v:J):I))]) kx (n:=s.size+1) ⟨0,⟨[],[],[],[]⟩,kv,kv,tkJ0 s,rfl,rfl,rfl⟩ (WK kx) ?_;rintro n0 M S ⟨v,T,hF0,hv,hT,hm,rfl,rfl⟩;obtain⟨n0,rfl⟩:∃ k,n0=k+1:=⟨n0-1,kv⟩
 unfold rnsL at hm
 by_cases h1:v<s.size
 ·have hd:Zh (((v:J):I)<((Zj s:J):I))=true:=Z8 kv;rw[hd,Zf]at hm;cases hb:(((Y s (Yb ((v:J):I)):J):I) !=96)with
  |true=>
   rw[hb,Zf]at hm;refine gO (i8 hd<|p7 (ib s ((v:J):I) kv)<|m0 hb<|m6 (wrE (((v:J):I)+1) ((v+1:J):I) kv) m5) ?_;exact AG (m:=n0) ⟨v+1,T,kv,kv,⟨hT.1.mono (Q0 _),hT.2.mono (Q0 _)⟩,hm,rfl,rfl⟩ (WK kx) kx (Zl _)
  | false=>
   obtain⟨e,e1,e2,e3⟩:=runE_nat s v h1;have hE:=Vky s ((v:J):I) hs kv kv;rw[hb,Za,e1]at hm;rw[e1]at hE;obtain⟨n,hn⟩:∃ n:I,n=((e:J):I)-((v:J):I):=⟨_,rfl⟩
   have hw:IntKind.i64.wrap (((e:J):I)-((v:J):I))=n:=wrE _ _ kv;rw[<-hn]at hm;have hT1:=tkS_ok hT h1 B n;have hT2:=tkS_ok hT h1 (tkB s ((e:J):I)) n;refine gO (i8 hd<|p7 (ib s ((v:J):I) kv)<|m0 hb<|j7 hE<|t8 hw m5) ?_;cases hk:tkB s ((e:J):I)with
   |true=>
    rw[hk,Zf]at hm hT2;refine Dt (rnX s (tkA T n ((v:J):I)) (rnSl ((v:J):I) ((e:J):I) n)) (jq (Zh (((e:J):I)<((Zj s:J):I))) (m9 (λh=>ib s ((e:J):I) (by have j:=Zq h.2;omega)) m5) z<|kb hk z) kx ?_ kx ?_
    ·refine Vaj (S':=rnX s T (rnSl ((v:J):I) ((e:J):I) n)) (WK kx) ?_;exact Val (c':=.region 8 (rnO B) K) kx (rn8 B s T.ka T.la T.kd T.ld ((v:J):I) ((e:J):I) n hT.1.len hT.2.len (by have:=hT.1.num;omega) (by have:=hT.1.rw_le (rowJ T.ka T.la n);simp only[Za];omega))
    refine Dt (rnX s (tkD (tkA T n ((v:J):I)) n ((v:J):I)) (rnSl ((v:J):I) ((e:J):I) n)) j6 kx ?_ kx ?_
    ·refine Vaj (S':=rnX s (tkA T n ((v:J):I)) (rnSl ((v:J):I) ((e:J):I) n)) (WK kx) ?_;exact Val (c':=.region 10 (rnO K) K) kx (rn8 K s (tkA T n ((v:J):I)).ka (tkA T n ((v:J):I)).la T.kd T.ld ((v:J):I) ((e:J):I) n hT1.1.len hT.2.len (by have:=hT1.1.num;simp only[Za]at this;omega) (by have:=hT.2.rw_le (rowJ T.kd T.ld n);simp only[Zf];omega))
    exact AG (m:=n0) ⟨e,_,kv,e3,⟨hT2.1.mono e2,hT2.2.mono e2⟩,hm,rfl,rfl⟩ (WK kx) kx (Zl _)
   |false=>
    rw[hk,Za]at hm hT2;refine Dt (rnX s (tkA T n ((v:J):I)) (rnSl ((v:J):I) ((e:J):I) n)) (jq (Zh (((e:J):I)<((Zj s:J):I))) (m9 (λh=>ib s ((e:J):I) (by have j:=Zq h.2;omega)) m5) z<|kb hk j6) kx ?_ kx ?_
    ·refine Vaj (S':=rnX s T (rnSl ((v:J):I) ((e:J):I) n)) (WK kx) ?_;exact Val (c':=.region 8 (rnO B) K) kx (rn8 B s T.ka T.la T.kd T.ld ((v:J):I) ((e:J):I) n hT.1.len hT.2.len (by have:=hT.1.num;omega) (by have:=hT.1.rw_le (rowJ T.ka T.la n);simp only[Za];omega))
    exact AG (m:=n0) ⟨e,_,kv,e3,⟨hT2.1.mono e2,hT2.2.mono e2⟩,hm,rfl,rfl⟩ (WK kx) kx (Zl _)
 ·have hd:Zh (((v:J):I)<((Zj s:J):I))=false:=Zo kv;rw[hd,Za]at hm;rw[<-hm];refine gO (i8 hd z) ?_;refine Dr (kq 12 z) kx ?_;refine Vpw (Vg4 (c:=3) (k:=0) (id:=7) (ks:=T.ka) (l:=Vdj 5000 3 (rwF T.la) T.la.length) (vs:=tkV T.la) kx gj kx (tk_frz 5000 T.la)) ?_;refine Vpw (Vg4 (c:=3) (k:=1) (id:=8) (ks:=T.kd) (l:=(Vdj rnB2 3 (rwF T.ld) T.ld.length).map (SV.forget 7)) (vs:=tkV T.ld) kx gj kx (tk_frz2 rnB2 T.ld)) ?_;refine gO j6 ?_;exact EN kx
def rdC(s:C)(n m:J)(refs:I):ABox:=.cells 52 [jS s,.vs 2001 n,.vs 2002 m,jI refs]
def elB(els:F Zu):ABox:=.vec 107 21 (els.map Vb6)
def brB(brs:F I):ABox:=.vec 3 1 (brs.map vI)
def rdB(s:C)(els:F Zu)(brs:F I)(refs:I):F (J×Jj):=[(1000,rdC s els.length brs.length refs),(2001,elB els),(2002,brB brs)]
def inE(x:A):DElem:=DElem.mk 0 (DPiece.mk 0 x ⟨#[]⟩ 0 B B B 0 0) B 0
def refB(k:I):Bool:=Zp (k==9) (k==9) (Zp (k==16) (k==16) (Zp (k==12) (k==12) (Zp (k==14) (k==14) (k==13))))
def kRef(k:I){H:Prop}(r:OCx H):OCx H:=ks (k==9) [6] z (tn 2<|ks (k==16) [6] z (tn 2<|ks (k==12) [6] z (tn 2<|ks (k==14) [6] z j6 z) z) z) r
def adS(s:C)(els:F Zu)(brs:F I)(refs:I)(x:A):St:=sx 31 [(0,.ptr 1000 0),(3,.ptr 3 0)] ((3,.cells 42 (Vf1 x))::rdB s els brs refs) []
def cBnd(n b sz:J)(l:F AV)(x:AV):Prop:=n<=l.length/\Db sz [x]/\(n+([x]:F AV).length)*b<=140737488355328
def uni1{sz:J}{x:AV}(h:x.cells.length=sz)(ht:x.isTup=B):Db sz [x]:=by
 intro y hy;simp only[Ys,Yg,Qb]at hy;subst hy;exact⟨h,ht⟩
def rdB_snoc(s:C)(els:F Zu)(brs:F I)(refs:I)(e:Zu):[(1000,rdC s (els.length+1) brs.length refs),(2001,ABox.vec 107 21 ((els.map Vb6).take els.length++[Vb6 e])),(2002,brB brs)]=rdB s (els++[e]) brs refs:=by
 simp[rdB,elB,Ye]
def ad8(s:C)(els:F Zu)(brs:F I)(refs:I)(x:A)(he:els.length<=1073741824):W Zc (.region 8 (Vaa 8 Tryz.f92) K) (λe S1=>e=.normal/\Q5 S1 (sx 31 [] (rdB s (els++[inE x]) brs refs) [])) (adS s els brs refs x):=by
 have hu:Db 21 [Vb6 (inE x)]:=uni1 rfl rfl;have hC:cBnd els.length 272 21 (els.map Vb6) (Vb6 (inE x)):=⟨ku,hu,by simp;omega⟩
 rw[<-rdB_snoc];exact Vhf (cs:=[Z5,Z5,Z5,Z5,Z5,Z5,Z5,Z5,Db 21 [Vb6 (inE x)],cBnd els.length 272 21 (els.map Vb6) (Vb6 (inE x)),cBnd els.length 272 21 (els.map Vb6) (Vb6 (inE x)),Z5,Z5,Z5,Z5]) 9 kx kx 31 [] _ [] ⟨Zb,Zb,Zb,Zb,Zb,Zb,Zb,Zb,hu,hC,hC,Zb,Zb,Zb,Zb,Zb⟩ kx kx
def add_to(s:C)(els:F Zu)(brs:F I)(refs:I)(x:A)(he:els.length<=1073741824)(hr:0<=refs/\refs<=1073741824):
  Va1 Zc 92 [.ptr 1000 0,.av (Vaq x)] (rdB s els brs refs) [] Vav (rdB s (els++[inE x]) brs (Zp (refB x.fKind) (refs+1) refs)) []:=by
 cases hb:refB x.fKind with
 |true=>
  refine bGs Tryz.func92 ?_;refine gO (tn 5 (kRef x.fKind (kb hb<|yq (wrE (refs+1) (refs+1) kv) i6))) ?_;refine Dt (sx 31 [] (rdB s (els++[inE x]) brs (refs+1)) []) z kx ?_ kx ?_
  ·refine Vaj (S':=adS s els brs (refs+1) x) (WK kx) ?_;exact Val (c':=.region 8 (Vaa 8 Tryz.f92) K) kx (ad8 s els brs (refs+1) x he)
  exact eNs
 |false=>
  refine bGs Tryz.func92 ?_;refine gO (tn 5 (kRef x.fKind (kb hb z))) ?_;refine Dt (sx 31 [] (rdB s (els++[inE x]) brs refs) []) z kx ?_ kx ?_
  ·refine Vaj (S':=adS s els brs refs x) (WK kx) ?_;exact Val (c':=.region 8 (Vaa 8 Tryz.f92) K) kx (ad8 s els brs refs x he)
  exact eNs
end
section
open Go Go.Eng Go.RowKit
def glP:J×ABox:=(1999,.gl 3 (Lib.pow10Tab.map (λx=>Value.int .u64 x)))
def lays171M:LaysM.n171 Zc Tryz.lays171_ren:={Tryz.lays171 with
 i0:=kx
 i2:=kx
 i3:=kx
 i4:=kx
 i5:=kx
 i9:=kx
 i20:=kx
 i37:=kx
 i46:=kx
 i51:=kx
 i53:=kx
 i171:=kx
 i173:=kx
 i212:=kx
 i232:=kx
 i233:=kx
 m17:=kx
 m18:=kx
 m19:=by kernel_rfl}
def itoaG_to(k:J)(h:k<2048):Va1 Zc 93 [jI ((k:J):I)] [glP] [] (jS (itoa k)) [glP] []:=by
 refine⟨⟨Tryz.f93,Tryz.func93,kx,kx⟩,λG w us hw hr hbx _=>?_⟩;rw[argsI hr];obtain⟨e,mm,ho,hh⟩:=hbx glP ku;refine(Any.strconv_Itoa lays171M ((k:J):I) kv kv w ?_).mono ?_
 ·unfold Lib.TabIs World.var?;rw[lays171M.m17,show Tryz.lays171_ren.g 17=3 from rfl];simp only[Q7,hh]
 rintro e w' ⟨rfl,n,os,hb⟩;have hb2:Below w.heap.size w w':=by rw[hb];exact Lib.below_grow _ _ (Zm _) _ _
 obtain⟨s1,s2,s3⟩:=Vc9 hw hb2;refine⟨_,G,rfl,s1,s2,⟨by rw[Lib.itoa_nonneg];rfl,rfl⟩,λp hp=>?_,λi _=>s3 _,λ_ _=>rfl,λκ=>rfl⟩;exact(hbx p hp).persist s1.toExt (s3 _) (λ_ _=>rfl)
def uniP(x:Yu):Db 18 [Vby x]:=uni1 rfl rfl
def pcZ:Value:=.agg #[.int .i64 0,.int .i64 0,.string ⟨#[]⟩,.string ⟨#[]⟩,.string ⟨#[]⟩,.string ⟨#[]⟩,.slice Y5 0 0,.slice Y5 0 0,.slice Y5 0 0,.slice Y5 0 0,.slice Y5 0 0,.string ⟨#[]⟩,.int .i64 0,.bool B,.bool B,.bool B,.int .i64 0,.int .i64 0]
def pc_box(n:J)(id:J)(G:Gh)(w:Qx)(blk:J)(hb:blk<w.heap.size)(ho:G.ow (id,0)=O blk)(hw:w.heap[blk]? =O (.cells (madeCells pcZ.cells (n*18)) 68 (0,0)))(hU:G.U blk=0)(hc:G.cp blk=n):RepB G w id (.vec 68 18 []):=by
 refine .inr ⟨blk,_,[],hb,ho,hw,hU,?_,rfl,ku,⟨_,rfl⟩,by simp[Va3]⟩;rw[hc,size_madeCells];exact Zm _
def nzB(els:F Zu):F (J×Jj):=[(1001,.vec 107 21 (els.map Vb6)),glP]
def nz1(els:F Zu)(o m:J):St:=sx 45 [(0,.vw 1001 21 o m),(3,.vs 10 0)] ((10,.vec 68 18 [])::nzB els) []
def nzS(els:F Zu)(o m v:J)(os:F AV):St:=sx 45 [(0,.vw 1001 21 o m),(3,.vs 10 v),(11,.vw 1001 21 o m),(12,jI ((m:J):I)),(13,jI ((v:J):I))] ((10,.vec 68 18 os)::nzB els) []
def nzT(els:F Zu)(o m:J):St:=sx 45 [(0,.vw 1001 21 o m),(3,jL ((pcsG els o m).map Vb7))] (nzB els) []
def nz1_w(els:F Zu)(o m:J)(hm:m<=536870912):W Zc (.region 1 (Vaa 1 Z3) B) (λe S1=>e=.normal/\Q5 S1 (nz1 els o m)) (sx 45 [(0,.vw 1001 21 o m)] (nzB els) []):=by
 refine Vam ?_;rw[show(Vaa 1 Z3).toList=[regO 1 Z3 0,regO 1 Z3 1,regO 1 Z3 2,regO 1 Z3 3] by kernel_rfl];refine Vas (.vw 1001 21 o m) 8 kx kx ?_;refine Vas (jI ((m:J):I)) 9 kx kx ?_;refine Vbs (.vs 10 0) 10 kx (Vhm (x:=.const (.int .i64 0)) (y:=.tmp 9) (t:=62) (e:=68) (sz:=18) (bt:=248) (z:=pcZ) (m:=0) (n:=m) (id:=10) (k:=.i64) (k':=.i64) (X:=.vec 68 18 []) kx kx kx kv kx kx kv kv gj kx (λG w blk h1 h2 h3 h4 h5=>pc_box m 10 G w blk h1 h2 h3 h4 h5)) ?_;refine Vas (.vs 10 0) 3 kx kx ?_;exact Vbl rfl ⟨rfl,WK kx⟩
def sqL:Code->Code
 | .seq a _=>a
 |c=>c
def sqR:Code->Code
 | .seq _ b=>b
 |c=>c
noncomputable def nzX:Code:=sqL (sqR (sqR (Vbf Z3)))
def nzX_w(els:F Zu)(o m:J)(hm:o+m<=els.length)(he:els.length<=536870912)(hk:m<=2048):W Zc nzX (λe S1=>e=.normal/\Q5 S1 (nzT els o m)) (nz1 els o m):=by
 refine WN ?_;refine gO i6 ?_;refine LP (n:=m+1) (λN M S=>∃(v:J)(os:F AV),v<=m/\os=(pcsG els o v).map Vb7/\m-v<N/\M=()/\S=nzS els o m v os) kx ⟨0,[],kv,rfl,kv,rfl,rfl⟩ (WK kx) ?_;rintro n0 M S ⟨v,os,hv,hos,hF0,rfl,rfl⟩;obtain⟨n0,rfl⟩:∃ k,n0=k+1:=⟨n0-1,kv⟩
 have hol:os.length=v:=by rw[hos,Yw,Vhv]
 by_cases h1:v<m
 ·have hd:Zh (((v:J):I)<((m:J):I))=true:=dT kv;have hi:0<=((v:J):I)/\((v:J):I)<((m:J):I):=⟨kv,kv⟩
  have hee:=Vi4 els ((o+v:J):I) kv kv;have hwr:=wrE (((v:J):I)+1) ((v+1:J):I) kv;have hb0:Zp (((el els (o+v)).fkind:I)==0) (Zh ((((el els (o+v)).fpiece.fInline.fKids.map Va2).length:I)>0)) B=isPh (el els (o+v)):=by unfold isPh;rw[Yw]
  cases hp:isPh (el els (o+v))with
  |false=>
   have hb:=hb0.trans hp;have hpc:pcG v (el els (o+v))=(el els (o+v)).fpiece:=by unfold pcG;rw[hp];rfl
   have hap:v<=os.length/\Db 18 [Vby (el els (o+v)).fpiece]/\(v+([Vby (el els (o+v)).fpiece]:F AV).length)*248<=140737488355328:=⟨kv,uniP _,by simp;omega⟩
   refine gO (m0 hd<|p9 hi<|ke hee<|tn 7<|j8 (((el els (o+v)).fkind:I)==0) n8 z<|kb hb<|p7 (uniP (el els (o+v)).fpiece)<|kp hap<|m6 hwr m5) ?_;refine AG (m:=n0) (S'':=nzS els o m (v+1) (os.take v++[Vby (el els (o+v)).fpiece])) ⟨v+1,_,kv,?_,kv,rfl,rfl⟩ (WK kx) kx (Zl _);rw[Vqs,hpc,Qk, <-hos,Ye kv];rw[Jg,Vs5];rfl
  |true=>
   have hb:=hb0.trans hp;have hpc:pcG v (el els (o+v))=pIn (el els (o+v)).fpiece (phI v):=by unfold pcG;rw[hp];rfl
   have hit:=itoaG_to v kv;have hap:v<=os.length/\Db 18 [Vby (pIn (el els (o+v)).fpiece (phI v))]/\(v+([Vby (pIn (el els (o+v)).fpiece (phI v))]:F AV).length)*248<=140737488355328:=⟨kv,uniP _,by simp;omega⟩
   refine gO (m0 hd<|p9 hi<|ke hee<|tn 7<|j8 (((el els (o+v)).fkind:I)==0) n8 z<|kb hb<|tn 1<|kg hit Zb<|tn 3<|p7 (uniP (pIn (el els (o+v)).fpiece (phI v)))<|kp hap<|m6 hwr m5) ?_;refine AG (m:=n0) (S'':=nzS els o m (v+1) (os.take v++[Vby (pIn (el els (o+v)).fpiece (phI v))])) ⟨v+1,_,kv,?_,kv,rfl,rfl⟩ (WK kx) kx (Zl _);rw[Vqs,hpc,Qk, <-hos,Ye kv];rw[Jg,Vs5];rfl
 ·have hd:Zh (((v:J):I)<((m:J):I))=false:=dF kv;have hvm:v=m:=kv;subst hvm;refine FRZ 3 10 (n:=v) (l:=os) (l':=(pcsG els o v).map Vb7) kx kv (by rw[<-hos,Ye kv]) ?_;refine gO (m0 hd z) ?_;refine Dr z kx ?_;exact LEAF .normal kx (S2:=nzT els o v) (WK kx) ⟨rfl,λ_ _ _ h=>h⟩
end
section
open Go Go.Eng Go.RowKit Go.Shelf
section
variable {P:Dl} {ops:Xw Iu} {Q:Exit->Act->Qx->Prop} {a:Act} {w:Qx} {rest:F Iu} {o:Iu}
def wl_mv{x:J4}(v:Qm)(ho:o.op=.move x\/o.op=.assign x)(hg:o.guard=Y5)(hv:a.eval x=v)(h:wpList P ops Q rest (a.put o.dst v) w):wpList P ops Q (o::rest) a w:=by
 have he:(execOp a.eval o).run P w=.ok (.value v) w:=by rcases ho with ho|ho <;>simp[execOp,ho,hv]
 simp only[wpList];rw[Zs (Vat hg a)];refine .inl ?_;unfold Ih;rw[he,Xl];exact h
def wl_call{f:FuncId}{args:Xw J4}{tys:Xw Dv}(vs:Xw Qm)(ho:o.op=.call {callee:=.value (.func f),args:=args,argTypes:=tys})(hg:o.guard=Y5)(hf:Vij P f)(hv:(args.toList.map a.eval).toArray=vs)
  (hc:Calls P f vs w λe w'=>∃ v,e=.returned v/\wpList P ops Q rest (a.put o.dst v) w'):wpList P ops Q (o::rest) a w:=by
 obtain⟨fn,hf1,hf2,hf3⟩:=hf;have hrun:(execOp a.eval o).run P w=.ok (.enter f vs) w:=by
  have hnone:fn.body.isNone=false:=by cases hb:fn.body <;>simp_all
  have hev:a.eval (.func f)=.func (.func f) #[] #[]:=rfl;simp only[execOp,ho,resolve,hev,Deferred.ofValue,Sem.run_bind,Sem.run_pure,Qz,invoke,callFunc,run_program,hf1];rw[Zy (by rw[hf3];simp)];simp only[hnone,Ji,if_false,Sem.run_pure];congr 2;rw[<-hv];apply Array.ext';simp
 simp only[wpList];rw[Zs (Vat hg a)];refine .inl ?_;unfold Ih;rw[hrun,Oper.upon_enter];refine hc.mono ?_;rintro e w' ⟨v,rfl,h⟩;exact h
end
def Vl3{a:Act}{d:J}{v:Qm}(h:d<a.tmps.size):(a.put (O d) v).eval (.tmp d)=v:=by
 simp[Act.put,Act.eval,Zn,h]
def Vjo{a:Act}{d t:J}{v:Qm}(h:d≠t):(a.put (O d) v).eval (.tmp t)=a.eval (.tmp t):=by
 simp[Act.put,Act.eval,Zn,Array.getElem?_setIfInBounds,h]
def Vek{a:Act}{d:Option Tmp}{v:Qm}:(a.put d v).tmps.size=a.tmps.size:=by cases d <;>simp[Act.put]
def Vn3{G:Gh}{w w':Qx}{U':J->J}(hw:Wf G w)(hB:Below w.heap.size w w')(h1:∀ b,G.U b<=U' b)(h2:∀ b,b<w.heap.size->U' b=G.U b)(h3:∀ b,w'.heap.size<=b->U' b=0):
  Step G w {G with U:=U'} w'/\Wf {G with U:=U'} w'/\∀ κ,Keep G w {G with U:=U'} w' κ:=by
 obtain⟨s1,s2,s3⟩:=Vc9 hw hB;have hk:∀ κ,Keep G w {G with U:=U'} w' κ:=λκ=>⟨rfl,λb hb=>⟨hB.block b (hw.lt κ b hb),h2 b (hw.lt κ b hb)⟩⟩
 exact⟨⟨⟨h1,s1.toExt.imm,s1.toExt.size,s1.toExt.os,s1.toExt.tape,s1.toExt.output,λ_ _=>rfl,λ_=>Zm _,λκ _ _=>hk κ⟩,λb hb _=>⟨hB.block b hb,h2 b hb⟩,λκ b hb=>.inl ⟨κ,hb⟩⟩,⟨s2.inj,s2.lt,h3⟩,hk⟩
def gh0(G:Gh):Gh:={U:=G.U,cp:=G.cp,ow:=λ_=>Y5,gen:=λ_=>0,df:=[]}
def gh0_wf{G:Gh}{w w':Qx}(hw:Wf G w)(hs:w.heap.size<=w'.heap.size):Wf (gh0 G) w':=⟨λκ κ' b h1 _=>by simp[gh0]at h1,λκ b h1=>by simp[gh0]at h1,λb hb=>hw.zero b kv⟩
def Vlo{G G':Gh}{w w':Qx}(h:Step (gh0 G) w G' w'):Below w.heap.size w w'/\∀ b,b<w.heap.size->G'.U b=G.U b:=
 ⟨⟨h.toExt.os,h.toExt.tp,h.toExt.output,h.toExt.size,λb hb=>(h.stay b hb (λκ h=>by simp[gh0]at h)).1⟩,λb hb=>(h.stay b hb (λκ h=>by simp[gh0]at h)).2⟩
def Vr9{G:Gh}{w w':Qx}(hw:Wf G w)(h:Below w.heap.size w w'):Imm G.U w w':=Vli λb hb=>h.block b (by
 rcases Xs b w.heap.size with q|q
 ·exact q
 ·rw[hw.zero b q]at hb;omega)
def vok_of{G:Gh}{w:Qx}(hw:Wf G w){m:J}{V:J->F Qm}{ue:Qm}{k:J}{x:A}(hl:(V k).length=10)(hr:Dy G.U w (Va2 x) (.agg (V k).toArray))(hc:ClnI x)(hx:Va4 x<=1073741824):VOk w.heap.size w V ue k:=by
 obtain⟨u0,u1,u2,u3,u4,u5,u6,u7,u8,u9,hv⟩:=list10 hl;have hr0:=hr;rw[Vbw]at hr;simp only[Dy]at hr;obtain⟨vs,ev,r1,r2⟩:=hr;have e2:vs.toList=V k:=by
  simp only[Value.agg.injEq]at ev;rw[<-ev]
 rw[e2,hv]at r1;obtain⟨x0,l0,f0,q0,x1,l1,f1,q1,x2,l2,f2,q2,x3,l3,f3,q3,x4,l4,f4,q4,x5,l5,f5,q5,x6,l6,f6,q6,x7,l7,f7,q7,x8,l8,f8,q8,x9,l9,f9,q9,f10⟩:=r1;cases f0;cases f1;cases f2;cases f3;cases f4;cases f5;cases f6;cases f7;cases f8;cases f9;have hcx:=Vad.1 hc;refine⟨hl,λy hy=>r2 y (by rw[e2];exact hy),⟨x.fKind,by rw[hv];exact Iz O q0.1,hcx.1⟩,u9,by rw[hv];rfl,λW hB=>?_⟩;have hk:=rstC_to (Yp x.fKids+1) x.fKids (Zl _) hcx.2 (by have:=Vik (x:=x);omega);have hcall:=hk.2 (gh0 G) W [u9,ue] (gh0_wf hw hB.size) ⟨u9,[ue],rfl,Rep.mono (λ_=>Zm _) (Vr9 hw hB) _ _ q9,ue,[],rfl,Zb,rfl⟩ ku ku;refine hcall.mono ?_;rintro e W' ⟨v,G',rfl,s1,s2,s3, -⟩;obtain⟨us,rfl,h4⟩:=s3;have h5:us=#[]:=Array.toList_inj.1 h4;subst h5;exact⟨rfl,(Vlo s1).1⟩
def els_V{G:Gh}{w:Qx}(hw:Wf G w){els:F Zu}{o m:J}(hb:RepB G w 1001 (.vec 107 21 (els.map Vb6))){ue:Qm}(hu:Jc G w (.vw 1001 21 o m) ue)(hm:o+m<=els.length)(hc:∀ k,k<m->ClnI (VE els o k)/\Va4 (VE els o k)<=1073741824):
  ∃V:J->F Qm,ElL w.heap.size m w V ue/\∀ k,k<m->(V k).length=10/\Dy G.U w (Va2 (VE els o k)) (.agg (V k).toArray):=by
 obtain⟨a,cap,rfl,hcap,hblk⟩:=hu;rcases Nat.eq_zero_or_pos m with rfl|hpos
 ·exact⟨λ_=>[],⟨λk hk=>Z1 hk (Y8 _),λk hk=>Z1 hk (Y8 _),a,cap,rfl⟩,λk hk=>Z1 hk (Y8 _)⟩
 ·rcases hblk with h0|⟨blk,ho,rfl⟩
  ·omega
  rcases hb with⟨h1,_⟩|⟨blk',arr,es,h0,h1,h2,h3,h4,h5,h6,⟨tail,h7⟩,h8⟩
  ·have:els=[]:=List.map_eq_nil_iff.1 h1;rw[this]at hm;simp at hm;omega
  ·rw[ho]at h1;cases h1;have hex:∀ k,k<m->∃ us:F Qm,us.length=10/\(∀j,j<10->w.cell? ⟨blk,o*21+k*21+(2+j),Y5⟩=us[j]?)/\Dy G.U w (Va2 (VE els o k)) (.agg us.toArray):=by
    intro k hk;obtain⟨e,he,hr⟩:=h5.get (o+k) (Vb6 (el els (o+k))) (by rw[Yd,Vlt kv];rfl);have hr1:Dy G.U w (Vrt (el els (o+k))) e:=hr;unfold Vrt at hr1;simp only[Dy]at hr1;obtain⟨vs,rfl,g1,g2⟩:=hr1;have hvl:vs.toList.length=21:=by have:=g1.length;simpa using this
    have g3:=(g1.drop 2).take 10;refine⟨(vs.toList.drop 2).take 10,by rw[Xt,Ib];omega,λj hj=>?_,?_⟩
    ·have hj2:vs.toList[2+j]? =O (vs.toList[2+j]'(kv)):=Zi _;have hg:=Vdd es (o+k) _ h6 he (2+j) _ (show(Value.agg vs).cells.toList[2+j]? =O _ from hj2);have hlt:(o+k)*21+(2+j)<(Va3 es).length:=(List.getElem?_eq_some_iff.1 hg).1;rw[Jh,Zs hj,List.getElem?_drop,hj2];simp only[World.cell?,h2];have:arr.toList[(o+k)*21+(2+j)]? =O (vs.toList[2+j]'(kv)):=by rw[h7,Yk hlt];exact hg
     rw[show o*21+k*21+(2+j)=(o+k)*21+(2+j) by rw[Nat.add_mul]];simpa using this
    ·rw[Vbw];simp only[Dy];refine⟨_,rfl,g3,λy hy=>g2 y ?_⟩;exact I5 (Qg hy)
   obtain⟨V,hV⟩:∃ V:J->F Qm,∀k,k<m->(V k).length=10/\(∀j,j<10->w.cell? ⟨blk,o*21+k*21+(2+j),Y5⟩=(V k)[j]?)/\Dy G.U w (Va2 (VE els o k)) (.agg (V k).toArray):=
    ⟨λk=>if h:k<m then Classical.choose (hex k h)else[],λk hk=>by simp only[dif_pos hk];exact Classical.choose_spec (hex k hk)⟩
   refine⟨V,⟨λk hk=>⟨blk,o*21,cap,rfl,h0,(hV k hk).2.1⟩,λk hk=>vok_of hw (m:=m) (hV k hk).1 (hV k hk).2.2 (hc k hk).1 (hc k hk).2,_,_,rfl⟩,λk hk=>⟨(hV k hk).1,(hV k hk).2.2⟩⟩
end
section
open Go Go.Eng Go.RowKit Go.Shelf
noncomputable def nzR:Code:=sqR (sqR (sqR (Vbf Z3)))
def nzE(els:F Zu)(o m:J):Exit->St->Prop:=EndsG Zc Z3 (nzB els) [] (jL ((nstG els o m).map Va2)) (nzB els) []
def nzU(els:F Zu)(o m:J):St:=sx 45 [(2,jL ((nstG els o m).map Va2))] (nzB els) []
def nzT_w(els:F Zu)(o m:J)(hm:o+m<=els.length)(hN:NsG els o m)(hw:∀ k,k<m->Va4 (VE els o k)<=1073741824):W Zc nzR (nzE els o m) (nzT els o m):=by
 intro G w a hr;have hk:=hN.mm;have h0:Jc G w (.vw 1001 21 o m) (a.eval (.tmp 0)):=hr.fr 0 _ rfl;have h3:Jc G w (jL ((pcsG els o m).map Vb7)) (a.eval (.tmp 3)):=hr.fr 3 _ rfl;have hsz:a.tmps.size=45:=hr.size.symm;have hb1:RepB G w 1001 (.vec 107 21 (els.map Vb6)):=hr.bx (1001,_) (by simp[nzT,nzB,sx]);obtain⟨ue,hue⟩:∃ ue,ue=a.eval (.tmp 0):=⟨_,rfl⟩
 obtain⟨u3,hu3⟩:∃ u3,u3=a.eval (.tmp 3):=⟨_,rfl⟩
 rw[<-hue]at h0;rw[<-hu3]at h3;obtain⟨V,hE,hV⟩:=els_V hr.wf hb1 h0 hm (λk q=>⟨hN.cl k q,hw k q⟩);obtain⟨n1,n2⟩:=nsX_ok hN;obtain⟨g1,g2,g3⟩:=Vnf hN;have hnest:=nsG_to w.heap.size (pcsG els o m) (by rw[Vhv];exact hk) n1 n2
 have hcall:=hnest.2 (gh0 G) w [u3] (gh0_wf hr.wf (Zm _)) ⟨u3,[],rfl,h3,rfl⟩ (λp hp=>by
  simp only[gxB,Ys,Yg,Qb]at hp;subst hp
  exact Zm _) ku
 rw[show nzR=.seq (.region 10 (Vaa 10 Z3) B) (.seq (.region 11 (Vaa 11 Z3) B) (.seq (.region 12 (Vaa 12 Z3) B) .ret)) by kernel_rfl];refine wp_seq (Iy ?_);rw[show(Vaa 10 Z3).toList=[regO 10 Z3 0,regO 10 Z3 1,regO 10 Z3 2] by kernel_rfl];refine wl_mv (x:=.tmp 3) u3 (.inl kx) kx hu3.symm ?_;rw[show(regO 10 Z3 0).dst=O 39 by kernel_rfl];refine wl_call (f:=94) (args:=#[.tmp 39]) (tys:=#[62]) #[u3] kx kx hnest.1 ?_ ?_
 ·show #[_]=#[u3];rw[Vl3 kv]
 refine hcall.mono ?_;rintro e w1 ⟨u7,G1,rfl,s1,s2,s3, -⟩;refine⟨u7,rfl,?_⟩;rw[show(regO 10 Z3 1).dst=O 40 by kernel_rfl];refine wl_mv (x:=.tmp 40) u7 (.inr kx) kx (Vl3 (by rw[Vek];omega)) ?_;rw[show(regO 10 Z3 2).dst=O 7 by kernel_rfl];obtain⟨a1,ha1⟩:∃ a1,a1=((a.put (O 39) u3).put (O 40) u7).put (O 7) u7:=⟨_,rfl⟩
 have z1:a1.tmps.size=45:=by rw[ha1,Vek,Vek,Vek];exact hsz
 have e0:a1.eval (.tmp 0)=ue:=by rw[ha1,Vjo gj,Vjo gj,Vjo gj,hue]
 have e7:a1.eval (.tmp 7)=u7:=by rw[ha1];exact Vl3 (by rw[Vek,Vek];omega)
 have d1:a1.defers=a.defers:=by rw[ha1];rfl
 rw[<-ha1]
 show Code.wp Zc _ _ a1 w1;refine wp_seq (Iy ?_);rw[show(Vaa 11 Z3).toList=[regO 11 Z3 0,regO 11 Z3 1,regO 11 Z3 2] by kernel_rfl];refine wl_mv (x:=.tmp 7) u7 (.inl kx) kx e7 ?_;rw[show(regO 11 Z3 0).dst=O 41 by kernel_rfl];refine wl_mv (x:=.tmp 0) ue (.inl kx) kx (by rw[Vjo gj];exact e0) ?_;rw[show(regO 11 Z3 1).dst=O 42 by kernel_rfl];obtain⟨hB1,hU1⟩:=Vlo s1;have hR1:Rr w.heap.size m w w1 V w1:=⟨hB1,Zm _,λ_ _ _=>rfl,λb hb=>hb.2,λ_ _ _ _=>rfl,λ_ _ _ _ _=>.inl λ_ _=>rfl⟩
 have hrs:=callsIn_wide.1 (rs_in (U:=G1.U) hk hB1.size hE (Yp (mgD (nsX (pcsG els o m)))+1) (mgD (nsX (pcsG els o m))) u7 w1 (Zl _) s3 g1 g2 hR1);refine wl_call (f:=95) (args:=#[.tmp 41,.tmp 42]) (tys:=#[24,50]) #[u7,ue] kx kx ⟨Tryz.f95,Tryz.func95,kx,kx⟩ ?_ ?_
 ·show #[_,_]=#[u7,ue];rw[Vl3 (by rw[Vek];omega),Vjo gj,Vl3 kv]
 refine hrs.mono ?_;rintro e w2 ⟨rfl,hR2, -,hD⟩;refine⟨_,rfl,?_⟩;rw[show(regO 11 Z3 2).dst=O 43 by kernel_rfl];obtain⟨a2,ha2⟩:∃ a2,a2=((a1.put (O 41) u7).put (O 42) ue).put (O 43) (.tuple #[]):=⟨_,rfl⟩
 have z2:a2.tmps.size=45:=by rw[ha2,Vek,Vek,Vek];exact z1
 have f7:a2.eval (.tmp 7)=u7:=by rw[ha2,Vjo gj,Vjo gj,Vjo gj];exact e7
 have d2:a2.defers=a.defers:=by rw[ha2];exact d1
 rw[<-ha2]
 show Code.wp Zc _ _ a2 w2;refine wp_seq (Iy ?_);rw[show(Vaa 12 Z3).toList=[regO 12 Z3 0,regO 12 Z3 1] by kernel_rfl];refine wl_mv (x:=.tmp 7) u7 (.inl kx) kx f7 ?_;rw[show(regO 12 Z3 0).dst=O 44 by kernel_rfl];refine wl_mv (x:=.tmp 44) u7 (.inr kx) kx (Vl3 kv) ?_;rw[show(regO 12 Z3 1).dst=O 2 by kernel_rfl]
 show Code.wp Zc _ _ _ w2;refine wp_ret ?_;have hz:∀ b,w2.heap.size<=b->G1.U b=0:=λb hb=>s2.zero b (Z6 hR2.sz hb)
 obtain⟨t1,t2,t3⟩:=Vn3 (U':=G1.U) hr.wf hR2.low s1.U hU1 hz;have him:=Vr9 hr.wf hR2.low;have hrep:=done_rep (VI:=VE els o) hk hR2 (λk q=>⟨(hV k q).1,Rep.mono s1.U him _ _ (hV k q).2⟩) (Yp (mgD (nsX (pcsG els o m)))+1) (mgD (nsX (pcsG els o m))) u7 (Zl _) s3 g1 hD;refine⟨nzU els o m,_,⟨⟨K,_,?_,.inl rfl⟩,Vp1 kx,ku⟩,t1,⟨t2,?_,λt s ht=>?_,λp hp=>?_,λk=>?_,?_⟩,λi hi=>rfl⟩
 ·kernel_rfl
 ·rw[Vek,Vek,z2];rfl
 ·obtain⟨hlt,rfl⟩:=frOf_get ht
  by_cases h2:t=2
  ·subst h2;have:=Vl3 (a:=a2.put (O 44) u7) (d:=2) (v:=u7) (by rw[Vek];omega)
   simp only[Act.eval]at this;rw[this];exact hrep
  ·rw[show([(2,jL ((nstG els o m).map Va2))]:F (J×SV)).lookup t=Y5 by simp[List.lookup,Qi h2]];trivial
 ·exact(hr.bx p hp).persist t1.toExt (t3 _) (λ_ _=>rfl)
 ·exact hr.gn k
 ·show(a2.put (O 44) u7 |>.put (O 2) u7).defers=G.df;exact d2.trans hr.defers
def W_then{x y:Code}{Q:Exit->St->Prop}{S S':St}(h:W Zc x (λe S1=>e=.normal/\Q5 S1 S') S)(k:W Zc y Q S'):W Zc (.seq x y) Q S:=
 Vpn (Vgg h (λe S1 ⟨he,hw⟩=>by subst he;exact Vaj hw k))
def nz0_w(els:F Zu)(o m:J):W Zc (.region 0 (Vaa 0 Z3) B) (λe S1=>e=.normal/\Q5 S1 (sx 45 [(0,.vw 1001 21 o m)] (nzB els) [])) ⟨[.vw 1001 21 o m]++List.replicate (45-1) .junk,nzB els,[]⟩:=by
 refine WN ?_;refine gO m5 ?_;exact LEAF .normal kx (S2:=sx 45 [(0,.vw 1001 21 o m)] (nzB els) []) (WK kx) ⟨rfl,λ_ _ _ h=>h⟩
def nesG_to(els:F Zu)(o m:J)(hm:o+m<=els.length)(he:els.length<=536870912)(hN:NsG els o m)(hw:∀ k,k<m->Va4 (VE els o k)<=1073741824):
  Va1 Zc 57 [.vw 1001 21 o m] (nzB els) [] (jL ((nstG els o m).map Va2)) (kept (nzB els)) []:=by
 refine Vbt (bx1:=nzB els) (n:=45) Tryz.func57 (show _=O (Vbf Z3) by kernel_rfl) kx kx (show 1<=45 by decide) ?_ ku (λs hs=>Vd1 (Xz.1 (show([.vw 1001 21 o m]:F SV).all (okSb ((nzB els).map (·.1)) [])=K by kernel_rfl) s hs)) (Vgv kx) (Vd1 kx) (Vgv kx) kx rfl ?_ ?_ ?_
 ·exact λp hp=>Zq (Xz.1 (show(nzB els).all (λp=>decide (1000<=p.1))=K by kernel_rfl) p hp)
 ·refine Val (c':=.seq (.region 0 (Vaa 0 Z3) B) (.seq (.region 1 (Vaa 1 Z3) B) (.seq nzX nzR))) kx ?_;refine W_then (nz0_w els o m) ?_;refine W_then (nz1_w els o m kv) ?_;exact W_then (nzX_w els o m hm he hN.mm) (nzT_w els o m hm hN hw)
 ·intro p hp;exact .inl (Zq (Xz.1 (show(kept (nzB els)).all (λp=>decide (p.1<2000))=K by kernel_rfl) p hp))
 ·intro p hp;simp only[kept,nzB,Xm,Do,Ys,Yg,Qb]at hp;rcases hp with rfl|rfl
  ·exact⟨_,Qr ..,λ_ _ h=>h⟩
  ·exact⟨_,Xc _ (Qr ..),λ_ _ h=>h⟩
end
section
open Go Go.Eng
def txtE(s:C):DElem:=DElem.mk 0 (DPiece.mk 0 (txI s) ⟨#[]⟩ 0 B B B 0 0) B 0
def txtE_to(s:C):Va1 Zc 53 [jS s] [] [] (.av (Vrt (txtE s))) [] []:=by
 refine bGs Tryz.func53 ?_;refine gO (tn 9 z) ?_;exact eNs
def rdG(s:C)(els:F Zu)(brs:F I)(refs:I):F (J×Jj):=rdB s els brs refs++[glP]
def CLO:ByteArray:=⟨#[93]⟩
def cls0_to(s:C)(els:F Zu)(refs i:I)(he:els.length<=1073741824)(hr:0<=refs/\refs<=1073741824):
  Va1 Zc 91 [.ptr 1000 0,jI i] (rdG s els [] refs) [] (jI i) (rdG s (els++[inE (txI CLO)]) [] refs) []:=by
 have hc:=add_to s els [] refs (txI CLO) he hr;rw[show refB (txI CLO).fKind=B from rfl,Za]at hc;refine bGs Jw ?_;refine gO (xq (b:=(((0:J):I)==0)) (d:=K) rfl<|o8 hc Zb j6) ?_;exact eNs
def cbS(s:C)(els:F Zu)(n:J)(brs:F I)(f refs i:I):St:=sx 97 [(0,.ptr 1000 0),(1,jI i),(5,jI f)] [(1000,rdC s els.length n refs),(2001,elB els),(2002,brB brs),glP] []
def cb5(s:C)(els:F Zu)(bs:F I)(f refs i:I)(hb:bs.length<=1073741824):W Zc (.region 5 (Vaa 5 J5) K) (λe S1=>e=.normal/\Q5 S1 (cbS s els bs.length bs f refs i)) (cbS s els (bs++[f]).length (bs++[f]) f refs i):=by
 have hm1:IntKind.i64.wrap ((((bs++[f]).length:J):I)-1)=((bs.length:J):I):=wrE _ _ (by simp;omega);have hC:(0:I)=0/\0<=IntKind.i64.wrap ((((bs++[f]).length:J):I)-1)/\IntKind.i64.wrap ((((bs++[f]).length:J):I)-1)<=(((bs++[f]).length:J):I):=by rw[hm1];refine⟨rfl,kv,by simp;omega⟩
 have h:=Vhf (P:=Zc) (id:=5) (ops:=Vaa 5 J5) (S:=cbS s els (bs++[f]).length (bs++[f]) f refs i) (cs:=[Z5,Z5,Z5,Z5,Z5,Z5,Z5,Z5,Z5,Z5,Z5,_,_,Z5,Z5,Z5,Z5]) 11 kx kx 97 [(0,.ptr 1000 0),(1,jI i),(5,jI f)] [(1000,rdC s els.length (Yb (IntKind.i64.wrap ((((bs++[f]).length:J):I)-1))) refs),(2001,elB els),(2002,brB (bs++[f])),glP] [] ⟨Zb,Zb,Zb,Zb,Zb,Zb,Zb,Zb,Zb,Zb,Zb,hC,hC,Zb,Zb,Zb,Zb,Zb⟩ kx kx;rw[hm1]at h;refine Vgg h ?_;rintro e S1 ⟨h1,h2⟩;refine⟨h1,λG w a hr=>?_⟩;have h3:=cut_weak (S:=sx 97 [(0,.ptr 1000 0),(1,jI i),(5,jI f)] [(1000,rdC s els.length bs.length refs),(2001,elB els),(2002,brB (bs++[f])),glP] []) (b:=2002) bs.length rfl G w a (h2 G w a hr);rw[show((bs++[f]).map vI).take bs.length=bs.map vI by simp[List.take_append]]at h3;exact h3
def rdK(s:C)(els:F Zu)(brs:F I)(refs:I):F (J×Jj):=[(1000,rdC s els.length brs.length refs),(2001,.vck 107 21 (els.map Vb6)),(2002,.vck 3 1 (brs.map vI)),glP]
def BrkTo(s:C)(els:F Zu)(brs:F I)(refs:I)(b:Zu)(o:J)(i:I)(r:A×I×Yv):Prop:=
 Va1 Zc 145 [.ptr 1000 0,.av (Vrt b),.vw 2001 21 o (els.length-o),jI i] (rdG s els brs refs) [] (.av (.tup [Vaq r.1,vI r.2.1,vB r.2.2])) (rdK s els brs refs) []
def set_elem(els:F Zu)(k:J)(E:Zu)(hk:k<els.length):(els.map Vb6).set k (((els.map Vb6).getD k (.val Dg)).upd 0 (Vrt E))=(els.set k E).map Vb6:=by
 rw[List.map_set];congr 1;rw[Ze,Yd,Zi hk];rfl
def st_elem(els:F Zu)(f:I)(E:Zu)(hf:0<=f/\f<els.length):0<=f/\f<(((els.map Vb6).length:J):I)/\0+21<=((els.map Vb6).getD f.toNat (.val Dg)).cells.length/\((els.map Vb6).getD f.toNat (.val Dg)).isTup=B/\(Vrt E).isTup=B/\(Vrt E).cells.length=21/\0<21:=by
 have hk:f.toNat<els.length:=kv;have e:(els.map Vb6).getD f.toNat (.val Dg)=Vb6 els[f.toNat]:=by
  rw[Ze,Yd,Zi hk];rfl
 rw[e];exact⟨hf.1,by simpa using hf.2,Zm _,rfl,rfl,rfl,gj⟩
def cls1_to(s:C)(els:F Zu)(bs:F I)(f refs i:I)(x:A)(j:I)(hk:BrkTo s els bs refs (el els f.toNat) (f+1).toNat i (x,j,B))(he:els.length<=1073741824)(hr:0<=refs/\refs<=1073741824)(hb:bs.length<=1073741824)(hf:0<=f/\f<els.length):
  Va1 Zc 91 [.ptr 1000 0,jI i] (rdG s els (bs++[f]) refs) [] (jI i) (rdG s (els.set f.toNat (txtE (sgnI (el els f.toNat).fimage))++[inE (txI CLO)]) bs refs) []:=by
 have hm:((((bs++[f]).length:J):I)==0)=false:=by
  rw[Ql,Zz];simp;omega
 have hm1:IntKind.i64.wrap ((((bs++[f]).length:J):I)-1)=((bs.length:J):I):=wrE _ _ (by simp;omega);have hi1:0<=((bs.length:J):I)/\((bs.length:J):I)<(((bs++[f]).length:J):I):=⟨kv,by simp;omega⟩
 have he1:0<=((bs.length:J):I)/\((bs++[f]).map vI)[((bs.length:J):I).toNat]? =O (vI f):=⟨kv,ku⟩
 refine bGs Jw ?_;refine gO (xq hm z) ?_;refine D0 (mq hm1<|kp hi1<|ke he1 m5) kx kx kx ?_;have hi2:0<=f/\f<((els.length:J):I):=hf;have he2:0<=f/\(els.map Vb6)[f.toNat]? =O (Vb6 (el els f.toNat)):=Vi4 els f hf.1 hf.2;refine Dt (cbS s els bs.length bs f refs i) (gq hi2<|ke he2 j6) kx ?_ kx ?_
 ·refine Vaj (S':=cbS s els (bs++[f]).length (bs++[f]) f refs i) (WK kx) ?_;exact Val (c':=.region 5 (Vaa 5 J5) K) kx (cb5 s els bs f refs i hb)
 have hadd:IntKind.i64.wrap (f+1)=f+1:=wrE _ _ kv;have hsl:0<=f+1/\f+1<=((els.length:J):I)/\((els.length:J):I)<=((els.length:J):I):=⟨kv,kv,Z2 _⟩
 refine D0 (tn 7<|kn hadd<|kp hsl<|oq (cO hk)<|kp hk<|tn 13 z) kx kx kx ?_;refine gO (kb (b:= !B) (d:=K) rfl z) ?_;have hsg:=sgnI_to (el els f.toNat).fimage;have htx:=txtE_to (sgnI (el els f.toNat).fimage);refine D0 (tn 7<|ko (cO hsg)<|kp hsg<|oq (cO htx)<|kp htx<|p9 hi2<|kp (st_elem els f (txtE (sgnI (el els f.toNat).fimage)) hf)<|kq 10 z) kx kx kx ?_;refine BOX (e:=107) (sz:=21) 2001 kx (set_elem els f.toNat (txtE (sgnI (el els f.toNat).fimage)) kv) ?_;have hc:=add_to s (els.set f.toNat (txtE (sgnI (el els f.toNat).fimage))) bs refs (txI CLO) (by simpa using he) hr;rw[show refB (txI CLO).fKind=B from rfl,Za]at hc;rw[show rdB s (els.set f.toNat (txtE (sgnI (el els f.toNat).fimage))) bs refs=[(1000,rdC s els.length bs.length refs),(2001,elB (els.set f.toNat (txtE (sgnI (el els f.toNat).fimage)))),(2002,brB bs)] by simp[rdB]]at hc;refine gO (o8 hc Zb j6) ?_;exact eNs
def cls2_to(s:C)(els:F Zu)(bs:F I)(f refs i:I)(x:A)(j:I)(hk:BrkTo s els bs refs (el els f.toNat) (f+1).toNat i (x,j,K))(he:els.length<=1073741824)(hr:0<=refs/\refs<=1073741824)(hb:bs.length<=1073741824)(hf:0<=f/\f<els.length):
  Va1 Zc 91 [.ptr 1000 0,jI i] (rdG s els (bs++[f]) refs) [] (jI j) (rdG s (els.take f.toNat++[inE x]) bs (Zp (refB x.fKind) (refs+1) refs)) []:=by
 have hm:((((bs++[f]).length:J):I)==0)=false:=by
  rw[Ql,Zz];simp;omega
 have hm1:IntKind.i64.wrap ((((bs++[f]).length:J):I)-1)=((bs.length:J):I):=wrE _ _ (by simp;omega);have hi1:0<=((bs.length:J):I)/\((bs.length:J):I)<(((bs++[f]).length:J):I):=⟨kv,by simp;omega⟩
 have he1:0<=((bs.length:J):I)/\((bs++[f]).map vI)[((bs.length:J):I).toNat]? =O (vI f):=⟨kv,ku⟩
 refine bGs Jw ?_;refine gO (xq hm z) ?_;refine D0 (mq hm1<|kp hi1<|ke he1 m5) kx kx kx ?_;have hi2:0<=f/\f<((els.length:J):I):=hf;have he2:0<=f/\(els.map Vb6)[f.toNat]? =O (Vb6 (el els f.toNat)):=Vi4 els f hf.1 hf.2;refine Dt (cbS s els bs.length bs f refs i) (gq hi2<|ke he2 j6) kx ?_ kx ?_
 ·refine Vaj (S':=cbS s els (bs++[f]).length (bs++[f]) f refs i) (WK kx) ?_;exact Val (c':=.region 5 (Vaa 5 J5) K) kx (cb5 s els bs f refs i hb)
 have hadd:IntKind.i64.wrap (f+1)=f+1:=wrE _ _ kv;have hsl:0<=f+1/\f+1<=((els.length:J):I)/\((els.length:J):I)<=((els.length:J):I):=⟨kv,kv,Z2 _⟩
 refine D0 (tn 7<|kn hadd<|kp hsl<|oq (cO hk)<|kp hk<|tn 13 z) kx kx kx ?_;have hs2:(0:I)=0/\0<=f/\f<=((els.length:J):I):=⟨rfl,hf.1,kv⟩
 refine gO (kb (b:= !K) (d:=B) rfl<|nq hs2<|tn 3<|kq 13 z) ?_;refine CUTV (e:=107) (sz:=21) 2001 f.toNat kx (l':=(els.take f.toNat).map Vb6) (by rw[Dd]) ?_;have hlt:(els.take f.toNat).length=f.toNat:=by rw[Xt];omega
 have hc:=add_to s (els.take f.toNat) bs refs x kv hr;rw[show rdB s (els.take f.toNat) bs refs=[(1000,rdC s f.toNat bs.length refs),(2001,elB (els.take f.toNat)),(2002,brB bs)] by simp[rdB,hlt]]at hc;refine gO (o8 hc Zb j6) ?_;exact eNs
def pcS(s:C)(els:F Zu)(brs:F I)(refs:I)(p:Yu):St:=sx 64 [(0,.ptr 1000 0),(3,.ptr 3 0)] ((3,.cells 68 (sPiece p))::rdB s els brs refs) []
def pcT(s:C)(els:F Zu)(brs:F I)(refs:I)(p:Yu):St:=sx 64 [(0,.ptr 1000 0),(3,.ptr 3 0)] (rdB s els brs refs++[(3,.cells 68 (sPiece p))]) []
def Vop(p:Yu):DElem:=DElem.mk 1 p B 0
def opnE(p:Yu)(refs:I):DElem:=DElem.mk 2 (DPiece.mk 0 (Yc 0 ⟨#[]⟩ ⟨#[]⟩ ⟨#[]⟩ ⟨⟨#[]⟩,[],[]⟩ [] [] []) ⟨#[]⟩ 0 B B B 0 0) p.fImage refs
def Vqn(s:C)(els:F Zu)(brs:F I)(refs:I)(e:Zu)(l:F (J×Jj)):([(1000,rdC s (els.length+1) brs.length refs),(2001,ABox.vec 107 21 ((els.map Vb6).take els.length++[Vb6 e])),(2002,brB brs)]++l)=rdB s (els++[e]) brs refs++l:=by
 rw[rdB_snoc]
def pc4(s:C)(els:F Zu)(brs:F I)(refs:I)(p:Yu)(he:els.length<=1073741824):W Zc (.region 4 (Vaa 4 I1) K) (λe S1=>e=.normal/\Q5 S1 (pcT s (els++[Vop p]) brs refs p)) (pcS s els brs refs p):=by
 have hu:Db 21 [Vb6 (Vop p)]:=uni1 rfl rfl;have hC:cBnd els.length 272 21 (els.map Vb6) (Vb6 (Vop p)):=⟨ku,hu,by simp;omega⟩
 unfold pcT;rw[<-Vqn];exact Vhf (cs:=[Z5,Z5,Z5,Z5,Z5,Z5,Z5,Db 21 [Vb6 (Vop p)],cBnd els.length 272 21 (els.map Vb6) (Vb6 (Vop p)),cBnd els.length 272 21 (els.map Vb6) (Vb6 (Vop p)),Z5,Z5,Z5,Z5]) 8 kx kx 64 [(0,.ptr 1000 0),(3,.ptr 3 0)] _ [] ⟨Zb,Zb,Zb,Zb,Zb,Zb,Zb,hu,hC,hC,Zb,Zb,Zb,Zb,Zb⟩ kx kx
def pRun_to(s:C)(els:F Zu)(brs:F I)(refs:I)(p:Yu)(he:els.length<=1073741824)(hk:p.fKind=1):
  Va1 Zc 52 [.ptr 1000 0,.av (Vby p)] (rdB s els brs refs) [] (jI p.fTo) (rdB s (els++[Vop p]) brs refs) []:=by
 refine bGs I0 ?_;refine gO (zq (b:=p.fKind==1) (d:=K) (by rw[hk];rfl) z) ?_;refine Dt (pcT s (els++[Vop p]) brs refs p) i6 kx ?_ kx ?_
 ·refine Vaj (S':=pcS s els brs refs p) (WK kx) ?_;exact Val (c':=.region 4 (Vaa 4 I1) K) kx (pc4 s els brs refs p he)
 exact eNs
def pOth_to(s:C)(els:F Zu)(brs:F I)(refs:I)(p:Yu)(he:els.length<=1073741824)(hr:0<=refs/\refs<=1073741824)(h1:p.fKind≠1)(h2:p.fKind≠2)(h3:p.fKind≠3):
  Va1 Zc 52 [.ptr 1000 0,.av (Vby p)] (rdB s els brs refs) [] (jI p.fTo) (rdB s (els++[inE p.fInline]) brs (Zp (refB p.fInline.fKind) (refs+1) refs)) []:=by
 have hc:=add_to s els brs refs p.fInline he hr;refine bGs I0 ?_;refine gO (zq (b:=p.fKind==1) (d:=B) (Qi h1)<|z6 (b:=p.fKind==2) (d:=B) (Qi h2)<|z6 (b:=p.fKind==3) (d:=B) (Qi h3)<|tn 3<|kg hc Zb i6) ?_;exact eNs
def pCls_to(s:C)(els els':F Zu)(brs brs':F I)(refs refs':I)(p:Yu)(tu:I)(h3:p.fKind=3)
  (hc:Va1 Zc 91 [.ptr 1000 0,jI p.fTo] (rdG s els brs refs) [] (jI tu) (rdG s els' brs' refs') []):
  Va1 Zc 52 [.ptr 1000 0,.av (Vby p)] (rdG s els brs refs) [] (jI tu) (rdG s els' brs' refs') []:=by
 refine bGs I0 ?_;refine gO (zq (b:=p.fKind==1) (d:=B) (by rw[h3];rfl)<|z6 (b:=p.fKind==2) (d:=B) (by rw[h3];rfl)<|z6 (b:=p.fKind==3) (d:=K) (by rw[h3];rfl)<|tn 3<|kg hc Zb m5) ?_;exact eNs
def rdB_brs(s:C)(els:F Zu)(brs:F I)(refs:I)(k:I)(l:F (J×Jj)):([(1000,rdC s els.length (brs.length+1) refs),(2001,elB els),(2002,ABox.vec 3 1 ((brs.map vI).take brs.length++[vI k]))]++l)=rdB s els (brs++[k]) refs++l:=by
 simp[rdB,brB,Ye]
def pc6(s:C)(els:F Zu)(brs:F I)(refs:I)(p:Yu)(hb:brs.length<=1073741824):W Zc (.region 6 (Vaa 6 I1) K) (λe S1=>e=.normal/\Q5 S1 (pcT s els (brs++[((els.length:J):I)]) refs p)) (pcS s els brs refs p):=by
 have hu:Db 1 [vI ((els.length:J):I)]:=uni1 rfl rfl;have hC:cBnd brs.length 8 1 (brs.map vI) (vI ((els.length:J):I)):=⟨ku,hu,by simp;omega⟩
 unfold pcT;rw[<-rdB_brs];exact Vhf (cs:=[Z5,Z5,Z5,Z5,Z5,Z5,Z5,Z5,Z5,Z5,Db 1 [vI ((els.length:J):I)],cBnd brs.length 8 1 (brs.map vI) (vI ((els.length:J):I)),cBnd brs.length 8 1 (brs.map vI) (vI ((els.length:J):I)),Z5,Z5,Z5,Z5]) 11 kx kx 64 [(0,.ptr 1000 0),(3,.ptr 3 0)] _ [] ⟨Zb,Zb,Zb,Zb,Zb,Zb,Zb,Zb,Zb,Zb,hu,hC,hC,Zb,Zb,Zb,Zb,Zb⟩ kx kx
def pc7(s:C)(els:F Zu)(brs:F I)(refs:I)(p:Yu)(he:els.length<=1073741824):W Zc (.region 7 (Vaa 7 I1) K) (λe S1=>e=.normal/\Q5 S1 (pcT s (els++[opnE p refs]) brs refs p)) (pcS s els brs refs p):=by
 have hu:Db 21 [Vb6 (opnE p refs)]:=uni1 rfl rfl;have hC:cBnd els.length 272 21 (els.map Vb6) (Vb6 (opnE p refs)):=⟨ku,hu,by simp;omega⟩
 unfold pcT;rw[<-Vqn];exact Vhf (cs:=[Z5,Z5,Z5,Z5,Z5,Z5,Z5,Z5,Z5,Z5,Z5,Z5,Db 21 [Vb6 (opnE p refs)],cBnd els.length 272 21 (els.map Vb6) (Vb6 (opnE p refs)),cBnd els.length 272 21 (els.map Vb6) (Vb6 (opnE p refs)),Z5,Z5,Z5,Z5]) 13 kx kx 64 [(0,.ptr 1000 0),(3,.ptr 3 0)] _ [] ⟨Zb,Zb,Zb,Zb,Zb,Zb,Zb,Zb,Zb,Zb,Zb,Zb,hu,hC,hC,Zb,Zb,Zb,Zb,Zb⟩ kx kx
def pOpn_to(s:C)(els:F Zu)(brs:F I)(refs:I)(p:Yu)(he:els.length<=1073741824)(hb:brs.length<=1073741824)(hk:p.fKind=2):
  Va1 Zc 52 [.ptr 1000 0,.av (Vby p)] (rdB s els brs refs) [] (jI p.fTo) (rdB s (els++[opnE p refs]) (brs++[((els.length:J):I)]) refs) []:=by
 refine bGs I0 ?_;refine gO (zq (b:=p.fKind==1) (d:=B) (by rw[hk];rfl)<|z6 (b:=p.fKind==2) (d:=K) (by rw[hk];rfl) z) ?_;refine Dt (pcT s els (brs++[((els.length:J):I)]) refs p) z kx ?_ kx ?_
 ·refine Vaj (S':=pcS s els brs refs p) (WK kx) ?_;exact Val (c':=.region 6 (Vaa 6 I1) K) kx (pc6 s els brs refs p hb)
 refine Dt (pcT s (els++[opnE p refs]) (brs++[((els.length:J):I)]) refs p) i6 kx ?_ kx ?_
 ·refine Vaj (S':=pcS s els (brs++[((els.length:J):I)]) refs p) (WK kx) ?_;exact Val (c':=.region 7 (Vaa 7 I1) K) kx (pc7 s els (brs++[((els.length:J):I)]) refs p he)
 exact eNs
def wC(s:C):Nat:=200*(s.size+20)
def WD(s:C)(i:I)(r:A×I):Prop:=r.2=0\/(r.1.fKids=[]/\0<=r.1.fKind/\(Va4 r.1:I)<=(wC s:I)*(r.2-i))
def Vkh(s:C){d:I}(h:1<=d):(wC s:I)<=(wC s:I)*d:=by
 have:(wC s:I)*1<=(wC s:I)*d:=Ym h kv;omega
def WD.mk{s:C}{i e:I}{k:I}{t d ti:C}{ar:F C}(h:i<e)(hk:0<=k)(hw:Va4 (Yc k t d ti ⟨⟨#[]⟩,[],[]⟩ ar [] [])<=wC s):WD s i (Yc k t d ti ⟨⟨#[]⟩,[],[]⟩ ar [] [],e):=
 .inr ⟨rfl,hk,by have:=Vkh s (d:=e-i) kv;show(Va4 (Yc k t d ti ⟨⟨#[]⟩,[],[]⟩ ar [] []):I)<=(wC s:I)*(e-i);omega⟩
def wIx(k:I)(t d ti:C)(ar:F C):Va4 (Yc k t d ti ⟨⟨#[]⟩,[],[]⟩ ar [] [])=t.size+d.size+ti.size+7+wl wStr ar:=by
 rw[Vao,Vcv];simp only[wl,w1,wStr,show Zj (⟨#[]⟩:C)=0 from rfl];omega
def WD.tx{s:C}{i e:I}{k:I}{t:C}(h:i<e)(hk:0<=k)(ht:t.size<=s.size+100):WD s i (Yc k t ⟨#[]⟩ ⟨#[]⟩ ⟨⟨#[]⟩,[],[]⟩ [] [] [],e):=
 WD.mk h hk (by rw[wIx,show Zj (⟨#[]⟩:C)=0 from rfl];unfold wC;simp only[wl];omega)
def WD.dt{s:C}{i e:I}{k:I}{t:C}(h:i<e)(hk:0<=k)(ht:t.size<=s.size+100):WD s i (Yc k ⟨#[]⟩ t ⟨#[]⟩ ⟨⟨#[]⟩,[],[]⟩ [] [] [],e):=
 WD.mk h hk (by rw[wIx,show Zj (⟨#[]⟩:C)=0 from rfl];unfold wC;simp only[wl];omega)
def Vdr(s:C)(a b:J):(Zd s a b).size<=s.size:=by rw[Vai];omega
def bd_lt{s:C}{i:I}{r:A×I}(h:Bd s i r)(h0:0<=i)(hr:r.2≠0):i<r.2:=by rcases h with h|h;exact Z1 h hr;exact h.1
def bslP_wd(s:C)(i:I)(h0:0<=i):WD s i (bslP s i):=by
 have hb:=Vc4 s (i+2) kv;exact Va5 (WD s i) (λ_=>.inl rfl) (λ_=>Va5 (WD s i) (λ_=>WD.tx kv gj (Zw _)) (λ_=>Va5 (WD s i) (λ_=>WD.tx kv gj (Z6 (Vdr ..) kv)) (λ_=>.inl rfl)))
def nmdP_wd(s:C)(i:I)(h0:0<=i):WD s i (nmdP s i):=by
 have hb:=Vg0 s (i+2) kv;refine Va5 (WD s i) (λ_=>.inl rfl) (λ_=>Va5 (WD s i) (λ_=>.inl rfl) (λ_=>Va5 (WD s i) (λ_=>WD.tx kv gj (Z6 (Vdr ..) kv)) (λ_=>Va5 (WD s i) (λ_=>WD.tx kv gj (Z6 (Vdr ..) kv)) (λ_=>Va5 (WD s i) (λ_=>WD.mk kv gj ?_) (λ_=>.inl rfl)))));have he:=Vdr s (Yb (i+2)) (Yb (nmeS s (i+2)));rw[wIx];unfold wC;simp only[wl,show Zj (⟨#[]⟩:C)=0 from rfl,show Zj (⟨#[112,97,103,101]⟩:C)=4 from rfl];omega
def dolG_wd(s:C)(i:I)(h0:0<=i):WD s i (dolG s i):=by
 refine Va5 (WD s i) (λ_=>.inl rfl) (λq=>?_);have q:=Zk q;exact Va5 (WD s i) (λ_=>.inl rfl) (λ_=>Va5 (WD s i) (λ_=>.inl rfl) (λ_=>WD.tx kv gj (Z6 (Vdr ..) kv)))
def codP_wd(s:C)(ka:F I)(la:F (F I))(i:I)(h0:0<=i)(h1:i<s.size)(h:Dw s la):WD s i (codP s ka la i):=by
 have hb:=codP_bd s ka la i h0 h1 h;unfold codP at hb ⊢;cases hd:Zh (codJ s ka la i<0)with
 |true=>exact .inl rfl
 |false=>
  rw[hd,Za]at hb;refine Va5 (WD s i) (λq=>by cases q) (λ_=>?_)
  by_cases hz:codJ s ka la i+runE s i-i=0
  ·exact .inl hz
  ·exact WD.tx (bd_lt hb h0 hz) gj (Z6 (codC_sz _) (Z6 (Vdr ..) kv))
def mtcP_wd(s:C)(kd:F I)(ld:F (F I))(i:I)(h0:0<=i)(h1:i<s.size)(h:Dw s ld):WD s i (mtcP s kd ld i):=by
 have hb:=mtcP_bd s kd ld i h0 h1 h;unfold mtcP at hb ⊢;cases hd:Zp (Zh (i+1>=((Zj s:J):I))) K (D2 s (i+1) !=96)with
 |true=>exact .inl rfl
 | false=>
  rw[hd,Za]at hb;refine Va5 (WD s i) (λq=>by cases q) (λ_=>?_);cases hd2:Zh (mtcJ s kd ld i<0)with
  |true=>exact .inl rfl
  |false=>
   rw[hd2,Za]at hb;refine Va5 (WD s i) (λq=>by cases q) (λ_=>?_)
   by_cases hz:mtcJ s kd ld i+mtcN s i+1=0
   ·exact .inl hz
   ·exact WD.tx (bd_lt hb h0 hz) gj (Z6 (codC_sz _) (Z6 (Vdr ..) kv))
def Vnu(s:C)(i v6:I)(k0:I->(A×I))(h0:0<=i):∀(n:J)(w:I),i<w->WD s i (Dj s i v6 k0 n w)
 |0,w,_=>.inl rfl
 |n+1,w,h=>by
  rw[Dj];refine Va5 (WD s i) (λ_=>Vnu s i v6 k0 h0 n _ kv) (λ_=>Va5 (WD s i) (λ_=>.inl rfl) (λ_=>WD.dt kv gj (Z6 (Vdr ..) kv)))
def Vnw(s:C)(i:I)(h0:0<=i):∀(n:J)(w:I),i<w->WD s i (Dk s i n w)
 |0,w,_=>.inl rfl
 |n+1,w,h=>by
  rw[Dk];exact Va5 (WD s i) (λ_=>Vnw s i h0 n _ kv) (λ_=>Va5 (WD s i) (λ_=>.inl rfl) (λ_=>Vnu s i _ _ h0 _ _ h))
def autP_wd(s:C)(i:I)(h0:0<=i):WD s i (autP s i):=Vnw s i h0 _ _ kv
def wl_strs{n:J}:∀ {l:F C},(∀x∈l,x.size<=n)->wl wStr l<=l.length*(n+1)
 |[],_=>Zw _
 |x::l,h=>by
  have h1:=h x ku;have h2:=wl_strs (n:=n) (l:=l) (λy hy=>h y (by simp[hy]));rw[wl,wStr,Xu,Ii];omega
def usL_wd(s t:C)(i:I)(h0:0<=i)(ht:t.size<=s.size):∀(n:J)(v:I)(l:F C),i<v->v<=s.size+1->l.length<=8->(∀x∈l,x.size<=s.size)->WD s i (usL s t n v l)
 |0,v,l,_,_,_,_=>.inl rfl
 | n+1,v,l,h,h2,h3,h4=>by
  rw[usL];refine Va5 (WD s i) (λq=>?_) (λ_=>Va5 (WD s i) (λ_=>.inl rfl) (λ_=>?_))
  ·cases hc:(((l.map Vak).length:I)==8)with
   |true=>exact .inl rfl
   |false=>
    have hc:(((l.map Vak).length:J):I)≠8:=by simpa using hc
    rw[Yw]at hc;rw[Za];have q:=Zq (Va9 q).1;have hb:=usE_bd s (v+1) kv;refine usL_wd s t i h0 ht n _ _ kv kv (by simp;omega) (λx hx=>?_);rcases Z0.1 hx with hx|hx
    ·exact h4 x hx
    ·have:x=_:=Zv.1 hx;rw[this];exact Vdr ..
  ·refine WD.mk kv gj ?_;rw[wIx];have:=wl_strs (n:=s.size) h4;have h5:l.length*(s.size+1)<=8*(s.size+1):=Xp _ h3;unfold wC;simp only[show Zj (⟨#[]⟩:C)=0 from rfl];omega
def useP_wd(s:C)(i:I)(h0:0<=i)(h1:i<s.size):WD s i (useP s i):=by
 have hb:=Vg0 s (i+2) kv;unfold useP;exact Va5 (WD s i) (λ_=>.inl rfl) (λ_=>Va5 (WD s i) (λ_=>.inl rfl) (λ_=>usL_wd s _ i h0 (Vdr ..) _ _ _ kv kv gj ku))
def appS_sz(n:I):(appS ⟨#[]⟩ n).size<=4:=by
 unfold appS;rw[Yo];have:=(enc_sz (IntKind.i32.wrap (Zp (Zp (Zp (Zh ((n:I)<0)) K (Zh ((n:I)>1114111))) K (Zp (Zh ((n:I)>=55296)) (Zh ((n:I)<=57343)) B)) 65533 n))).2
 show 0+(seqS n).size<=4;unfold seqS;omega
def refL_wd(s r:C)(i:I)(h0:0<=i):∀(m:J)(n k:I),2<=k->WD s i (refL r i m n k)
 |0,n,k,_=>.inl rfl
 |m+1,n,k,h=>by
  rw[refL];refine Va5 (WD s i) (λq=>refL_wd s r i h0 m _ _ kv) (λ_=>?_);unfold refT;exact Va5 (WD s i) (λ_=>.inl rfl) (λ_=>Va5 (WD s i) (λ_=>.inl rfl) (λ_=>WD.tx kv gj (by have:=appS_sz n;omega)))
def refP_wd(s:C)(i:I)(h0:0<=i):WD s i (refP s i):=
 Va5 (WD s i) (λ_=>WD.tx kv gj (by show 1<=_;omega)) (λ_=>Va5 (WD s i) (λ_=>WD.tx kv gj (by show 1<=_;omega)) (λ_=>Va5 (WD s i) (λ_=>WD.tx kv gj (by show 1<=_;omega)) (λ_=>Va5 (WD s i) (λ_=>WD.tx kv gj (by show 1<=_;omega)) (λ_=>Va5 (WD s i) (λ_=>.inl rfl) (λ_=>refL_wd s _ i h0 _ _ _ kv)))))
def CWt(t:C)(r:Dq×Yv):Prop:=Vc8 r.1<=3*t.size+5
def citF_w(t:C):CWt t (citF t):=by
 have h1:∀(u v x:C)(q b:Yv),u.size<=t.size->v.size<=t.size->x.size<=t.size->CWt t (DCited.mk u v x q,b):=λu v x q b hu hv hx=>by
  show Vc8 (DCited.mk u v x q)<=_;rw[Vq0];simp only[w1,wStr];omega
 have h2:∀ a b p,(trmB (Zd t a b) p).size<=t.size:=λa b p=>Z6 (Veu _ _) (Vdr ..)
 have hz:∀ b,CWt t (DCited.mk ⟨#[]⟩ ⟨#[]⟩ ⟨#[]⟩ B,b):=λb=>h1 _ _ _ _ _ (Zw _) (Zw _) (Zw _)
 exact Va5 (CWt t) (λ_=>hz _) (λ_=>Va5 (CWt t) (λ_=>Va5 (CWt t) (λ_=>hz _) (λ_=>Va5 (CWt t) (λ_=>hz _) (λ_=>h1 _ _ _ _ _ (Vdr ..) (h2 _ _ _) (h2 _ _ _)))) (λ_=>Va5 (CWt t) (λ_=>hz _) (λ_=>Va5 (CWt t) (λ_=>hz _) (λ_=>h1 _ _ _ _ _ (Vdr ..) (h2 _ _ _) (h2 _ _ _)))))
def ctsG_w(t:C):wl Vc8 (ctsG t).1<=(t.size+1)*(3*t.size+5):=by
 unfold ctsG;refine Va5 (λr:F Dq×Yv=>wl Vc8 r.1<=(t.size+1)*(3*t.size+5)) (λ_=>Zw _) (λ_=>Va5 (λr:F Dq×Yv=>wl Vc8 r.1<=(t.size+1)*(3*t.size+5)) (λ_=>?_) (λ_=>Zw _));have h1:=prt_len t;have h2:=prt_sz t;have h3:∀ l:F C,(∀x∈l,x.size<=t.size)->wl Vc8 (cuts l)<=l.length*(3*t.size+5):=by
  intro l
  induction l with
  |nil=>exact λ_=>Zw _
  |cons x l ih=>
   intro h;have h4:Vc8 (citF x).1<=3*x.size+5:=citF_w x;have h5:=h x ku;have h6:=ih (λy hy=>h y (by simp[hy]))
   show Vc8 (citF x).1+wl Vc8 (cuts l)<=_;rw[Xu,Ii];omega
 exact Z6 (h3 _ h2) (Xp _ h1)
def cteG_wd(s:C)(i:I)(h0:0<=i)(h1:i<s.size):WD s i (cteG s i):=by
 unfold cteG;refine Va5 (WD s i) (λ_=>.inl rfl) (λq=>Va5 (WD s i) (λ_=>.inl rfl) (λ_=>?_));have q:=Zk (Va8 q).1;generalize hn:idxA (Zd s (Yb (i+1)) (Zj s)) (⟨#[91,93]⟩)=n at q ⊢;have hz:=Vai s (Yb (i+1)) (Yb (i+1+n));have hw:=ctsG_w (Zd s (Yb (i+1)) (Yb (i+1+n)));generalize Zd s (Yb (i+1)) (Yb (i+1+n))=t at hz hw ⊢;have ht:(t.size:I)<=n:=kv;have ht2:t.size<=s.size:=kv;refine .inr ⟨rfl,by show(0:I)<=13;decide,?_⟩;rw[Vao,Vcv];simp only[wl,w1,wStr,show Zj (⟨#[]⟩:C)=0 from rfl];have h5:(t.size+1)*(3*t.size+5)+8<=(t.size+2)*wC s:=by
  have e1:3*t.size+5<=wC s:=by unfold wC;omega
  have e2:(t.size+1)*(3*t.size+5)<=(t.size+1)*wC s:=Nat.mul_le_mul_left _ e1;have e3:(t.size+2)*wC s=(t.size+1)*wC s+wC s:=by rw[show t.size+2=(t.size+1)+1 from rfl,Ii]
  have e4:8<=wC s:=by unfold wC;omega
  omega
 have h6:(((t.size+2)*wC s:J):I)<=(wC s:I)*(i+n+2-i):=by
  rw[Int.natCast_mul,Int.mul_comm];exact Ym kv kv
 omega
structure PW (s:C) (i:I) (p:Yu):Prop where
 kids:p.fInline.fKids=[]
 kind:0<=p.fInline.fKind
 wt:(Va4 p.fInline:I)<=(wC s:I)*(p.fTo-i)
 num:20*p.fN<=(wC s:I)*(p.fTo-i)
def Vgx{s:C}{i:I}{x:A×I}{r:Yu×Yv}(hx:WD s i x)(hb:Bd s i x)(hr:PW s i r.1):PW s i (fdR x r).1:=by
 unfold fdR;refine Va5 (λq:Yu×Yv=>PW s i q.1) (λq=>?_) (λ_=>hr);have q:=Zq q;rcases hx with e|⟨h1,h2,h3⟩
 ·omega
 ·refine⟨h1,h2,h3,?_⟩
  show 20*(0:I)<=_;have:=Vaw x.1
  show _<=(wC s:I)*(x.2-i)
  omega
def Vp2{s:C}{i e:I}(h:i<e):PW s i (litP s i e):=by
 have h1:=wIx 1 (Zd s (Yb i) (Yb e)) ⟨#[]⟩ ⟨#[]⟩ [];have h2:=Vdr s (Yb i) (Yb e);have h3:=Vkh s (d:=e-i) kv;simp only[wl,show Zj (⟨#[]⟩:C)=0 from rfl]at h1;have h4:(Va4 (litP s i e).fInline:I)<=(wC s:I)*(e-i):=by
  have:Va4 (litP s i e).fInline<=wC s:=by show Va4 (Yc _ _ _ _ _ _ _ _)<=_;rw[h1];unfold wC;omega
  omega
 exact⟨rfl,by show(0:I)<=1;decide,h4,by show 20*(0:I)<=(wC s:I)*(e-i);omega⟩
def pcR_pw(s:C)(i k e:I)(g:Yv)(h:i<e):PW s i (pcR k g e).1:=by
 have h3:=Vkh s (d:=e-i) kv;have h1:Va4 zI=7:=by
  show Va4 (Yc _ _ _ _ _ _ _ _)=_;rw[wIx];rfl
 refine⟨rfl,Z2 _,?_,by show 20*(0:I)<=(wC s:I)*(e-i);omega⟩
 show(Va4 zI:I)<=(wC s:I)*(e-i)
 have:7<=wC s:=by unfold wC;omega
 omega
def nxR_pw(s:C)(i:I)(h0:0<=i)(h1:i<s.size):PW s i (nxR s i).1:=by
 have nb:=Vd2 s i h0 h1;exact Vp2 kv
def runP_pw(s:C)(ka:F I)(va:F AV)(kd:F I)(vd:F AV)(i:I)(h0:0<=i)(h1:i<s.size):PW s i (runP s ka va kd vd i).1:=by
 have h2:=Vf2 s i h0 h1;unfold runP;refine Va5 (λq:Yu×Yv=>PW s i q.1) (λ_=>Vp2 kv) (λ_=>?_);have h3:=Vkh s (d:=runE s i-i) kv;have h4:Va4 (Yc 0 ⟨#[]⟩ ⟨#[]⟩ ⟨#[]⟩ ⟨⟨#[]⟩,[],[]⟩ [] [] [])=7:=by rw[wIx];rfl
 refine⟨rfl,Z2 _,?_,?_⟩
 ·show(Va4 (Yc 0 ⟨#[]⟩ ⟨#[]⟩ ⟨#[]⟩ ⟨⟨#[]⟩,[],[]⟩ [] [] []):I)<=(wC s:I)*(runE s i-i)
  have:7<=wC s:=by unfold wC;omega
  omega
 ·show 20*(runE s i-i)<=(wC s:I)*(runE s i-i)
  exact Y0 (by unfold wC;omega) kv
def spR_pw(s:C)(i:I)(h0:0<=i)(h1:i<s.size)(hb:D2 s i=32\/D2 s i=10):PW s i (spR s i).1:=by
 have hs:=Vc4 s i h0;have hs2:=Vc4 s (skpS s i+1) kv;have hN:=nxR_pw s i h0 h1;have h2:PW s i (fdR (coI 2 ⟨#[]⟩,skpS s (skpS s i+1)) (nxR s i)).1:=Vgx (WD.tx kv gj (by show 0<=_;omega)) (Bd.mk kv kv) hN;unfold spR;rcases hb with hb|hb
 ·have h3:=skpS_lt s i h0 h1 hb;exact Va5 (λq:Yu×Yv=>PW s i q.1) (λ_=>Vp2 kv) (λ_=>h2)
 ·have h3:=skpS_at s i h1 hb;refine Va5 (λq:Yu×Yv=>PW s i q.1) (λq=>?_) (λ_=>h2);exfalso;rw[h3,hb]at q;have hd:Zh (i>=((Zj s:J):I))=false:=Zo kv;rw[hd]at q;exact Z1 q gj
def pceG_pw(s:C)(ka:F I)(la:F (F I))(kd:F I)(ld:F (F I))(i:I)(h0:0<=i)(h1:i<s.size)(hta:Dw s la)(htd:Dw s ld):PW s i (pceG s ka la kd ld i).1:=by
 have hN:=nxR_pw s i h0 h1;have hE:=Vf2 s i h0 h1;have kP:∀ {b:Yv} {x y:Yu×Yv},(b=K->PW s i x.1)->(b=B->PW s i y.1)->PW s i (Zp b x y).1:=λh1 h2=>Va5 (λq:Yu×Yv=>PW s i q.1) h1 h2
 unfold pceG;refine kP (λ_=>Vgx (bslP_wd s i h0) (bslP_bd s i h0 h1) hN) (λ_=>?_);refine kP (λq=>spR_pw s i h0 h1 (.inl (eq_of_beq q))) (λ_=>?_);refine kP (λq=>spR_pw s i h0 h1 (.inr (eq_of_beq q))) (λ_=>?_);refine kP (λ_=>Vgx (refP_wd s i h0) (refP_bd s i h0 h1) hN) (λ_=>?_);refine kP (λ_=>Vgx (mtcP_wd s kd ld i h0 h1 htd) (mtcP_bd s kd ld i h0 h1 htd) (Vgx (dolG_wd s i h0) (dolG_bd s i h0 h1) hN)) (λ_=>?_);refine kP (λ_=>Vgx (codP_wd s ka la i h0 h1 hta) (codP_bd s ka la i h0 h1 hta) (Vp2 kv)) (λ_=>?_);refine kP (λ_=>Vgx (autP_wd s i h0) (autP_bd s i h0) hN) (λ_=>?_);refine kP (λ_=>Vgx (useP_wd s i h0 h1) (useP_bd s i h0 h1) hN) (λ_=>?_);refine kP (λ_=>Vgx (nmdP_wd s i h0) (nmdP_bd s i h0 h1) (Vgx (cteG_wd s i h0 h1) (cteG_bd s i h0 h1) (pcR_pw s i _ _ _ kv))) (λ_=>?_);refine kP (λ_=>kP (λ_=>pcR_pw s i _ _ _ kv) (λ_=>hN)) (λ_=>?_);refine kP (λ_=>pcR_pw s i _ _ _ kv) (λ_=>?_);refine kP (λ_=>runP_pw s ka _ kd _ i h0 h1) (λ_=>?_);refine kP (λ_=>runP_pw s ka _ kd _ i h0 h1) (λ_=>?_);exact kP (λ_=>runP_pw s ka _ kd _ i h0 h1) (λ_=>hN)
def TL(i:I)(r:C×I×Yv):Prop:=r.2.2=K->i<=r.2.1
def TL0(i:I):TL i (⟨#[]⟩,0,B):=λh=>by cases h
def Vjh(s:C)(i:I):∀(n:J)(v:I),i<=v->TL i (angS_L0 s i n v)
 |0,v,_=>λh=>by cases h
 |n+1,v,h=>Va5 (TL i) (λ_=>Va5 (TL i) (λ_=>Vjh s i n _ kv) (λ_=>Va5 (TL i) (λ_=>λ_=>by show i<=v+1;omega) (λ_=>Va5 (TL i) (λ_=>TL0 i) (λ_=>Vjh s i n _ kv)))) (λ_=>TL0 i)
def Vgm(s:C)(i last:I):∀(n:J)(v:I),i<=v->TL i (quoS_L0 s i last n v)
 |0,v,_=>λh=>by cases h
 |n+1,v,h=>Va5 (TL i) (λ_=>Va5 (TL i) (λ_=>Vgm s i last n _ kv) (λ_=>Va5 (TL i) (λ_=>λ_=>by show i<=v+1;omega) (λ_=>Va5 (TL i) (λ_=>TL0 i) (λ_=>Vgm s i last n _ kv)))) (λ_=>TL0 i)
def Vno(s:C)(i:I):∀(n:J)(w v:I),i<=v->TL i (dstG_L0 s i n w v)
 |0,w,v,_=>λh=>by cases h
 |n+1,w,v,h=>by
  have hv:v<=Zp (escL s v) (v+1) v:=by cases escL s v <;>simp <;>omega
  exact Va5 (TL i) (λ_=>Va5 (TL i) (λ_=>Va5 (TL i) (λ_=>TL0 i) (λ_=>λ_=>h)) (λ_=>Va5 (TL i) (λ_=>TL0 i) (λ_=>Vno s i n _ _ kv))) (λ_=>Va5 (TL i) (λ_=>TL0 i) (λ_=>λ_=>h))
def dstG_lo(s:C)(i:I):TL i (dstG s i):=
 Va5 (TL i) (λ_=>TL0 i) (λ_=>Va5 (TL i) (λ_=>Vjh s i _ _ kv) (λ_=>Vno s i _ _ _ (Z2 _)))
def titM_lo(s:C)(i:I):TL i (titM s i):=
 Va5 (TL i) (λ_=>Vgm s i _ _ _ kv) (λ_=>Va5 (TL i) (λ_=>Vgm s i _ _ _ kv) (λ_=>TL0 i))
structure TlB (s:C) (i:I) (r:C×C×C×I×Yv):Prop where
 d:r.1.size<=s.size
 t:r.2.1.size<=s.size
 l:r.2.2.1.size<=60
 e:r.2.2.2.2=K->i<r.2.2.2.1/\r.2.2.2.1<=s.size+1
def TlB.no(s:C)(i:I):TlB s i (⟨#[]⟩,⟨#[]⟩,⟨#[]⟩,0,B):=⟨Zw _,Zw _,Zw _,λh=>by cases h⟩
def BrB(s:C)(i:I)(r:C×I×Yv):Prop:=r.1.size<=60/\(r.2.2=K->i<r.2.1/\r.2.1<=s.size+1)
def brkM_b(s:C)(i:I)(h0:0<=i):BrB s i (brkM s i):=by
 have hz:BrB s i (⟨#[]⟩,0,B):=⟨Zw _,λh=>by cases h⟩
 refine Va5 (BrB s i) (λ_=>hz) (λq=>Va5 (BrB s i) (λ_=>hz) (λ_=>⟨lblM_sz _,λ_=>?_⟩));have q:=Zk (Va8 q).1;have h1:=cutM_sz (Zd s (Yb (i+1)) (Zj s));have h2:=Vai s (Yb (i+1)) s.size
 show i<i+_+2/\i+_+2<=_;omega
def tlM_b(s:C)(i:I)(h0:0<=i):TlB s i (tlM s i):=by
 have hb:=brkM_b s i h0;have k1:=Vit s (i+1) kv;have d1:=dstG_bd s (skpL s (i+1)) kv;have d2:=dstG_lo s (skpL s (i+1));have k2:=Vit s (dstG s (skpL s (i+1))).2.1 d1.1;have d0:0<=(dstG s (skpL s (i+1))).2.1:=d1.1;have t1:=titM_bd s (skpL s (dstG s (skpL s (i+1))).2.1) kv;have t2:=titM_lo s (skpL s (dstG s (skpL s (i+1))).2.1);have k3:=Vit s (titM s (skpL s (dstG s (skpL s (i+1))).2.1)).2.1 t1.1;have hd:((dstG s (skpL s (i+1))).1.size:I)<=s.size:=d1.2.2;have ht:((titM s (skpL s (dstG s (skpL s (i+1))).2.1)).1.size:I)<=s.size:=t1.2.2;refine Va5 (TlB s i) (λ_=>TlB.no s i) (λ_=>Va5 (TlB s i) (λ_=>⟨Zw _,Zw _,hb.1,hb.2⟩) (λ_=>?_));refine Va5 (TlB s i) (λq=>⟨Zw _,Zw _,Zw _,λ_=>?_⟩) (λ_=>Va5 (TlB s i) (λ_=>TlB.no s i) (λqd=>?_))
 ·have q:=Zq (Va9 q).1
  show i<skpL s (i+1)+1/\skpL s (i+1)+1<=_;omega
 have qd:(dstG s (skpL s (i+1))).2.2=true:=by simpa using qd
 have d3:=d2 qd;refine Va5 (TlB s i) (λ_=>Va5 (TlB s i) (λ_=>TlB.no s i) (λqt=>Va5 (TlB s i) (λ_=>TlB.no s i) (λq=>⟨by show(dstG s (skpL s (i+1))).1.size<=_;omega,by show(titM s (skpL s (dstG s (skpL s (i+1))).2.1)).1.size<=_;omega,Zw _,λ_=>?_⟩))) (λ_=>Va5 (TlB s i) (λ_=>TlB.no s i) (λq=>⟨by show(dstG s (skpL s (i+1))).1.size<=_;omega,Zw _,Zw _,λ_=>?_⟩))
 ·have qt:(titM s (skpL s (dstG s (skpL s (i+1))).2.1)).2.2=true:=by simpa using qt
  have t3:=t2 qt;have q:=Zk (Va8 q).1
  show i<skpL s (titM s (skpL s (dstG s (skpL s (i+1))).2.1)).2.1+1/\skpL s (titM s (skpL s (dstG s (skpL s (i+1))).2.1)).2.1+1<=_;omega
 ·have q:=Zk (Va8 q).1
  show i<skpL s (dstG s (skpL s (i+1))).2.1+1/\skpL s (dstG s (skpL s (i+1))).2.1+1<=_;omega
def AtB(s:C)(a:Yy):Prop:=a.fID.size<=s.size/\(∀c∈a.fClasses,c.size<=s.size)/\∀ p∈a.fPairs,Vhi p<=2*s.size+3
def AtB0(s:C):AtB s aZ:=⟨Zw _,λc hc=>(Yg hc).elim,λc hc=>(Yg hc).elim⟩
def aclG_at{s:C}(a:Yy)(y:C)(h:AtB s a)(hy:y.size<=s.size):AtB s (aclG a y).2:=by
 refine Va5 (λr:I×Yy=>AtB s r.2) (λ_=>h) (λ_=>Va5 (λr:I×Yy=>AtB s r.2) (λ_=>h) (λq=>⟨h.1,λc hc=>?_,h.2.2⟩));rcases Z0.1 (show c∈a.fClasses++[y]from hc)with hc|hc
 ·exact h.2.1 c hc
 ·rw[Zv.1 hc];exact hy
def aprG_at{s:C}(a:Yy)(y v:C)(h:AtB s a)(hy:y.size<=s.size)(hv:v.size<=s.size):AtB s (aprG a y v).2:=by
 refine Va5 (λr:I×Yy=>AtB s r.2) (λ_=>h) (λ_=>Va5 (λr:I×Yy=>AtB s r.2) (λ_=>h) (λq=>⟨h.1,h.2.1,λc hc=>?_⟩));rcases Z0.1 (show c∈a.fPairs++[⟨y,v⟩]from hc)with hc|hc
 ·exact h.2.2 c hc
 ·rw[Zv.1 hc,wPair_eq];simp only[wStr];omega
def rdiG_at(s:C)(i:I)(a:Yy)(ha:AtB s a)(h0:0<=i)(h1:i<s.size):AtB s (rdiG s i a).2:=by
 have hn1:i<=nmI s i/\nmI s i<=s.size:=by unfold nmI;cases(Zp (D2 s i==35) K (D2 s i==46)) <;>simp <;>omega
 have hto:=Vke s (nmI s i) kv;have hto2:nmI s i<=toI s i/\toI s i<=s.size:=by unfold toI;omega
 have hna:(naI s i).size<=s.size:=Vdr ..;refine Va5 (λr:(I×I)×Yy=>AtB s r.2) (λ_=>ha) (λ_=>Va5 (λr:(I×I)×Yy=>AtB s r.2) (λ_=>Va5 (λr:(I×I)×Yy=>AtB s r.2) (λ_=>ha) (λ_=>⟨hna,ha.2.1,ha.2.2⟩)) (λ_=>Va5 (λr:(I×I)×Yy=>AtB s r.2) (λ_=>aclG_at a _ ha hna) (λ_=>?_)));refine Va5 (λr:(I×I)×Yy=>AtB s r.2) (λ_=>ha) (λq=>Va5 (λr:(I×I)×Yy=>AtB s r.2) (λ_=>ha) (λ_=>?_));have q1:=Zk (Va8 q).1;have hv:=rdvG_bd s (toI s i+1) kv kv;have hv2:((rdvG s (toI s i+1)).1.size:I)<=s.size:=hv.1.2.2;exact aprG_at a _ _ ha hna kv
def prsL_at(s:C):∀(n:J)(v:I)(a:Yy)(sep:Yv),0<=v->v<=s.size->Few2 a->AtB s a->AtB s (prsL s n v a sep).1
 |0,v,a,sep,_,_,_,_=>AtB0 s
 |n+1,v,a,sep,h0,h1,hf,ha=>by
  refine Va5 (λr:Yy×I×I=>AtB s r.1) (λ_=>AtB0 s) (λq=>Va5 (λr:Yy×I×I=>AtB s r.1) (λ_=>ha) (λ_=>Va5 (λr:Yy×I×I=>AtB s r.1) (λ_=>AtB0 s) (λ_=>Va5 (λr:Yy×I×I=>AtB s r.1) (λ_=>AtB0 s) (λ_=>?_))));have q:=Zk q;obtain⟨r1,r2,r3,r4⟩:=rdiG_bd s v a hf h0 kv;have hs:=Vc4 s (rdiG s v a).1.1 r2;exact prsL_at s n _ _ _ kv kv r1 (rdiG_at s v a ha h0 kv)
def prsA_at(s:C)(i:I):AtB s (prsA s i).1:=by
 refine Va5 (λr:Yy×I×I=>AtB s r.1) (λ_=>AtB0 s) (λq=>?_);obtain⟨q,_⟩:=Va8 q;obtain⟨q1,q2⟩:=Va8 q;have q1:=Zk q1;have q2:=Zk q2;have hs:=Vc4 s (i+1) kv;exact prsL_at s _ _ _ _ kv kv few0 (AtB0 s)
def wl_pairs{n:J}:∀ {l:F DPair},(∀x∈l,Vhi x<=n)->wl Vhi l<=l.length*n
 |[],_=>Zw _
 |x::l,h=>by
  have h1:=h x ku;have h2:=wl_pairs (n:=n) (l:=l) (λy hy=>h y (by simp[hy]));rw[wl,Xu,Ii];omega
def prsA_w(s:C)(i:I):Vfq (prsA s i).1<=100*s.size+200:=by
 have h1:=prsA_at s i;have h2:=(prsA_bd s i).1;generalize(prsA s i).1=a at h1 h2 ⊢;have h3:=wl_strs h1.2.1;have h4:=wl_pairs h1.2.2;have h5:a.fClasses.length*(s.size+1)<=32*(s.size+1):=Xp _ h2.1;have h6:a.fPairs.length*(2*s.size+3)<=32*(2*s.size+3):=Xp _ h2.2;have h7:=h1.1;rw[Vcv,wStr];omega
def eEMP:ByteArray:=⟨#[123,61,101,109,112,104,125]⟩
def eSTG:ByteArray:=⟨#[123,61,115,116,114,111,110,103,125]⟩
def eSTK:ByteArray:=⟨#[123,61,115,116,114,105,107,101,125]⟩
def ephR(t:C)(i:I):ByteArray:=Zd t (Yb i) (Zj t)
def ephI(t:C)(i:I):I×Int:=Zp (hpxB (ephR t i) eEMP) (6,i+7) (Zp (hpxB (ephR t i) eSTG) (7,i+9) (Zp (hpxB (ephR t i) eSTK) (8,i+9) (0,0)))
def ephS(t:C)(i:I)(k:I):St:=sx 29 [(0,jS t),(1,jI i),(9,.av (.agg [vI 6,vI 7,vI 8])),(10,jI k)] [] []
def eph_to(t:C)(i:I)(ht:t.size<=1073741824)(hi:0<=i/\i<=t.size):Va1 Zc 196 [jS t,jI i] [] [] (.av (.tup [vI (ephI t i).1,vI (ephI t i).2])) [] []:=by
 have hs:0<=i/\i<=((Zj t:J):I)/\((Zj t:J):I)<=((Zj t:J):I):=⟨hi.1,hi.2,Z2 _⟩
 refine BEG (λr:I×I=>.av (.tup [vI r.1,vI r.2])) (ephI t i) Tryz.func196 kx ?_;refine UF (ephI.eq_1 ..) ?_;refine gO i7 ?_;refine UN (ephS t i 0) 4 kx (WK kx) ?_;refine gO (m0 tt<|kp (show 0<=(0:I)/\(0:I)<(3:J)/\(0:I).toNat*1+1<=([vI 6,vI 7,vI 8]:F AV).length/\0<1 by decide)<|o9 ff<|z6 ff<|p7 hs<|n7 (Vcj (ephR t i) eEMP) z) ?_;refine CS (λh0=>?_) (λh0=>?_)
 ·refine gO (kb h0<|yq (wrE (i+7) (i+7) kv) j6) ?_;refine UO z kx ?_;exact EN kx
 ·refine gO (kb h0<|kn (wrE ((0:I)+1) 1 kv) m5) ?_;refine UA (ephS t i 1) kx (WK kx) ?_;refine gO (m0 tt<|kp (show 0<=(1:I)/\(1:I)<(3:J)/\(1:I).toNat*1+1<=([vI 6,vI 7,vI 8]:F AV).length/\0<1 by decide)<|o9 tt<|qq hs<|n7 (Vcj (ephR t i) eSTG) z) ?_;refine CS (λh1=>?_) (λh1=>?_)
  ·refine gO (kb h1<|yq (wrE (i+9) (i+9) kv) j6) ?_;refine UO z kx ?_;exact EN kx
  ·refine gO (kb h1<|kn (wrE ((1:I)+1) 2 kv) m5) ?_;refine UA (ephS t i 2) kx (WK kx) ?_;refine gO (m0 tt<|kp (show 0<=(2:I)/\(2:I)<(3:J)/\(2:I).toNat*1+1<=([vI 6,vI 7,vI 8]:F AV).length/\0<1 by decide)<|o9 ff<|z6 tt<|qq hs<|n7 (Vcj (ephR t i) eSTK) z) ?_;refine CS (λh2=>?_) (λh2=>?_)
   ·refine gO (kb h2<|yq (wrE (i+9) (i+9) kv) j6) ?_;refine UO z kx ?_;exact EN kx
   ·refine gO (kb h2<|kn (wrE ((2:I)+1) 3 kv) m5) ?_;refine UA (ephS t i 3) kx (WK kx) ?_;refine gO (m0 ff z) ?_;refine UO j6 kx ?_;exact EN kx
def bkB(s:C)(els:F Zu)(brs:F I)(refs:I):F (J×Jj):=[(1000,.cells 52 [jS s,.vs 1001 els.length,.vs 1003 brs.length,jI refs]),(1001,elB els),(1003,brB brs),glP]
def mkI(k:I)(t d ti:C)(a:Yy)(ks:F A):DInline:=Yc k t d ti a [] [] ks
abbrev BkR:=A×I×Yv
def ren_bk{s:C}{els:F Zu}{brs:F I}{refs:I}{b:Zu}{o:J}{i:I}{r:BkR}
  (h:Va1 Zc 145 [.ptr 1000 0,.av (Vrt b),.vw 1001 21 o (els.length-o),jI i] (bkB s els brs refs) [] (.av (.tup [Vaq r.1,vI r.2.1,vB r.2.2])) (kept (bkB s els brs refs)) []):BrkTo s els brs refs b o i r:=
 Vcz kx (Vac (Vah (1001,0) (2001,0) rfl) (Vac (Vah (1003,0) (2002,0) rfl) h))
def bkT(s:C)(refs:I)(b:Zu)(ks:F A)(i:I):BkR:=
 Zp (!b.fimage) (Zp (Zh (refs>b.freferences)) (zI,0,B) (mkI 9 (tlM s i).2.2.1 (tlM s i).1 (tlM s i).2.1 aZ ks,(tlM s i).2.2.2.1,K))
  (Zp ((prsA s (tlM s i).2.2.2.1).2.2==0) (mkI 10 (tlM s i).2.2.1 (tlM s i).1 (tlM s i).2.1 (prsA s (tlM s i).2.2.2.1).1 ks,(prsA s (tlM s i).2.2.2.1).2.1,K) (mkI 10 (tlM s i).2.2.1 (tlM s i).1 (tlM s i).2.1 aZ ks,(tlM s i).2.2.2.1,K))
def bkN(s:C)(b:Zu)(ks:F A)(i:I):BkR:=
 Zp b.fimage (zI,0,B) (Zp ((ephI s i).1 !=0) (mkI (ephI s i).1 e0 e0 e0 aZ ks,(ephI s i).2,Zh (ks.length>0))
  (Zp (Zp ((prsA s i).2.2 !=0) K (empA (prsA s i).1)) (zI,0,B) (mkI 11 e0 e0 e0 (prsA s i).1 ks,(prsA s i).2.1,K)))
def bkG(s:C)(refs:I)(b:Zu)(ks:F A)(i:I):BkR:=Zp (tlM s i).2.2.2.2 (bkT s refs b ks i) (bkN s b ks i)
def bkE(r:BkR):SV:=.av (.tup [Vaq r.1,vI r.2.1,vB r.2.2])
def bkG_to(s:C)(els:F Zu)(brs:F I)(refs:I)(b:Zu)(o:J)(i:I)(hs:s.size<=100000)(h0:0<=i)(h1:i<=s.size)
  (hn:Va1 Zc 57 [.vw 1001 21 o (els.length-o)] (nzB els) [] (jL ((nstG els o (els.length-o)).map Va2)) (kept (nzB els)) []):BrkTo s els brs refs b o i (bkG s refs b (nstG els o (els.length-o)) i):=by
 have hT:=tlM_to s i kv h0 kv;have hE:=eph_to s i kv ⟨h0,h1⟩;have hA:=prsA_to s i kv;have hM:=empA_to (prsA s i).1 (by have:=prsA_w s i;omega);have hA2:=prsA_to s (tlM s i).2.2.2.1 kv;refine ren_bk ?_;generalize nstG els o (els.length-o)=ks at hn ⊢;unfold bkG;cases ht:(tlM s i).2.2.2.2 with
 | true=>
  rw[ht]at hT;rw[Zf];unfold bkT;cases hi:b.fimage with
  | false=>
   have hb:(!b.fimage)=true:=by rw[hi];rfl
   simp only[Ja,Zf];cases hr:Zh (refs>b.freferences)with
   |true=>
    rw[Zf];refine BEGv (λ_:Ds=>bkE (zI,0,B)) (λ_=>bkB s els brs refs) (λ_=>[]) () Xh kx ?_;refine gO (tn 9<|kc hT<|tn 12<|kb (b:=K) (d:=K) rfl<|tn 9<|kb hb z) ?_;refine D0 lq kx kx kx ?_;refine gO (kb hr i7) ?_;exact ENk kx kx kx
   |false=>
    rw[Za];refine BEGv (λ_:Ds=>bkE (mkI 9 (tlM s i).2.2.1 (tlM s i).1 (tlM s i).2.1 aZ ks,(tlM s i).2.2.2.1,K)) (λ_=>bkB s els brs refs) (λ_=>[]) () Xh kx ?_;refine gO (tn 9<|kc hT<|tn 12<|kb (b:=K) (d:=K) rfl<|tn 9<|kb hb z) ?_;refine D0 lq kx kx kx ?_;refine gO (kb hr<|tn 1<|kg hn Zb lq) ?_;exact ENk kx kx kx
  | true=>
   have hb:(!b.fimage)=false:=by rw[hi];rfl
   simp only[Je,Za];cases hr:((prsA s (tlM s i).2.2.2.1).2.2==0)with
   |true=>
    rw[Zf];refine BEGv (λ_:Ds=>bkE (mkI 10 (tlM s i).2.2.1 (tlM s i).1 (tlM s i).2.1 (prsA s (tlM s i).2.2.2.1).1 ks,(prsA s (tlM s i).2.2.2.1).2.1,K)) (λ_=>bkB s els brs refs) (λ_=>[]) () Xh kx ?_;refine gO (tn 9<|kc hT<|tn 12<|kb (b:=K) (d:=K) rfl<|tn 9<|kb hb<|tn 3<|kg hn Zb<|tn 7<|kc hA2<|tn 10<|kb hr<|tn 10 z) ?_;exact ENk kx kx kx
   |false=>
    rw[Za];refine BEGv (λ_:Ds=>bkE (mkI 10 (tlM s i).2.2.1 (tlM s i).1 (tlM s i).2.1 aZ ks,(tlM s i).2.2.2.1,K)) (λ_=>bkB s els brs refs) (λ_=>[]) () Xh kx ?_;refine gO (tn 9<|kc hT<|tn 12<|kb (b:=K) (d:=K) rfl<|tn 9<|kb hb<|tn 3<|kg hn Zb<|tn 7<|kc hA2<|tn 10<|kb hr n8) ?_;exact ENk kx kx kx
 | false=>
  rw[ht]at hT;rw[Za];unfold bkN;cases hi:b.fimage with
  |true=>
   rw[Zf];refine BEGv (λ_:Ds=>bkE (zI,0,B)) (λ_=>bkB s els brs refs) (λ_=>[]) () Xh kx ?_;refine gO (tn 9<|kc hT<|tn 12<|kb (b:=B) (d:=B) rfl<|z6 hi i7) ?_;exact ENk kx kx kx
  | false=>
   rw[Za];cases hk:((ephI s i).1 !=0)with
   |true=>
    rw[Zf];have hl:Zh (ks.length>0)=Zh ((((ks.map Va2).length:J):I)>0):=by rw[Yw];exact Xr.2 kv
    rw[hl];refine BEGv (λ_:Ds=>bkE (mkI (ephI s i).1 e0 e0 e0 aZ ks,(ephI s i).2,Zh ((((ks.map Va2).length:J):I)>0))) (λ_=>bkB s els brs refs) (λ_=>[]) () Xh kx ?_;refine gO (tn 9<|kc hT<|tn 12<|kb (b:=B) (d:=B) rfl<|z6 hi<|vq hE<|xq hk<|tn 1<|kg hn Zb<|tn 11 z) ?_;exact ENk kx kx kx
   | false=>
    rw[Za];cases hm:Zp ((prsA s i).2.2 !=0) K (empA (prsA s i).1)with
    |true=>
     rw[Zf];refine BEGv (λ_:Ds=>bkE (zI,0,B)) (λ_=>bkB s els brs refs) (λ_=>[]) () Xh kx ?_;refine gO (tn 9<|kc hT<|tn 12<|kb (b:=B) (d:=B) rfl<|z6 hi<|vq hE<|xq hk<|vq hA<|tn 11<|kj ((prsA s i).2.2 !=0) z (n7 hM z)<|kb hm i7) ?_;exact ENk kx kx kx
    |false=>
     rw[Za];refine BEGv (λ_:Ds=>bkE (mkI 11 e0 e0 e0 (prsA s i).1 ks,(prsA s i).2.1,K)) (λ_=>bkB s els brs refs) (λ_=>[]) () Xh kx ?_;refine gO (tn 9<|kc hT<|tn 12<|kb (b:=B) (d:=B) rfl<|z6 hi<|vq hE<|xq hk<|vq hA<|tn 11<|kj ((prsA s i).2.2 !=0) z (n7 hM z)<|kb hm z) ?_;refine D0 (pq (cO hn)<|kp hn lq) kx kx kx ?_;exact ENk kx kx kx
structure RS where
 i:I
 els:F Zu
 brs:F I
 refs:I
def rfc(x:A)(r:I):Int:=Zp (refB x.fKind) (r+1) r
def noE(a:RS)(f:J)(bs:F I)(i:I):RS:=⟨i,a.els.set f (txtE (sgnI (el a.els f).fimage))++[inE (txI CLO)],bs,a.refs⟩
def yesE(a:RS)(f:J)(bs:F I)(r:BkR):RS:=⟨r.2.1,a.els.take f++[inE r.1],bs,rfc r.1 a.refs⟩
def bkO(s:C)(a:RS)(f:J)(i:I):BkR:=bkG s a.refs (el a.els f) (nstG a.els (f+1) (a.els.length-(f+1))) i
def clsG(s:C)(a:RS)(i:I):RS:=match a.brs.getLast? with
 |none=>⟨i,a.els++[inE (txI CLO)],[],a.refs⟩
 |some f=>Zp (bkO s a f.toNat i).2.2 (yesE a f.toNat a.brs.dropLast (bkO s a f.toNat i)) (noE a f.toNat a.brs.dropLast i)
def pieG(s:C)(a:RS)(p:Yu):RS:=Zp (p.fKind==1) ⟨p.fTo,a.els++[Vop p],a.brs,a.refs⟩ (Zp (p.fKind==2) ⟨p.fTo,a.els++[opnE p a.refs],a.brs++[((a.els.length:J):I)],a.refs⟩
 (Zp (p.fKind==3) (clsG s a p.fTo) ⟨p.fTo,a.els++[inE p.fInline],a.brs,rfc p.fInline a.refs⟩))
def pcQ(s:C)(i:I):DPiece:=pcH s (rnsM s).ka (rnsM s).la (rnsM s).kd (rnsM s).ld i
def wS(l:F Zu):Nat:=(l.map wE).sum
def Vmz(a b:F Zu):wS (a++b)=wS a+wS b:=by simp[wS]
def wS_one(e:Zu):wS [e]=wE e:=by simp[wS]
def wS_cons(e:Zu)(l:F Zu):wS (e::l)=wE e+wS l:=by simp[wS]
def wEs_S(els:F Zu)(o:J):∀ m,o+m<=els.length->wEs els o m=wS ((els.drop o).take m)
 |0,_=>rfl
 | m+1,h=>by
  have ih:=wEs_S els o m kv;have e:(els.drop o).take (m+1)=(els.drop o).take m++[el els (o+m)]:=by
   rw[Xb (by rw[Ib];omega)];congr 1;simp[el,show o+m<els.length by omega]
  rw[e,Vmz,wS_one, <-ih];rfl
def Vk1(els:F Zu)(f:J):wS els=wS (els.take f)+wS (els.drop f):=by rw[<-Vmz,List.take_append_drop]
def el_cons{els:F Zu}{f:J}(h:f<els.length):els.drop f=el els f::els.drop (f+1):=by
 rw[Qv h];simp[el,h]
def wS_set{els:F Zu}{f:J}(h:f<els.length)(E:Zu):wS (els.set f E)<=wS els+wE E:=by
 rw[Vk1 els f,el_cons h,wS_cons,List.set_eq_take_append_cons_drop,Zs h,Vmz,wS_cons];omega
structure EOk (s:C) (e:Zu):Prop where
 cl:ClnI e.fpiece.fInline
 kz:e.fkind≠0->e.fpiece.fInline.fKids=[]
 wt:Va4 e.fpiece.fInline<=1073741824
structure RdI (s:C) (n:J) (a:RS):Prop where
 i0:((n:J):I)<=a.i
 ib:a.i<=3*s.size+10
 ns:n<=s.size
 len:a.els.length<=n
 brs:∀ f∈a.brs,0<=f/\f<a.els.length
 asc:a.brs.Pairwise (· < ·)
 refs:0<=a.refs/\a.refs<=n
 els:∀ e∈a.els,EOk s e
 wt:((wS a.els:J):I)<=(wC s:I)*a.i
def asc_le{n:J}{l:F I}(ha:l.Pairwise (· < ·))(hb:∀ x∈l,0<=x/\x<n):l.length<=n:=asc_len ha (λx hx=>⟨x.toNat,by have:=hb x hx;omega,by have:=hb x hx;omega⟩)
def RdI.blen{s:C}{n:J}{a:RS}(h:RdI s n a):a.brs.length<=a.els.length:=asc_le h.asc h.brs
def RdI.tot{s:C}{n:J}{a:RS}(hs:s.size<=820)(h:RdI s n a):wS a.els<=1073000000:=by
 have h1:=h.wt;have h2:(wC s:I)*a.i<=(wC s:I)*(3*s.size+10):=Ym h.ib kv;have h3:(wC s:I)*(3*s.size+10)<=168000*(3*s.size+10):=Y0 (by unfold wC;omega) kv;omega
def RdI.nsg{s:C}{n:J}{a:RS}(hs:s.size<=820)(h:RdI s n a)(o m:J)(hm:o+m<=a.els.length):NsG a.els o m/\(∀k,k<m->Va4 (VE a.els o k)<=1073741824)/\wEs a.els o m<=wS (a.els.drop o):=by
 have hE:∀ k,k<m->EOk s (el a.els (o+k)):=λk hk=>h.els _ (Vbk kv)
 have hw:=wEs_S a.els o m hm;have h1:=Vk1 (a.els.drop o) m;have h2:=Vk1 a.els o;have h3:=h.tot hs;refine⟨⟨by have:=h.len;have:=h.ns;omega,λk hk=>(hE k hk).cl,λk hk=>(hE k hk).kz,kv⟩,λk hk=>(hE k hk).wt,kv⟩
def wE_in(x:A):wE (inE x)=Va4 x:=rfl
def wE_txt(t:C):wE (txtE t)=t.size+7:=wI0 1 t
def wE_cl:wE (inE (txI CLO))=8:=wI0 1 CLO
def EOk.leaf{s:C}{e:Zu}(hk:0<=e.fpiece.fInline.fKind)(hz:e.fpiece.fInline.fKids=[])(hw:Va4 e.fpiece.fInline<=1073741824):EOk s e:=
 ⟨Vad.2 ⟨kv,λy hy=>by rw[hz]at hy;cases hy⟩,λ_=>hz,hw⟩
def wC_i{s:C}{w:J}{i j:I}(h:(w:I)<=(wC s:I)*i)(d:J)(hd:(d:I)<=(wC s:I)*(j-i)):((w+d:J):I)<=(wC s:I)*j:=by
 have e:(wC s:I)*j=(wC s:I)*i+(wC s:I)*(j-i):=by rw[<-Int.mul_add];congr 1;omega
 omega
structure BkO (s:C) (i:I) (ks:F A) (r:BkR):Prop where
 kind:r.2.2=K->0<=r.1.fKind
 kids:r.2.2=K->r.1.fKids=ks
 wt:r.2.2=K->Va4 r.1<=wC s+wl Va4 ks
 e:r.2.2=K->i<r.2.1/\r.2.1<=s.size+1
def BkO.no(s:C)(i:I)(ks:F A)(x:A)(j:I):BkO s i ks (x,j,B):=⟨λh=>(by cases h),λh=>(by cases h),λh=>(by cases h),λh=>(by cases h)⟩
def mkI_w(k:I)(t d ti:C)(a:Yy)(ks:F A):Va4 (mkI k t d ti a ks)=t.size+d.size+ti.size+5+Vfq a+wl Va4 ks:=by
 unfold mkI;rw[Vao];simp only[wl,w1,wStr];omega
def BkO.yes{s:C}{i:I}{ks:F A}{k:I}{t d ti:C}{a:Yy}{j:I}{b:Yv}(hk:0<=k)(ht:t.size<=60)(hd:d.size<=s.size)(hti:ti.size<=s.size)(ha:Vfq a<=100*s.size+200)(hj:i<j/\j<=s.size+1):BkO s i ks (mkI k t d ti a ks,j,b):=
 ⟨λ_=>hk,λ_=>rfl,λ_=>by show Va4 (mkI k t d ti a ks)<=_;rw[mkI_w];unfold wC;omega,λ_=>hj⟩
def wAZ(s:C):Vfq aZ<=100*s.size+200:=by
 have:Vfq aZ=2:=rfl;omega
def ephI_b(s:C)(i:I)(h0:0<=i)(h1:i<=s.size)(hk:((ephI s i).1 !=0)=K):0<=(ephI s i).1/\i<(ephI s i).2/\(ephI s i).2<=s.size+1:=by
 have hz:∀ p,hpxB (ephR s i) p=K->(p.size:I)<=s.size-i:=λp hp=>by
  have h2:=hpxB_sz hp;unfold ephR at h2;rw[Vai]at h2;omega
 unfold ephI at hk ⊢;cases c1:hpxB (ephR s i) eEMP with
 |true=>
  have:((7:J):I)<=s.size-i:=hz _ c1;simp only[Zf];omega
 | false=>
  cases c2:hpxB (ephR s i) eSTG with
  |true=>
   have:((9:J):I)<=s.size-i:=hz _ c2;simp only[Zf,Za];omega
  | false=>
   cases c3:hpxB (ephR s i) eSTK with
   |true=>
    have:((9:J):I)<=s.size-i:=hz _ c3;simp only[Zf,Za];omega
   |false=>
    rw[c1,c2,c3]at hk;simp only[Za]at hk;exact Z1 hk gj
def bkG_o(s:C)(refs:I)(b:Zu)(ks:F A)(i:I)(h0:0<=i)(h1:i<=s.size):BkO s i ks (bkG s refs b ks i):=by
 have hT:=tlM_b s i h0;have hAw:=prsA_w s i;have hAb:=(prsA_bd s i).2;have hAw2:=prsA_w s (tlM s i).2.2.2.1;have hAb2:=(prsA_bd s (tlM s i).2.2.2.1).2;have e0z:e0.size<=s.size:=Zw _;have e60:e0.size<=60:=Zw _;refine Va5 (BkO s i ks) (λht=>?_) (λ_=>?_)
 ·have hte:=hT.e ht;refine Va5 (BkO s i ks) (λ_=>Va5 (BkO s i ks) (λ_=>BkO.no _ _ _ _ _) (λ_=>BkO.yes gj hT.l hT.d hT.t (wAZ s) hte)) (λ_=>Va5 (BkO s i ks) (λq=>BkO.yes gj hT.l hT.d hT.t hAw2 ?_) (λ_=>BkO.yes gj hT.l hT.d hT.t (wAZ s) hte));have:=hAb2 (eq_of_beq q);omega
 ·refine Va5 (BkO s i ks) (λ_=>BkO.no _ _ _ _ _) (λ_=>Va5 (BkO s i ks) (λq=>?_) (λ_=>Va5 (BkO s i ks) (λ_=>BkO.no _ _ _ _ _) (λq=>BkO.yes gj e60 e0z e0z hAw ?_)))
  ·have he:=ephI_b s i h0 h1 q;exact BkO.yes he.1 e60 e0z e0z (wAZ s) he.2
  ·have:=hAb (Va7 (Va8 q).1);omega
end
section
open Go Go.Eng
def Vcd:∀ l:F (J×Jj),Vbb (l++[glP])=Vbb l
 |[]=>rfl
 |(i,.vec _ _ _)::l=>Iz (List.cons i) (Vcd l)
 |(_,.cells _ _)::l=>Vcd l
 |(_,.map _ _)::l=>Vcd l
 |(_,.ge _)::l=>Vcd l
 |(_,.vck _ _ _)::l=>Vcd l
 |(_,.it _ _)::l=>Vcd l
 |(_,.gl _ _)::l=>Vcd l
 |(_,.mi _ _)::l=>Vcd l
def Vmj{f:FuncId}{args:F SV}{bx bx':F (J×Jj)}{res:SV}(h:Va1 Zc f args bx [] res bx' [])(hid:1999 ∉ bx'.map (·.1)):Va1 Zc f args (bx++[glP]) [] res (bx'++[glP]) []:=by
 refine⟨h.1,λG w vs hw hr hb hg=>(h.2 G w vs hw hr (λp hp=>hb p (I7 _ hp)) hg).mono ?_⟩;rintro e w' ⟨v,G',rfl,s1,s2,s3,s4,s5,s6,s7⟩;refine⟨v,G',rfl,s1,s2,s3,λp hp=>?_,λi hi=>s5 i (λq=>hi ?_),λi hi=>s6 i (by rwa[Vcd]at hi),s7⟩
 ·rcases Z0.1 hp with hp|hp
  ·exact s4 p hp
  ·have e:=Zv.1 hp;rw[e];exact(hb glP ku).persist s1.toExt (s5 1999 hid) (λκ hκ=>by simp[glP,ABox.svs]at hκ)
 ·rw[Qk];exact I7 _ q
def pceG_k3(s:C)(ka:F I)(la:F (F I))(kd:F I)(ld:F (F I))(i:I):(pceG s ka la kd ld i).1.fKind=3->(pceG s ka la kd ld i).1.fTo=i+1:=by
 let Q:Yu×Yv->Prop:=λr=>r.1.fKind=3->r.1.fTo=i+1
 have kP:∀ {b:Yv} {x y:Yu×Yv},Q x->Q y->Q (Zp b x y):=λ{b x y} h1 h2=>by cases b;exact h2;exact h1
 have n0:∀(r:Yu×Yv),r.1.fKind=0->Q r:=λr h q=>by rw[h]at q;exact Z1 q gj
 have hf:∀(x:A×I)(r:Yu×Yv),Q r->Q (fdR x r):=λx r h=>kP (n0 _ rfl) h
 have hN:Q (nxR s i):=n0 _ rfl;have hs:Q (spR s i):=kP (n0 _ rfl) (hf _ _ hN);have hr:∀ ka va kd vd,Q (runP s ka va kd vd i):=λka va kd vd=>kP (n0 _ rfl) (λq=>Z1 (show(1:I)=3 from q) gj)
 show Q (pceG s ka la kd ld i);refine kP (hf _ _ hN) (kP hs (kP hs (kP (hf _ _ hN) (kP (hf _ _ (hf _ _ hN)) (kP (hf _ _ (n0 _ rfl)) (kP (hf _ _ hN) (kP (hf _ _ hN) (kP (hf _ _ (hf _ _ (λq=>Z1 (show(2:I)=3 from q) gj))) (kP (kP (λq=>Z1 (show(2:I)=3 from q) gj) hN) (kP (λ_=>rfl) (kP (hr _ _ _ _) (kP (hr _ _ _ _) (kP (hr _ _ _ _) hN)))))))))))))
section
variable {s:C} {n:J} {a:RS}
def pcQ_ok(h:RdI s n a)(hlt:a.i<s.size):(a.i<(pcQ s a.i).fTo/\(pcQ s a.i).fTo<=3*s.size+10)/\PW s a.i (pcQ s a.i)/\((pcQ s a.i).fKind=3->(pcQ s a.i).fTo=a.i+1):=by
 have h0:0<=a.i:=by have:=h.i0;omega
 obtain⟨t1,t2⟩:=rnsM_ok s;have h1:=pceG_pd s (rnsM s).ka (rnsM s).la (rnsM s).kd (rnsM s).ld a.i h0 hlt t1 t2;have h2:=pceG_pw s (rnsM s).ka (rnsM s).la (rnsM s).kd (rnsM s).ld a.i h0 hlt t1 t2;exact⟨h1,⟨h2.kids,h2.kind,h2.wt,h2.num⟩,pceG_k3 s _ _ _ _ _⟩
def RdI.snoc(h:RdI s n a)(hlt:a.i<s.size){i:I}{e:Zu}{bs:F I}{r:I}(hi:a.i<i/\i<=3*s.size+10)(he:EOk s e)(hw:(wE e:I)<=(wC s:I)*(i-a.i))(hb:bs=a.brs\/bs=a.brs++[((a.els.length:J):I)])(hr:0<=r/\r<=a.refs+1):RdI s (n+1) ⟨i,a.els++[e],bs,r⟩:=by
 have hi0:=h.i0;have hns:=h.ns;have hlen:=h.len;have hrf:=h.refs;have hl:(a.els++[e]).length=a.els.length+1:=ku;refine⟨by show((n+1:J):I)<=i;omega,hi.2,kv,by show(a.els++[e]).length<=_;omega,λf hf=>?_,?_,⟨hr.1,by show r<=_;omega⟩,λx hx=>?_,?_⟩
 ·show 0<=f/\f<(((a.els++[e]).length:J):I)
  rw[hl];rcases hb with rfl|rfl
  ·have:=h.brs f hf;omega
  ·rcases Z0.1 hf with hf|hf
   ·have:=h.brs f hf;omega
   ·have:=Zv.1 hf;omega
 ·rcases hb with rfl|rfl
  ·exact h.asc
  ·show(a.brs++[_]).Pairwise _;rw[Qf];refine⟨h.asc,List.pairwise_singleton _ _,λx hx y hy=>?_⟩;have:=h.brs x hx;have:=Zv.1 hy;omega
 ·rcases Z0.1 hx with hx|hx
  ·exact h.els x hx
  ·rw[Zv.1 hx];exact he
 ·show((wS (a.els++[e]):J):I)<=_;rw[Vmz,wS_one];exact wC_i h.wt _ hw
def rfc_b(x:A){r:I}{n:J}(h:0<=r/\r<=n):0<=rfc x r/\rfc x r<=r+1:=by
 unfold rfc;cases refB x.fKind with
 |true=>simp only[Zf];omega
 |false=>simp only[Za];omega
def PW.w{p:Yu}(h:PW s a.i p)(hi:a.i<p.fTo/\p.fTo<=3*s.size+10)(h0:0<=a.i)(hs:s.size<=820):Va4 p.fInline<=1073741824:=by
 have h1:=h.wt;have h2:(wC s:I)*(p.fTo-a.i)<=(wC s:I)*(3*s.size+10):=Ym kv kv;have h3:(wC s:I)*(3*s.size+10)<=168000*(3*s.size+10):=Y0 (by unfold wC;omega) kv;omega
def Vlf{l:F I}{f:I}(h:l.getLast? =O f):l=l.dropLast++[f]:=by
 have hne:l≠[]:=by intro e;rw[e]at h;simp at h
 rw[List.getLast?_eq_some_getLast hne]at h;simp only[Xa]at h;rw[<-h,List.dropLast_concat_getLast]
def cls_ok(hs:s.size<=820)(h:RdI s n a)(hlt:a.i<s.size):RdI s (n+1) (clsG s a (a.i+1))/\Va1 Zc 91 [.ptr 1000 0,jI (a.i+1)] (rdG s a.els a.brs a.refs) [] (jI (clsG s a (a.i+1)).i) (rdG s (clsG s a (a.i+1)).els (clsG s a (a.i+1)).brs (clsG s a (a.i+1)).refs) []:=by
 have hi0:=h.i0;have hns:=h.ns;have hlen:=h.len;have hrf:=h.refs;have hbl:=h.blen;have hcl:EOk s (inE (txI CLO)):=EOk.leaf gj rfl (by rw[show Va4 (inE (txI CLO)).fpiece.fInline=8 from wE_cl];decide);have hwC:17<=wC s:=by unfold wC;omega
 have hwc1:=Vkh s (d:=a.i+1-a.i) kv;have hw8:(wE (inE (txI CLO)):I)<=(wC s:I)*(a.i+1-a.i):=by rw[wE_cl];omega
 cases hg:a.brs.getLast? with
 |none=>
  have hb:a.brs=[]:=Qt.1 hg;have hc:clsG s a (a.i+1)=⟨a.i+1,a.els++[inE (txI CLO)],[],a.refs⟩:=by unfold clsG;rw[hg]
  rw[hc,hb];refine⟨?_,cls0_to s a.els a.refs (a.i+1) kv kv⟩;exact h.snoc hlt kv hcl hw8 (.inl hb.symm) kv
 | some f=>
  have hbs:=Vlf hg;have hfm:f∈a.brs:=by rw[hbs];simp
  have hf:=h.brs f hfm;have hbm:∀ x∈a.brs.dropLast,0<=x/\x<f:=λx hx=>by
   have h1:=h.asc;rw[hbs,Qf]at h1;exact⟨(h.brs x (Yi _ hx)).1,h1.2.2 x hx f ku⟩
  have hba:a.brs.dropLast.Pairwise (· < ·):=h.asc.sublist (List.dropLast_sublist _);have hft:((f.toNat:J):I)=f:=kv;have hto:(f+1).toNat=f.toNat+1:=kv;obtain⟨N1,N2,N3⟩:=h.nsg hs (f.toNat+1) (a.els.length-(f.toNat+1)) kv;have hnest:=nesG_to a.els (f.toNat+1) (a.els.length-(f.toNat+1)) kv kv N1 N2;have hbk:=bkG_to s a.els a.brs.dropLast a.refs (el a.els f.toNat) (f.toNat+1) (a.i+1) kv kv kv hnest;have hO:=bkG_o s a.refs (el a.els f.toNat) (nstG a.els (f.toNat+1) (a.els.length-(f.toNat+1))) (a.i+1) kv kv;have hkw:=nstG_w N1;have hkc:=nstG_cl N1;have hbl2:a.brs.dropLast.length<=1073741824:=by simp;omega
  have hc:clsG s a (a.i+1)=Zp (bkO s a f.toNat (a.i+1)).2.2 (yesE a f.toNat a.brs.dropLast (bkO s a f.toNat (a.i+1))) (noE a f.toNat a.brs.dropLast (a.i+1)):=by unfold clsG;rw[hg]
  rw[hc];obtain⟨r,hr⟩:∃ r,r=bkO s a f.toNat (a.i+1):=⟨_,rfl⟩
  rw[<-hr];unfold bkO at hr;rw[<-hr]at hbk hO;have hsp:=Vk1 a.els f.toNat
  have hel:=el_cons (els:=a.els) (f:=f.toNat) kv;rw[hel,wS_cons]at hsp;obtain⟨x,j,ok⟩:=r;cases ok with
  | true=>
   rw[Zf];have hx1:=hO.kind rfl;have hx2:=hO.kids rfl;have hx3:=hO.wt rfl;have hx4:=hO.e rfl;simp only at hx1 hx2 hx3 hx4;have htot:=h.tot hs;have hrb:=rfc_b x hrf;have htk:(a.els.take f.toNat).length=f.toNat:=by rw[Xt];omega
   refine⟨⟨by show((n+1:J):I)<=j;omega,by show j<=_;omega,kv,by show(a.els.take f.toNat++[inE x]).length<=_;rw[Zz,htk];simp;omega,λy hy=>?_,hba,⟨hrb.1,by show rfc x a.refs<=_;omega⟩,λe he=>?_,?_⟩,?_⟩
   ·have:=hbm y hy
    show 0<=y/\y<(((a.els.take f.toNat++[inE x]).length:J):I)
    rw[Zz,htk];simp;omega
   ·rcases Z0.1 he with he|he
    ·exact h.els e (Qg he)
    ·rw[Zv.1 he];refine⟨Vad.2 ⟨by show x.fKind≠ -1;omega,λy hy=>?_⟩,λq=>Z1 rfl q,?_⟩
     ·have hy:y∈x.fKids:=hy;rw[hx2]at hy;exact hkc y hy
     ·show Va4 x<=_;have:wC s<=168000:=by unfold wC;omega
      omega
   ·show((wS (a.els.take f.toNat++[inE x]):J):I)<=(wC s:I)*j;rw[Vmz,wS_one,wE_in];have h5:=wC_i (j:=j) h.wt (wC s) (Vkh s kv);omega
   ·have:=cls2_to s a.els a.brs.dropLast f a.refs (a.i+1) x j (by rw[hto];exact hbk) kv kv hbl2 kv;rw[<-hbs]at this;exact this
  | false=>
   rw[Za];have hsg:(sgnI (el a.els f.toNat).fimage).size<=2:=by cases(el a.els f.toNat).fimage <;>decide
   have hws:=wS_set (els:=a.els) (f:=f.toNat) kv (txtE (sgnI (el a.els f.toNat).fimage));rw[wE_txt]at hws;have htx:EOk s (txtE (sgnI (el a.els f.toNat).fimage)):=EOk.leaf (by show(0:I)<=1;decide) rfl (by rw[show Va4 (txtE (sgnI (el a.els f.toNat).fimage)).fpiece.fInline=_ from wE_txt _];omega);have hsl:(a.els.set f.toNat (txtE (sgnI (el a.els f.toNat).fimage))).length=a.els.length:=ku;refine⟨⟨by show((n+1:J):I)<=a.i+1;omega,by show a.i+1<=_;omega,kv,by show(a.els.set _ _++[_]).length<=_;rw[Zz,hsl];simp;omega,λy hy=>?_,hba,⟨hrf.1,by show a.refs<=_;omega⟩,λe he=>?_,?_⟩,?_⟩
   ·have:=hbm y hy
    show 0<=y/\y<(((a.els.set _ _++[_]).length:J):I)
    rw[Zz,hsl];simp;omega
   ·rcases Z0.1 he with he|he
    ·rcases Yx he with he|he
     ·exact h.els e he
     ·rw[he];exact htx
    ·rw[Zv.1 he];exact hcl
   ·show((wS (a.els.set _ _++[_]):J):I)<=(wC s:I)*(a.i+1)
    rw[Vmz,wS_one,wE_cl];have h5:=wC_i (j:=a.i+1) h.wt 17 kv;omega
   ·have:=cls1_to s a.els a.brs.dropLast f a.refs (a.i+1) x j (by rw[hto];exact hbk) kv kv hbl2 kv;rw[<-hbs]at this;exact this
def rdB_ids(s:C)(els:F Zu)(brs:F I)(refs:I):1999 ∉ (rdB s els brs refs).map (·.1):=by show 1999 ∉ [1000,2001,2002];decide
def Vod(hs:s.size<=820)(h:RdI s n a)(hlt:a.i<s.size):RdI s (n+1) (pieG s a (pcQ s a.i))/\Va1 Zc 52 [.ptr 1000 0,.av (Vby (pcQ s a.i))] (rdG s a.els a.brs a.refs) [] (jI (pieG s a (pcQ s a.i)).i) (rdG s (pieG s a (pcQ s a.i)).els (pieG s a (pcQ s a.i)).brs (pieG s a (pcQ s a.i)).refs) []:=by
 have hi0:=h.i0;have hns:=h.ns;have hlen:=h.len;have hrf:=h.refs;have hbl:=h.blen;obtain⟨hp,hw,h3⟩:=pcQ_ok h hlt;obtain⟨p,hpq⟩:∃ p,p=pcQ s a.i:=⟨_,rfl⟩
 rw[<-hpq]at hp hw h3 ⊢;have hwi:=hw.w hp kv hs;have hwt:=hw.wt;have hnm:=hw.num;have hkd:=hw.kind;unfold pieG;cases k1:(p.fKind==1)with
 |true=>
  rw[Zf];refine⟨h.snoc hlt hp (EOk.leaf hw.kind hw.kids hwi) ?_ (.inl rfl) kv,Vmj (pRun_to s a.els a.brs a.refs p kv (eq_of_beq k1)) (rdB_ids _ _ _ _)⟩
  show((Zp (isrP p) (20*p.fN.toNat) (Va4 p.fInline):J):I)<=_;cases isrP p with
  |true=>simp only[Zf];have:=Vaw p.fInline;omega
  |false=>simp only[Za];exact hwt
 | false=>
  rw[Za];cases k2:(p.fKind==2)with
  |true=>
   rw[Zf];have h7:Va4 (Yc 0 ⟨#[]⟩ ⟨#[]⟩ ⟨#[]⟩ ⟨⟨#[]⟩,[],[]⟩ [] [] [])=7:=by rw[wIx];rfl
   have hpos:=Vaw p.fInline;have hwc1:=Vkh s (d:=p.fTo-a.i) kv;have hwC:17<=wC s:=by unfold wC;omega
   refine⟨h.snoc hlt hp (EOk.leaf (Z2 _) rfl (by show Va4 (Yc 0 ⟨#[]⟩ ⟨#[]⟩ ⟨#[]⟩ ⟨⟨#[]⟩,[],[]⟩ [] [] [])<=_;rw[h7];decide)) ?_ (.inr rfl) kv,Vmj (pOpn_to s a.els a.brs a.refs p kv kv (eq_of_beq k2)) (rdB_ids _ _ _ _)⟩
   show((Va4 (Yc 0 ⟨#[]⟩ ⟨#[]⟩ ⟨#[]⟩ ⟨⟨#[]⟩,[],[]⟩ [] [] []):J):I)<=_;rw[h7];omega
  | false=>
   rw[Za];cases k3:(p.fKind==3)with
   |true=>
    rw[Zf,h3 (eq_of_beq k3)];obtain⟨q1,q2⟩:=cls_ok hs h hlt;refine⟨q1,pCls_to s a.els _ a.brs _ a.refs _ p _ (eq_of_beq k3) ?_⟩;rw[h3 (eq_of_beq k3)];exact q2
   |false=>
    rw[Za];have hrb:=rfc_b p.fInline hrf;exact⟨h.snoc hlt hp (EOk.leaf hw.kind hw.kids hwi) hwt (.inl rfl) hrb,Vmj (pOth_to s a.els a.brs a.refs p kv kv (by simpa using k1) (by simpa using k2) (by simpa using k3)) (rdB_ids _ _ _ _)⟩
end
end
section
open Go Go.Eng
def skB(p:I)(x:A):Bool:=Zp ((x.fKind:I)==2) (Zp (p==2) K (p==3)) B
mutual
def ibI:A->A
 |⟨y0,y1,y2,y3,y4,y5,y6,y7⟩=>⟨y0,y1,y2,y3,y4,y5,y6,ibK 0 y7⟩
def ibK:I->F A->F A
 |_,[]=>[]
 |p,x::l=>Zp (skB p x) (ibK x.fKind l) (ibI x::ibK x.fKind l)
end
def Vlk(x:A):ibI x={x with fKids:=ibK 0 x.fKids}:=by cases x;rw[ibI]
def pkd(l:F A)(v:J):Int:=Zp (Nat.beq v 0) 0 (el l (v-1)).fKind
def pkd_s(l:F A)(v:J):pkd l (v+1)=(el l v).fKind:=rfl
def Vpc{l:F A}{v:J}(h:v<l.length):l.drop v=el l v::l.drop (v+1):=by
 rw[Qv h];simp[el,h]
def inb_to:∀(n:J)(l:F A),Yp l<n->wl Va4 l<=1073741824->Va1 Zc 56 [jL (l.map Va2)] [] [] (jL ((ibK 0 l).map Va2)) [] []:=by
 intro n
 induction n with
 |zero=>intro l h;omega
 | succ n ih=>
  intro l hsz hw;have hlq:=Va6 Va2 l;have hl:=Vb9 (w:=Va4) Vaw l;refine bG Tryz.func56 ?_;refine gO n8 ?_;refine TELL 3 3 42 10 kx ?_;refine LP (n:=l.length+1) (λN M S=>∃(v:J)(out:F A),v<=l.length/\out.length<=v/\out++ibK (pkd l v) (l.drop v)=ibK 0 l/\l.length-v<N/\M=()/\S=sx 53 [(0,jL (l.map Va2)),(3,.vs 3 out.length),(7,jI ((lenM Va2 l:J):I)),(8,jI ((v:J):I))] [(3,.vec 42 10 (out.map Va2))] []) kx ⟨0,[],kv,ku,rfl,kv,rfl,rfl⟩ (WK kx) ?_;rintro n0 M S ⟨v,out,hv,hol,hm,hF0,rfl,rfl⟩;obtain⟨n0,rfl⟩:∃ k,n0=k+1:=⟨n0-1,kv⟩
  by_cases h1:v<l.length
  ·have hd:Zh (((v:J):I)<((lenM Va2 l:J):I))=true:=dT kv;have he':=Vb0 l v h1;have w2:=wrE (((v:J):I)+1) ((v+1:J):I) kv;have hx:=Vbk (l:=l) (i:=v) h1;have hs1:=Iv hx;have hs2:Yp (el l v).fKids<Yp (el l v):=by
    cases(el l v);simp only[DInline.mk.sizeOf_spec];omega
   have hc:=ih (el l v).fKids kv (by have:=Vgr (w:=Va4) hx;have:=Vik (x:=el l v);omega);have hpos:∀ h:Z5/\Zp (((el l v).fKind:I)==2) (Zh (((v:J):I)>0)) B=K,0<v:=λh=>by
    have:=Zq (Va9 h.2).2;omega
   have w1:∀ h:Z5/\Zp (((el l v).fKind:I)==2) (Zh (((v:J):I)>0)) B=K,IntKind.i64.wrap (((v:J):I)-1)=((v-1:J):I):=λh=>wrE _ _ (by have:=hpos h;omega)
   have he1:∀ h:Z5/\Zp (((el l v).fKind:I)==2) (Zh (((v:J):I)>0)) B=K,_:=λh=>Vb0 l (v-1) kv
   have hbk:Zp (Zp (((el l v).fKind:I)==2) (Zh (((v:J):I)>0)) B) (Zp (((el l (v-1)).fKind:I)==2) K (((el l (v-1)).fKind:I)==3)) B=skB (pkd l v) (el l v):=by
    unfold skB pkd;cases((el l v).fKind:I)==2 with
    |false=>rfl
    | true=>
     cases v with
     |zero=>rfl
     |succ v=>
      rw[Zf,dT kv];rfl
   cases hsk:skB (pkd l v) (el l v)with
   |true=>
    rw[hsk]at hbk;refine gO (m0 hd<|tn 4<|ke he'<|j8 (((el l v).fKind:I)==2) j6 z<|m7 (Zp (((el l v).fKind:I)==2) (Zh (((v:J):I)>0)) B) (dq w1<|he he1<|j8 (((el l (v-1)).fKind:I)==2) z (dq (λh=>w1 h.1)<|he (λh=>he1 h.1) i6) z) z<|kb hbk<|kn w2 m5) ?_;refine AG (m:=n0) ⟨v+1,out,kv,kv,?_,kv,rfl,rfl⟩ (WK kx) kx (Zl _);rw[pkd_s, <-hm,Vpc h1,ibK,hsk];rfl
   |false=>
    rw[hsk]at hbk;have hap:out.length<=(out.map Va2).length/\Db 10 [Vaq (ibI (el l v))]/\(out.length+([Vaq (ibI (el l v))]:F AV).length)*192<=140737488355328:=⟨ku,uniI _,by simp;omega⟩
    have hun:Db 10 [Vaq (ibI (el l v))]:=uniI _;rw[Vlk]at hap hun;refine gO (m0 hd<|tn 4<|ke he'<|j8 (((el l v).fKind:I)==2) j6 z<|m7 (Zp (((el l v).fKind:I)==2) (Zh (((v:J):I)>0)) B) (dq w1<|he he1<|j8 (((el l (v-1)).fKind:I)==2) z (dq (λh=>w1 h.1)<|he (λh=>he1 h.1) i6) z) z<|kb hbk<|tn 2<|ke he'<|vq hc<|z8 hun<|kp hap<|m6 w2 m5) ?_;refine AG (m:=n0) (S'':=sx 53 [(0,jL (l.map Va2)),(3,.vs 3 (out.length+1)),(7,jI ((lenM Va2 l:J):I)),(8,jI ((v+1:J):I))] [(3,.vec 42 10 ((out.map Va2).take out.length++[Vaq {el l v with fKids:=ibK 0 (el l v).fKids}]))] []) ⟨v+1,out++[ibI (el l v)],kv,by simp;omega,?_,kv,rfl,?_⟩ (WK kx) kx (Zl _)
    ·rw[pkd_s, <-hm,Vpc h1,ibK,hsk];simp
    ·rw[Zz,Ye ku, <-Vlk,ap1_aInline];rfl
  ·have hd:Zh (((v:J):I)<((lenM Va2 l:J):I))=false:=dF kv;have hvl:v=l.length:=kv;subst hvl;rw[Xk (Zm _),ibK,J1]at hm;subst hm;refine gO (m0 hd z) ?_;refine Dr (kq 10 z) kx ?_;refine FRZ 3 3 (n:=(ibK 0 l).length) (l:=(ibK 0 l).map Va2) (l':=(ibK 0 l).map Va2) kx ku (by rw[Ye ku]) ?_;refine gO j6 ?_;exact eN
def isBk(x:A):Bool:=Zp ((x.fKind:I)==2) K ((x.fKind:I)==3)
def obT:J->F A->F A
 |0,l=>l
 |n+1,l=>Zp (Zh (0<l.length)) (Zp (isBk (el l (l.length-1))) (obT n l.dropLast) l) l
def obH(l:F A):F DInline:=Zp (Zp (Zh (0<l.length)) ((el l 0).fKind==2) B) (l.drop 1) l
def obM(l:F A):F DInline:=obT l.length (obH l)
def obH_len(l:F A):(obH l).length<=l.length:=by
 unfold obH;cases Zp (Zh (0<l.length)) ((el l 0).fKind==2) B with
 |true=>simp
 |false=>exact Zm _
def obT_stop{l:F A}(t:J)(h:Zp (Zh (0<l.length)) (isBk (el l (l.length-1))) B=B):obT t l=l:=by
 cases t with
 |zero=>rfl
 | succ t=>
  unfold obT;cases hd:Zh (0<l.length)with
  |false=>rfl
  |true=>
   rw[hd,Zf]at h;rw[Zf,h];rfl
def obT_step{l:F A}(t:J)(h:Zp (Zh (0<l.length)) (isBk (el l (l.length-1))) B=K):obT (t+1) l=obT t l.dropLast:=by
 obtain⟨h1,h2⟩:=Va9 h;rw[obT,h1,h2];rfl
def obS(q:F A):St:=sx 44 [(0,jL (q.map Va2))] [] []
def oub_to(l:F A)(hl:l.length<=1073741824):Va1 Zc 55 [jL (l.map Va2)] [] [] (jL ((obM l).map Va2)) [] []:=by
 have hlq:=Va6 Va2 l;have hb0:Zp (Zh (((lenM Va2 l:J):I)>0)) (((el l 0).fKind:I)==2) B=Zp (Zh (0<l.length)) ((el l 0).fKind==2) false:=by
  rw[hlq];congr 1;exact Xr.2 kv
 have e0:∀ h:Z5/\Zh (((lenM Va2 l:J):I)>0)=K,_:=λh=>Vb0 l 0 (by have:=Zq h.2;omega)
 refine bG Tryz.func55 ?_;cases hh:Zp (Zh (0<l.length)) ((el l 0).fKind==2) B
 case' true=>
  have hb:=hb0.trans hh;have hq:obH l=l.drop 1:=by unfold obH;rw[hh];rfl
  have hpos:0<l.length:=Zq (Va9 hh).1;have hcut:(0:I)<=1/\(1:I)<=((lenM Va2 l:J):I)/\((lenM Va2 l:J):I)<=((lenM Va2 l:J):I)/\Db 10 (l.map Va2):=⟨gj,kv,Z2 _,Vki l⟩
  have hcw:((l.map Va2).drop (1:I).toNat).take (((lenM Va2 l:J):I).toNat-(1:I).toNat)=(l.drop 1).map Va2:=by
   rw[List.map_drop,Ye]
   ·rfl
   ·rw[Ib,Yw,hlq];show l.length-1<=l.length-1;omega
  refine gO (jq (Zh (((lenM Va2 l:J):I)>0)) (tn 1<|he e0 i6) z<|kb hb<|p9 hcut<|kw hcw m5) ?_
 case' false=>
  have hb:=hb0.trans hh;have hq:obH l=l:=by unfold obH;rw[hh];rfl
  refine gO (jq (Zh (((lenM Va2 l:J):I)>0)) (tn 1<|he e0 i6) z<|kb hb z) ?_
 all_goals
  refine LP (n:=l.length+1) (λN M S=>∃(k:J)(q:F A),q.length<=k/\k<=l.length/\obT k q=obM l/\q.length<N/\M=()/\S=obS q) kx ⟨l.length,obH l,obH_len l,Zm _,rfl,by have:=obH_len l;omega,rfl,rfl⟩ (by unfold obS;rw[hq];exact WK kx) ?_;rintro n0 M S ⟨k,q,hqk,hkl,hm,hF0,rfl,rfl⟩;obtain⟨n0,rfl⟩:∃ k,n0=k+1:=⟨n0-1,kv⟩
  have hq2:=Va6 Va2 q;have w1:∀ h:Z5/\Zh (((lenM Va2 q:J):I)>0)=K,IntKind.i64.wrap (((lenM Va2 q:J):I)-1)=((q.length-1:J):I):=λh=>wrE _ _ (by have:=Zq h.2;omega)
  have e1:∀ h:Z5/\Zh (((lenM Va2 q:J):I)>0)=K,_:=λh=>Vb0 q (q.length-1) (by have:=Zq h.2;omega)
  have hc0:Zp (Zh (((lenM Va2 q:J):I)>0)) (Zp (((el q (q.length-1)).fKind:I)==2) K (((el q (q.length-1)).fKind:I)==3)) B=Zp (Zh (0<q.length)) (isBk (el q (q.length-1))) false:=by
   rw[hq2];congr 1;exact Xr.2 kv
  cases hc:Zp (Zh (0<q.length)) (isBk (el q (q.length-1))) B with
  |false=>
   have hc1:=hc0.trans hc;rw[obT_stop k hc]at hm;rw[<-hm];refine gO (j8 (Zh (((lenM Va2 q:J):I)>0)) (tn 3<|hn w1<|he e1<|j8 (((el q (q.length-1)).fKind:I)==2) z (tn 3<|hn (λh=>w1 h.1)<|he (λh=>e1 h.1) i6) z) z<|kb hc1 z) ?_;refine Dr j6 kx ?_;exact eN
  | true=>
   have hc1:=hc0.trans hc;have hpos2:0<q.length:=Zq (Va9 hc).1;obtain⟨k,rfl⟩:∃ i,k=i+1:=⟨k-1,kv⟩
   rw[obT_step k hc]at hm;have w2:=w1 ⟨Zb,dT kv⟩;have hct:(0:I)<=0/\(0:I)<=((q.length-1:J):I)/\((q.length-1:J):I)<=((lenM Va2 q:J):I)/\Db 10 (q.map Va2):=⟨gj,kv,kv,Vki q⟩
   have hcv:((q.map Va2).drop (0:I).toNat).take (((q.length-1:J):I).toNat-(0:I).toNat)=q.dropLast.map Va2:=by
    show((q.map Va2).drop 0).take (q.length-1-0)=_;rw[J8,Dm,List.dropLast_eq_take,Dd]
   refine gO (j8 (Zh (((lenM Va2 q:J):I)>0)) (tn 3<|hn w1<|he e1<|j8 (((el q (q.length-1)).fKind:I)==2) z (tn 3<|hn (λh=>w1 h.1)<|he (λh=>e1 h.1) i6) z) z<|kb hc1<|t8 w2<|kp hct<|kw hcv m5) ?_;exact AG (m:=n0) ⟨k,q.dropLast,by simp;omega,kv,hm,by simp;omega,rfl,rfl⟩ (WK kx) kx (Zl _)
mutual
def dpI:A->J
 |⟨_,_,_,_,_,_,_,y7⟩=>1+dpL y7
def dpL:F A->J
 |[]=>0
 |x::l=>max (dpI x) (dpL l)
end
def dpI_eq(x:A):dpI x=1+dpL x.fKids:=by cases x;rw[dpI]
def wI_kids(x:A):wl Va4 x.fKids+1<=Va4 x:=by rw[Vao];omega
def dpL_of{l:F A}(h:∀ x∈l,dpI x<=Va4 x):dpL l<=wl Va4 l:=by
 induction l with
 |nil=>exact Zm _
 |cons x l ih=>
  have h1:=h x ku;have h2:=ih (λy hy=>h y (by simp[hy]));rw[dpL,wl];omega
def dpI_w:∀ x,dpI x<=Va4 x:=Vbn λx ih=>by
 have:=dpL_of ih;have:=wI_kids x;rw[dpI_eq];omega
def dpL_w(l:F A):dpL l<=wl Va4 l:=dpL_of (λx _=>dpI_w x)
mutual
def szI:A->J
 |⟨_,_,_,_,_,_,_,y7⟩=>szL y7
def szL:F A->J
 |[]=>0
 |x::l=>1+szI x+szL l
end
def szI_eq(x:A):szI x=szL x.fKids:=by cases x;rw[szI]
def szL_of{l:F A}(h:∀ x∈l,szI x+1<=Va4 x):szL l<=wl Va4 l:=by
 induction l with
 |nil=>exact Zm _
 |cons x l ih=>
  have h1:=h x ku;have h2:=ih (λy hy=>h y (by simp[hy]));rw[szL,wl];omega
def szI_w:∀ x,szI x+1<=Va4 x:=Vbn λx ih=>by
 have:=szL_of ih;have:=wI_kids x;rw[szI_eq];omega
def szL_w(l:F A):szL l<=wl Va4 l:=szL_of (λx _=>szI_w x)
def kid_sz{l:F A}{v n:J}(h1:v<l.length)(hs:Yp l<n+1)(hw:wl Va4 l<=1073741824):Yp (el l v).fKids<n/\wl Va4 (el l v).fKids<=1073741824:=by
 have hx:=Vbk (l:=l) (i:=v) h1;have hs1:=Iv hx;have hs2:Yp (el l v).fKids<Yp (el l v):=by
  cases(el l v);simp only[DInline.mk.sizeOf_spec];omega
 have:=Vgr (w:=Va4) hx;have:=Vik (x:=el l v);exact⟨kv,kv⟩
def depth_to:∀(n:J)(l:F A),Yp l<n->wl Va4 l<=1073741824->Va1 Zc 25 [jL (l.map Va2)] [] [] (jI ((dpL l:J):I)) [] []:=by
 intro n
 induction n with
 |zero=>intro l h;omega
 |succ n ih=>
  intro l hsz hw;have hlq:=Va6 Va2 l;have hl:=Vb9 (w:=Va4) Vaw l;refine bG Tryz.func25 ?_;refine gO n8 ?_;refine LP (n:=l.length+1) (λN M S=>∃(v m:J),v<=l.length/\max m (dpL (l.drop v))=dpL l/\l.length-v<N/\M=()/\S=sx 21 [(0,jL (l.map Va2)),(3,jI ((m:J):I)),(6,jI ((lenM Va2 l:J):I)),(7,jI ((v:J):I))] [] []) kx ⟨0,0,kv,ku,kv,rfl,rfl⟩ (WK kx) ?_;rintro n0 M S ⟨v,m,hv,hm,hF0,rfl,rfl⟩;obtain⟨n0,rfl⟩:∃ k,n0=k+1:=⟨n0-1,kv⟩
  by_cases h1:v<l.length
  ·have hd:Zh (((v:J):I)<((lenM Va2 l:J):I))=true:=dT kv;obtain⟨k1,k2⟩:=kid_sz h1 hsz hw;have hc:=ih (el l v).fKids k1 k2;have hb:=dpL_w (el l v).fKids;rw[Vpc h1,dpL,dpI_eq]at hm;have w1:=wrE (1+((dpL (el l v).fKids:J):I)) ((1+dpL (el l v).fKids:J):I) kv;have w2:=wrE (((v:J):I)+1) ((v+1:J):I) kv;refine gO (m0 hd<|tn 5<|ke (Vb0 l v h1)<|j7 hc<|kn w1<|p8 w2 m5) ?_;refine AG (m:=n0) (S'':=sx 21 [(0,jL (l.map Va2)),(3,jI ((max m (1+dpL (el l v).fKids):J):I)),(6,jI ((lenM Va2 l:J):I)),(7,jI ((v+1:J):I))] [] []) ⟨v+1,max m (1+dpL (el l v).fKids),kv,kv,kv,rfl,rfl⟩ ?_ kx (Zl _);rw[show((max m (1+dpL (el l v).fKids):J):I)=max ((m:J):I) ((1+dpL (el l v).fKids:J):I) by omega];exact WK kx
  ·have hd:Zh (((v:J):I)<((lenM Va2 l:J):I))=false:=dF kv;rw[Xk kv,dpL,Nat.max_zero]at hm;subst hm;refine gO (m0 hd z) ?_;refine Dr j6 kx ?_;exact eN
def szK(l:F A):Nat:=(l.map szI).sum
def szK_cons(x:A)(l:F A):szK (x::l)=szI x+szK l:=by simp[szK]
def szL_K:∀ l:F A,szL l=l.length+szK l
 |[]=>rfl
 |x::l=>by rw[szL,szL_K l,szK_cons,Xu];omega
def szl_to:∀(n:J)(l:F A),Yp l<n->wl Va4 l<=1073741824->Va1 Zc 96 [jL (l.map Va2)] [] [] (jI ((szL l:J):I)) [] []:=by
 intro n
 induction n with
 |zero=>intro l h;omega
 |succ n ih=>
  intro l hsz hw;have hlq:=Va6 Va2 l;have hl:=Vb9 (w:=Va4) Vaw l;have hK:=szL_K l;have hW:=szL_w l;refine bG Tryz.func96 ?_;refine gO lq ?_;refine LP (n:=l.length+1) (λN M S=>∃(v m:J),v<=l.length/\m+szK (l.drop v)=szL l/\l.length-v<N/\M=()/\S=sx 22 [(0,jL (l.map Va2)),(3,jI ((m:J):I)),(8,jI ((lenM Va2 l:J):I)),(9,jI ((v:J):I))] [] []) kx ⟨0,lenM Va2 l,kv,by rw[hlq];exact hK.symm,kv,rfl,rfl⟩ (WK kx) ?_;rintro n0 M S ⟨v,m,hv,hm,hF0,rfl,rfl⟩;obtain⟨n0,rfl⟩:∃ k,n0=k+1:=⟨n0-1,kv⟩
  by_cases h1:v<l.length
  ·have hd:Zh (((v:J):I)<((lenM Va2 l:J):I))=true:=dT kv;obtain⟨k1,k2⟩:=kid_sz h1 hsz hw;have hc:=ih (el l v).fKids k1 k2;rw[Vpc h1,szK_cons,szI_eq]at hm;have w1:=wrE (((m:J):I)+((szL (el l v).fKids:J):I)) ((m+szL (el l v).fKids:J):I) kv;have w2:=wrE (((v:J):I)+1) ((v+1:J):I) kv;refine gO (m0 hd<|tn 5<|ke (Vb0 l v h1)<|j7 hc<|kn w1<|m6 w2 m5) ?_;exact AG (m:=n0) ⟨v+1,m+szL (el l v).fKids,kv,kv,kv,rfl,rfl⟩ (WK kx) kx (Zl _)
  ·have hd:Zh (((v:J):I)<((lenM Va2 l:J):I))=false:=dF kv;rw[Xk kv,show szK []=0 from rfl,Ij]at hm;subst hm;refine gO (m0 hd z) ?_;refine Dr j6 kx ?_;exact eN
def blk1(l:F A):AV:=.agg [vI 0,vI 0,vS ⟨#[]⟩,vS ⟨#[]⟩,vS ⟨#[]⟩,vS ⟨#[]⟩,vS ⟨#[]⟩,.sl [],.sl [],.sl (l.map Va2),.sl []]
def szb0_to:Va1 Zc 58 [jL []] [] [] (jI 0) [] []:=by
 refine bG Tryz.func58 ?_;refine gO lq ?_;refine uN (sx 29 [(3,jI 0),(8,jI 0),(9,jI 0)] [] []) 1 ?_;refine gO (m0 (b:=Zh ((0:I)<(0:I))) (d:=B) rfl z) ?_;refine uO j6 ?_;exact eN
def szb1_to(l:F A)(hw:wl Va4 l<=1073741823):Va1 Zc 58 [jL [blk1 l]] [] [] (jI ((1+szL l:J):I)) [] []:=by
 have hz:=szL_w l;have hc:=szl_to _ l (Zl _) kv;have hc0:=szb0_to;have w1:=wrE (((szL l:J):I)+0) ((szL l:J):I) kv;have w2:=wrE (1+((szL l:J):I)) ((1+szL l:J):I) kv;have he:0<=(0:I)/\([blk1 l]:F AV)[(0:I).toNat]? =O (blk1 l):=⟨gj,rfl⟩
 refine bG Tryz.func58 ?_;refine gO lq ?_;refine uN (sx 29 [(0,jL [blk1 l]),(3,jI 1),(8,jI 1),(9,jI 0)] [] []) 2 ?_;refine gO (m0 (b:=Zh ((0:I)<(1:I))) (d:=K) rfl j6) ?_;refine D0 (tn 3<|ko (eO he)<|kp he<|pq (cO hc)<|kp hc<|tn 3<|ko (eO he)<|kp he<|pq (cO hc0)<|kp hc0<|oq (nO w1)<|kp w1<|ko (nO w2)<|kp w2<|m6 (wrE ((0:I)+1) 1 kv) m5) kx kx kx ?_;refine uA (sx 29 [(0,jL [blk1 l]),(3,jI ((1+szL l:J):I)),(8,jI 1),(9,jI 1)] [] []) ?_;refine gO (m0 (b:=Zh ((1:I)<(1:I))) (d:=B) rfl z) ?_;refine uO j6 ?_;exact eN
def size_to(l:F A)(hw:wl Va4 l<=1073741823):Va1 Zc 24 [.av (.agg [.sl [],.sl [blk1 l]])] [] [] (jI ((1+szL l:J):I)) [] []:=by
 have hc:=szb1_to l hw;refine bG Tryz.func24 ?_;refine gO (cq hc m5) ?_;exact eN
def runG(s:C):J->RS->RS
 |0,a=>a
 |n+1,a=>Zp (Zh (a.i<s.size)) (runG s n (pieG s a (pcQ s a.i))) a
def fixE(els:F Zu)(k:I):F DElem:=els.set k.toNat (txtE (sgnI (el els k.toNat).fimage))
def fixG(els:F Zu)(brs:F I):F DElem:=brs.foldl fixE els
def endG(s:C):RS:=runG s s.size ⟨0,[],[],0⟩
def elsG(s:C):F DElem:=fixG (endG s).els (endG s).brs
def Vfy(s:C):F DInline:=obM (ibK 0 (nstG (elsG s) 0 (elsG s).length))
def RdI_0(s:C):RdI s 0 ⟨0,[],[],0⟩:=⟨Z2 _,by show(0:I)<=_;omega,Zw _,Zm _,λf hf=>(by cases hf),List.Pairwise.nil,⟨Z2 _,Z2 _⟩,λe he=>(by cases he),by show((0:J):I)<=_*0;omega⟩
def Voo{s:C}(hs:s.size<=820):∀(k n:J)(a:RS),RdI s n a->s.size<=n+k->∃ m,RdI s m (runG s k a)/\(s.size:I)<=(runG s k a).i
 |0,n,a,h,hk=>⟨n,h,by have:=h.i0;show _<=a.i;omega⟩
 |k+1,n,a,h,hk=>by
  rw[runG]
  by_cases hlt:a.i<s.size
  ·rw[Z8 hlt,Zf];exact Voo hs k (n+1) _ (Vod hs h hlt).1 kv
  ·rw[Zo hlt,Za];exact⟨n,h,kv⟩
structure FxI (s:C) (els E:F Zu) (v:J):Prop where
 len:E.length=els.length
 eok:∀ e∈E,EOk s e
 wt:wS E<=wS els+9*v
def FxI.step{s:C}{els E:F Zu}{v:J}(h:FxI s els E v){k:I}(hk:0<=k/\k<els.length):FxI s els (fixE E k) (v+1):=by
 have hl:=h.len;have hsg:(sgnI (el E k.toNat).fimage).size<=2:=by cases(el E k.toNat).fimage <;>decide
 have hws:=wS_set (els:=E) (f:=k.toNat) kv (txtE (sgnI (el E k.toNat).fimage));rw[wE_txt]at hws;refine⟨by unfold fixE;simpa using hl,λe he=>?_,by have:=h.wt;unfold fixE;omega⟩;rcases Yx he with he|he
 ·exact h.eok e he
 ·rw[he];exact EOk.leaf (by show(0:I)<=1;decide) rfl (by rw[show Va4 (txtE (sgnI (el E k.toNat).fimage)).fpiece.fInline=_ from wE_txt _];omega)
def Vrg(els:F Zu)(brs:F I)(v:J)(h:v<brs.length):fixG els (brs.take (v+1))=fixE (fixG els (brs.take v)) (el brs v):=by
 unfold fixG;rw[Xb h,List.foldl_append];simp[el,h]
def Vlr{s:C}{n:J}{a:RS}(h:RdI s n a):∀ v,v<=a.brs.length->FxI s a.els (fixG a.els (a.brs.take v)) v
 |0,_=>⟨rfl,h.els,Q8 _ _⟩
 |v+1,hv=>by
  rw[Vrg _ _ _ kv];exact(Vlr h v kv).step (h.brs _ (Vbk kv))
def FxI.nsg{s:C}{n v:J}{a:RS}{E:F Zu}(hs:s.size<=820)(h:RdI s n a)(hv:v<=a.brs.length)(hE:FxI s a.els E v):NsG E 0 E.length/\(∀k,k<E.length->Va4 (VE E 0 k)<=1073741824)/\wEs E 0 E.length<=1073000000:=by
 have h1:=h.wt;have h2:(wC s:I)*a.i<=(wC s:I)*(3*s.size+10):=Ym h.ib kv;have h3:(wC s:I)*(3*s.size+10)<=168000*(3*s.size+10):=Y0 (by unfold wC;omega) kv;have h4:=h.blen;have h5:=h.len;have h6:=h.ns;have h7:=hE.wt;have h8:=hE.len;have hw:=wEs_S E 0 E.length kv;rw[J8,Xy]at hw;have hO:∀ k,k<E.length->EOk s (el E (0+k)):=λk hk=>hE.eok _ (Vbk kv)
 exact⟨⟨kv,λk hk=>(hO k hk).cl,λk hk=>(hO k hk).kz,kv⟩,λk hk=>(hO k hk).wt,kv⟩
def rdR(s:C)(els:F Zu)(brs:F I)(refs m:I):F (J×Jj):=rdB s els brs refs++[glP,glM m]
def rdQ(s:C):ABox:=rdX s (rnsM s).ka (rnsM s).la (rnsM s).kd (rnsM s).ld
def rdP(s:C)(m:I):St:=sx 66 [(0,.ptr 1000 0),(3,.fn 89 [] [.ptr 3 0])] ((3,rdQ s)::rdR s [] [] 0 m) []
def rdL(s:C)(a:RS)(m:I):St:=sx 66 [(0,.ptr 1000 0),(3,.fn 89 [] [.ptr 3 0]),(4,.fn 52 [.ptr 1000 0] []),(5,jI a.i)] ((3,rdQ s)::rdR s a.els a.brs a.refs m) []
def rd1(s:C)(m:I)(hs:s.size<=1073741824):W Zc (.region 1 (Vaa 1 Qe) B) (λe S1=>e=.normal/\Q5 S1 (rdP s m)) (sx 66 [(0,.ptr 1000 0)] (rdR s [] [] 0 m) []):=by
 refine Vam ?_;rw[show(Vaa 1 Qe).toList=[regO 1 Qe 0,regO 1 Qe 1,regO 1 Qe 2,regO 1 Qe 3,regO 1 Qe 4,regO 1 Qe 5] by kernel_rfl];refine Vpp (S':=sx 66 [(0,.ptr 1000 0),(13,jS s)] (rdR s [] [] 0 m) []) 4 ?_ ?_
 ·exact Vmb (cs:=[Z5,Z5,Z5,Z5]) [] 66 [(0,.ptr 1000 0),(13,jS s)] (rdR s [] [] 0 m) [] ⟨Zb,Zb,Zb,Zb,Zb⟩ kx (WK kx)
 refine WO_new (nb:=[(3,rdQ s)]) (res:=.fn 89 [] [.ptr 3 0]) (f:=51) (x:=.func 51) (args:=#[.tmp 13]) (tys:=#[9]) (fs:=[]) (cs:=[]) 14 kx kx rfl (Vcz kx (pisG_to s _ _ _ _ (rnsG_to s hs))) kx kx ?_;refine Vas (.fn 89 [] [.ptr 3 0]) 3 kx kx ?_;exact Vbl rfl ⟨rfl,WK kx⟩
def nesR_to(els:F Zu)(he:els.length<=536870912)(hN:NsG els 0 els.length)(hw:∀ k,k<els.length->Va4 (VE els 0 k)<=1073741824):Va1 Zc 57 [.vs 2001 els.length] [(2001,elB els),glP] [] (jL ((nstG els 0 els.length).map Va2)) [(2001,.vck 107 21 (els.map Vb6)),glP] []:=by
 have h:=nesG_to els 0 els.length kv he hN hw;have h2:Va1 Zc 57 [.vw 2001 21 0 els.length] [(2001,elB els),glP] [] (jL ((nstG els 0 els.length).map Va2)) [(2001,.vck 107 21 (els.map Vb6)),glP] []:=Vcz kx (Vac (Vah (1001,0) (2001,0) rfl) h);refine CallTo_args h2 (λG w vs hv=>?_);obtain⟨u,us,h1,hr,h3⟩:=hv;refine⟨u,us,h1,?_,h3⟩;rcases hr with⟨h0,hu,_⟩|⟨blk,_,ho,hu,hc⟩
 ·exact⟨Y5,0,by rw[hu,h0],kv,.inl h0⟩
 ·exact⟨_,_,hu,hc,.inr ⟨blk,ho,ku⟩⟩
def ibK_w:(∀x:A,Va4 (ibI x)<=Va4 x):=Vbn λx ih=>by
 have h:∀(l:F A)(p:I),(∀y∈l,Va4 (ibI y)<=Va4 y)->wl Va4 (ibK p l)<=wl Va4 l:=by
  intro l
  induction l with
  |nil=>intro p _;rw[ibK];exact Zm _
  |cons y l ihl=>
   intro p hy;have h1:=hy y ku;have h2:=ihl y.fKind (λq hq=>hy q (by simp[hq]));rw[ibK];cases skB p y with
   |true=>simp only[Zf,wl];omega
   |false=>simp only[Za,wl];omega
 have h1:=h x.fKids 0 ih;rw[Vlk,Vao,Vao];simp only;omega
def ibL_w:∀(l:F A)(p:I),wl Va4 (ibK p l)<=wl Va4 l
 |[],p=>by rw[ibK];exact Zm _
 |y::l,p=>by
  have h1:=ibK_w y;have h2:=ibL_w l y.fKind;rw[ibK];cases skB p y with
  |true=>simp only[Zf,wl];omega
  |false=>simp only[Za,wl];omega
def fxS(s:C)(a:RS)(E:F Zu)(m:I)(v:J):St:=sx 66 [(0,.ptr 1000 0),(36,.vs 2002 a.brs.length),(37,jI ((a.brs.length:J):I)),(38,jI ((v:J):I))] (rdR s E a.brs a.refs m) []
def read_to(s:C)(m:I)(hs:s.size<=820):Va1 Zc 23 [.ptr 1000 0] (rdR s [] [] 0 m) [] (jL ((Vfy s).map Va2)) (rdR s (elsG s) (endG s).brs (endG s).refs m) []:=by
 refine bGs Tryz.func23 ?_;refine gO (tn 1<|kq 1 z) ?_;refine Dt (rdP s m) i7 kx ?_ kx ?_
 ·refine Vaj (S':=sx 66 [(0,.ptr 1000 0)] (rdR s [] [] 0 m) []) (WK kx) ?_;exact Val (c':=.region 1 (Vaa 1 Qe) B) kx (rd1 s m kv)
 refine LP (n:=s.size+1) (λN M S=>∃(n k:J)(a:RS),RdI s n a/\s.size<=n+k/\runG s k a=endG s/\s.size-n<N/\M=()/\S=rdL s a m) kx ⟨0,s.size,⟨0,[],[],0⟩,RdI_0 s,kv,rfl,kv,rfl,rfl⟩ (WK kx) ?_;rintro n0 M S ⟨n,k,a,hR,hnk,hm,hF0,rfl,rfl⟩;obtain⟨n0,rfl⟩:∃ k,n0=k+1:=⟨n0-1,kv⟩
 by_cases hlt:a.i<s.size
 ·have hd:Zh (a.i<((Zj s:J):I))=true:=dT hlt;have hi0:=hR.i0;obtain⟨t1,t2⟩:=rnsM_ok s;have hn:=pcs1G_to s (rnsM s).ka (rnsM s).la (rnsM s).kd (rnsM s).ld m a.i kv kv hlt t1 t2;have hn2:Va1 Zc 89 [jI a.i,.ptr 3 0] [(3,rdQ s),glM m] [] (.av (.tup [Vby (pcQ s a.i),vB (pceG s (rnsM s).ka (rnsM s).la (rnsM s).kd (rnsM s).ld a.i).2])) [(3,rdQ s),glM m] []:=Vcz kx (Vac (Vah (3,0) (1000,0) rfl) hn);obtain⟨q1,q2⟩:=Vod hs hR hlt;obtain⟨k,rfl⟩:∃ j,k=j+1:=⟨k-1,kv⟩
  rw[runG,dT hlt,Zf]at hm;have hns:=q1.ns;refine gO (xq hd<|o8 hn2 Zb<|tn 8<|kg q2 Zb m5) ?_;exact AG (m:=n0) ⟨n+1,k,pieG s a (pcQ s a.i),q1,kv,hm,kv,rfl,rfl⟩ (WK kx) kx (Zl _)
 ·have hd:Zh (a.i<((Zj s:J):I))=false:=dF hlt;have ha:a=endG s:=by
   rw[<-hm];cases k with
   |zero=>rfl
   |succ k=>rw[runG,dF hlt,Za]
  rw[<-ha];have hE:elsG s=fixG a.els a.brs:=by unfold elsG;rw[<-ha]
  refine gO (xq hd z) ?_;refine Dr iq kx ?_;refine LP (n:=a.brs.length+1) (λN M S=>∃(v:J),v<=a.brs.length/\a.brs.length-v<N/\M=()/\S=fxS s a (fixG a.els (a.brs.take v)) m v) kx ⟨0,kv,kv,rfl,rfl⟩ (WK kx) ?_;rintro n1 M S ⟨v,hv,hF1,rfl,rfl⟩;obtain⟨n1,rfl⟩:∃ k,n1=k+1:=⟨n1-1,kv⟩
  have hX:=Vlr hR v hv;have hlen:=hX.len;have hl0:=hR.len;have hns0:=hR.ns;have hbl0:=hR.blen
  by_cases h1:v<a.brs.length
  ·have hdv:Zh (((v:J):I)<((a.brs.length:J):I))=true:=dT kv;have hkb:=hR.brs _ (Vbk (l:=a.brs) (i:=v) h1);have hi1:0<=((v:J):I)/\((v:J):I)<((a.brs.length:J):I):=⟨kv,kv⟩
   have he1:=el_vI a.brs v h1;obtain⟨E,hEE⟩:∃ E,E=fixG a.els (a.brs.take v):=⟨_,rfl⟩
   obtain⟨f,hf⟩:∃ f,f=el a.brs v:=⟨_,rfl⟩
   have hsn:=Vrg a.els a.brs v h1;rw[<-hEE, <-hf]at hsn;rw[<-hEE]at hlen hX ⊢;rw[<-hf]at hkb he1;have hi2:0<=f/\f<((E.length:J):I):=⟨hkb.1,kv⟩
   have he2:0<=f/\(E.map Vb6)[f.toNat]? =O (Vb6 (el E f.toNat)):=Vi4 E f hi2.1 hi2.2;have hsg:=sgnI_to (el E f.toNat).fimage;have htx:=txtE_to (sgnI (el E f.toNat).fimage);have hst:=st_elem E f (txtE (sgnI (el E f.toNat).fimage)) hi2;have hwr:=wrE (((v:J):I)+1) ((v+1:J):I) kv;refine gO (m0 hdv<|kp hi1<|ke he1 m5) ?_;refine D0 (tn 10<|kp hi2<|bq he2<|ko (cO hsg)<|kp hsg<|oq (cO htx)<|kp htx<|p9 hi2<|kp hst<|kq 11 z)  kx kx kx ?_;refine BOX (e:=107) (sz:=21) 2001 kx (set_elem E f.toNat (txtE (sgnI (el E f.toNat).fimage)) kv) ?_;refine gO (kn hwr m5) ?_;refine AG (m:=n1) (S'':=fxS s a (fixE E f) m (v+1)) ⟨v+1,kv,kv,rfl,by rw[hsn]⟩ ?_ kx (Zl _);unfold fxS rdR rdB;rw[show(fixE E f).length=E.length by unfold fixE;simp];exact WK kx
  ·have hdv:Zh (((v:J):I)<((a.brs.length:J):I))=false:=dF kv;have hvb:v=a.brs.length:=kv;subst hvb;rw[Xy]at hX hlen ⊢;rw[hE];obtain⟨g1,g2,g3⟩:=hX.nsg hs hR (Zm _);have hrm:Vfy s=obM (ibK 0 (nstG (fixG a.els a.brs) 0 (fixG a.els a.brs).length)):=by unfold Vfy;rw[hE]
   rw[hrm];generalize fixG a.els a.brs=E at g1 g2 g3 hlen ⊢;have hc:=nesR_to E kv g1 g2;have hkw:=nstG_w g1;have hiw:=ibL_w (nstG E 0 E.length) 0;have hi:=inb_to _ (nstG E 0 E.length) (Zl _) kv;have hil:=Vb9 (w:=Va4) Vaw (ibK 0 (nstG E 0 E.length));have ho:=oub_to (ibK 0 (nstG E 0 E.length)) kv;refine gO (m0 hdv z) ?_;refine Dr (tn 4<|kg hc Zb<|kc hi<|kc ho m5) kx ?_;exact eNs
def WSP:ByteArray:=⟨#[32,10]⟩
def rd4(s:C)(els:F Zu)(brs:F I)(refs m:I):F (J×Jj):=[(4,rdC s els.length brs.length refs),(2001,elB els),(2002,brB brs),glP,glM m]
def ghost_weak{S S':St}(h:Q5 S S'):Ghost S S':=λG w a hr=>⟨G,Step.refl G w,h G w a hr,λ_ _=>rfl⟩
def rdZ:Value:=.agg #[.string ⟨#[]⟩,.slice Y5 0 0,.slice Y5 0 0,.int .i64 0]
def rdA(t:C):SV:=.ag [.av (vS t),.nil,.nil,.av (vI 0)]
def WO_rdr{ops:Xw Iu}{o1:Iu}{rest:F Iu}{Q:St->Prop}{S:St}{t m d1 bt:J}{s:C}
  (ho1:o1.op=.build t #[(0,.tmp m)]) (hd1:o1.dst=O d1) (hg1:o1.guard=Y5) (hi:Van Zc t=O (4,bt,O rdZ)) (hpl:Vfr Zc t=O [(0,1),(1,1),(2,1),(3,1)]) (hm:S.fr[m]? =O (.av (.val (.string s))))
  (h:WO Zc ops rest Q (S.put (O d1) (rdA s))):WO Zc ops (o1::rest) Q S:=by
 intro more Q' G w a hr hq;have em:a.eval (.tmp m)=.string s:=(hr.fr m _ hm).1;have x1:(execOp a.eval o1).run Zc w=.ok (.value (.agg #[.string s,.slice Y5 0 0,.slice Y5 0 0,.int .i64 0])) w:=by
  unfold Vfr at hpl
  split at hpl
  ·rename_i fs hu;have hmm:=Eng.run_places w fs.toList _ hpl;have hm2:(fs.mapM (λf=>do pure (f.offset, <-sizeOf f.type)):Sem (Xw (J×J))).run Zc w=.ok #[(0,1),(1,1),(2,1),(3,1)] w:=by
    rw[Qw];simp only[Sem.run_map,hmm,Qz]
   simp only[bind_pure_comp]at hm2;have hf:Da (λi:J=>(#[(0,1),(1,1),(2,1),(3,1)]:Xw (J×J))[i]?) #[.string ⟨#[]⟩,.slice Y5 0 0,.slice Y5 0 0,.int .i64 0] [(0,.string s)]=O #[.string s,.slice Y5 0 0,.slice Y5 0 0,.int .i64 0]:=rfl;simp[execOp,ho1,Du,Var hi,Va0 hu,hm2,em,rdZ];rfl
  ·simp at hpl
 simp only[Ju,wpList];rw[Zs (Vat hg1 a)];refine .inl ?_;unfold Ih;rw[x1,Xl,hd1];refine h more Q' G w _ (hr.put (O d1) ?_) hq;refine⟨_,rfl,⟨_,_,rfl,⟨rfl,rfl⟩,_,_,rfl,rfl,_,_,rfl,rfl,_,_,rfl,⟨rfl,rfl⟩,rfl⟩,?_⟩;intro x hx;simp only[Ys,Yg,Qb]at hx;rcases hx with rfl|rfl|rfl|rfl <;>rfl
def glL(m:I):F (J×Jj):=[glP,glM m]
def paP(t:C)(m:I):St:=sx 24 [(4,.ptr 4 0)] ((4,.cells 52 [jS t,.nil,.nil,jI 0])::glL m) []
def pa3(s t:C)(m:I)(hs:s.size<=262144)(ht:trmB s WSP=t):W Zc (.region 3 (Vaa 3 Qq) B) (λe S1=>e=.normal/\Q5 S1 (paP t m)) (sx 24 [(0,jS s)] (glL m) []):=by
 have htr:=Vin s WSP kv gj (A7.lit gj);rw[ht]at htr;refine Vam ?_;rw[show(Vaa 3 Qq).toList=[regO 3 Qq 0,regO 3 Qq 1,regO 3 Qq 2,regO 3 Qq 3,regO 3 Qq 4] by kernel_rfl];refine Vpp (S':=sx 24 [(10,jS t)] (glL m) []) 2 ?_ ?_
 ·exact Vmb (cs:=[Z5,_,Z5]) [cO htr] 24 [(10,jS t)] (glL m) [] ⟨Zb,htr,Zb,Zb⟩ kx (WK kx)
 refine WO_rdr (t:=52) (m:=10) (d1:=11) (bt:=72) (s:=t) kx kx kx kx kx kx ?_;exact Vmb (cs:=[Z5,Z5]) [] 24 [(4,.ptr 4 0)] ((4,.cells 52 [jS t,.nil,.nil,jI 0])::glL m) [] ⟨Zb,Zb,Zb⟩ kx ⟨rfl,WK kx⟩
def parT(t:C):F A×Int:=Zp (Zh (szL (Vfy t)>32768)) ([],3) (Zp (Zh (dpL (Vfy t)>16)) ([],11) (Vfy t,0))
def parM(s:C):F A×Int:=parT (trmB s WSP)
def Vkf:∀ l:F A,wl Va4 l.dropLast<=wl Va4 l
 |[]=>Zm _
 |[x]=>Zw _
 |x::y::l=>by
  have:=Vkf (y::l);rw[List.dropLast_cons_of_ne_nil ku,wl]
  show _<=Va4 x+wl Va4 (y::l);omega
def obT_w:∀(n:J)(l:F A),wl Va4 (obT n l)<=wl Va4 l
 |0,l=>Zm _
 |n+1,l=>by
  have h1:=obT_w n l.dropLast;have h2:=Vkf l;exact Va5 (λq:F A=>wl Va4 q<=wl Va4 l) (λ_=>Va5 (λq:F A=>wl Va4 q<=wl Va4 l) (λ_=>by omega) (λ_=>Zm _)) (λ_=>Zm _)
def obM_w(l:F A):wl Va4 (obM l)<=wl Va4 l:=by
 have h1:=obT_w l.length (obH l)
 have h2:wl Va4 (obH l)<=wl Va4 l:=Va5 (λq:F A=>wl Va4 q<=wl Va4 l) (λ_=>by
  cases l with
  |nil=>exact Zm _
  |cons x l=>exact Nat.le_add_left _ _) (λ_=>Zm _)
 exact Z6 h1 h2
def readM_w(s:C)(hs:s.size<=820):wl Va4 (Vfy s)<=1073000000:=by
 obtain⟨m,hR,_⟩:=Voo hs s.size 0 ⟨0,[],[],0⟩ (RdI_0 s) kv;have hX:=Vlr hR _ (Zm _);rw[Xy]at hX;obtain⟨g1,g2,g3⟩:=hX.nsg hs hR (Zm _);have h1:=nstG_w g1;have h2:=ibL_w (nstG (elsG s) 0 (elsG s).length) 0;have h3:=obM_w (ibK 0 (nstG (elsG s) 0 (elsG s).length));exact Z6 h3 (Z6 h2 (Z6 h1 g3))
def parR(r:F A×I):SV:=.av (.tup [.sl (r.1.map Va2),vI r.2])
def Vl5(s:C)(m:I)(hs:s.size<=820):Va1 Zc 11 [jS s] (glL m) [] (parR (parM s)) (glL m) []:=by
 have hd:Zh (((Zj s:J):I)>262144)=false:=Zo kv;obtain⟨t,ht⟩:∃ t,trmB s WSP=t:=⟨_,rfl⟩
 have htz:t.size<=820:=by rw[<-ht];exact Z6 (Veu _ _) hs
 unfold parM;rw[ht];have hR4:Va1 Zc 23 [.ptr 4 0] (rd4 t [] [] 0 m) [] (jL ((Vfy t).map Va2)) (rd4 t (elsG t) (endG t).brs (endG t).refs m) []:=Vcz kx (Vac (Vah (4,0) (1000,0) rfl) (read_to t m htz));have hw:=readM_w t htz;unfold parT;generalize Vfy t=l at hR4 hw ⊢;have hsz:=size_to l kv;have hszw:=szL_w l;have hdpw:=dpL_w l;have w1:=wrE (((1+szL l:J):I)-1) ((szL l:J):I) kv;have hdp:=depth_to _ l (Zl _) kv;have hu1:Db 11 [blk1 l]:=Vim rfl rfl;have c1:Zh (((szL l:J):I)>32768)=Zh (szL l>32768):=Xr.2 kv;have c2:Zh (((dpL l:J):I)>16)=Zh (dpL l>16):=Xr.2 kv;cases h32:Zh (szL l>32768)
 case' true=>
  have hd2:=c1.trans h32;rw[Zf];refine bGs Jy ?_
 case' false=>
  have hd2:=c1.trans h32;rw[Za];cases h16:Zh (dpL l>16)
  case' true=>
   have hd3:=c2.trans h16;rw[Zf];refine bGs Jy ?_
  case' false=>
   have hd3:=c2.trans h16;rw[Za];refine bGs Jy ?_
 all_goals
  refine gO (o9 hd<|kq 3 z) ?_;refine Dt (paP t m) (kq 4 z) kx ?_ kx ?_
  ·refine Vaj (S':=sx 24 [(0,jS s)] (glL m) []) (WK kx) ?_;exact Val (c':=.region 3 (Vaa 3 Qq) B) kx (pa3 s t m kv ht)
  refine TELLB 4 1 2001 107 21 kx ?_;refine TELLB 4 2 2002 3 1 kx ?_;refine Vpw (S':=sx 24 [(4,.ptr 4 0)] (rd4 t [] [] 0 m) []) (ghost_weak (WK kx)) ?_
 ·refine gO (kg hR4 Zb<|qq hu1<|n7 hsz<|kn w1<|m0 hd2<|n7 hdp<|m0 hd3 i6) ?_;exact eNs
 ·refine gO (kg hR4 Zb<|qq hu1<|n7 hsz<|kn w1<|m0 hd2<|n7 hdp<|m0 hd3 j6) ?_;exact eNs
 ·refine gO (kg hR4 Zb<|qq hu1<|n7 hsz<|kn w1<|m0 hd2 j6) ?_;exact eNs
end
section
open Go Go.Eng
def Sq(f:J->J)(i n:J):Prop:=
 (n=1/\f i<127/\(32<=f i\/f i=10))\/
 (n=2/\194<=f i/\f i<=223/\128<=f (i+1)/\f (i+1)<=191)\/
 (n=3/\224<=f i/\f i<=239/\128<=f (i+1)/\f (i+1)<=191/\(f i=224->160<=f (i+1))/\(f i=237->f (i+1)<=159)/\128<=f (i+2)/\f (i+2)<=191)\/
 (n=4/\240<=f i/\f i<=244/\128<=f (i+1)/\f (i+1)<=191/\(f i=240->144<=f (i+1))/\(f i=244->f (i+1)<=143)/\128<=f (i+2)/\f (i+2)<=191/\128<=f (i+3)/\f (i+3)<=191)
inductive VP (f:J->J):J->J->Prop
 |nil (i:J):VP f i i
 |cons {i n j:J}:Sq f i n->VP f (i+n) j->VP f i j
def Hd(f:J->J)(p:J):Prop:=f p<128\/192<=f p
section
variable {f g:J->J} {i j k n p:J}
def Sq.pos(h:Sq f i n):1<=n/\n<=4:=by unfold Sq at h;omega
def Sq.hd(h:Sq f i n):Hd f i:=by unfold Sq at h;unfold Hd;omega
def Sq.tl(h:Sq f i n)(h1:i<k)(h2:k<i+n):128<=f k/\f k<=191:=by
 have hn:=h.pos;have:k=i+1\/k=i+2\/k=i+3:=kv;unfold Sq at h;rcases this with rfl|rfl|rfl <;>omega
def Sq.one(h:Sq f i n)(ha:f i<128):n=1:=by unfold Sq at h;omega
def VP.le(h:VP f i j):i<=j:=by
 induction h with
 |nil=>exact Zm _
 |cons hs _ ih=>have:=hs.pos;omega
def VP.trans(h:VP f i j)(k1:VP f j k):VP f i k:=by
 induction h with
 |nil=>exact k1
 |cons hs _ ih=>exact .cons hs (ih k1)
def VP.cut(h:VP f i j)(h1:i<=p)(h2:p<=j)(h3:p<j->Hd f p):VP f i p/\VP f p j:=by
  induction h with
  | nil i => obtain rfl:p=i:=by omega
             exact⟨.nil _,.nil _⟩
  | cons hs ht ih=>
    rename_i i n j
    by_cases hp:p=i
    · subst hp;exact⟨.nil _,.cons hs ht⟩
    · have hl:=ht.le
      by_cases hq:p<i+n
      · have:=hs.tl kv hq;have h4:=h3 kv;unfold Hd at h4;omega
      · have:=ih kv h2 h3;exact⟨.cons hs this.1,this.2⟩
def VP.hd(h:VP f i j)(h1:i<j):Hd f i:=by
 cases h with
 |nil=>omega
 |cons hs _=>exact hs.hd
def VP.nx(h:VP f i j)(h1:i<j)(ha:f i<128):VP f (i+1) j/\(32<=f i\/f i=10):=by
 cases h with
 |nil=>omega
 |cons hs ht=>
  obtain rfl:=hs.one ha;unfold Sq at hs;exact⟨ht,kv⟩
def Sq.cg{i':J}(h:Sq f i n)(he:∀ k,k<n->g (i'+k)=f (i+k)):Sq g i' n:=by
 rcases h with⟨rfl,h⟩|⟨rfl,h⟩|⟨rfl,h⟩|⟨rfl,h⟩
 ·have e0:g i'=f i:=he 0 gj;exact .inl ⟨rfl,by rw[e0];exact h⟩
 ·have e0:g i'=f i:=he 0 gj;exact .inr (.inl ⟨rfl,by rw[e0,he 1 gj];exact h⟩)
 ·have e0:g i'=f i:=he 0 gj;exact .inr (.inr (.inl ⟨rfl,by rw[e0,he 1 gj,he 2 gj];exact h⟩))
 ·have e0:g i'=f i:=he 0 gj;exact .inr (.inr (.inr ⟨rfl,by rw[e0,he 1 gj,he 2 gj,he 3 gj];exact h⟩))
def VP.sh(h:VP f i j):∀ i',(∀k,k<j-i->g (i'+k)=f (i+k))->VP g i' (i'+(j-i)):=by
 induction h with
 |nil i=>intro i' _;rw[Jl];exact .nil _
 |cons hs ht ih=>
  rename_i i n j;intro i' he;have hl:=ht.le;have hp:=hs.pos;have e:i'+(j-i)=i'+n+(j-(i+n)):=kv;rw[e];refine .cons (hs.cg (λk hk=>he k kv)) (ih (i'+n) (λk hk=>?_));have:=he (n+k) kv;rw[show i'+n+k=i'+(n+k) by omega,this,Nat.add_assoc]
end
def CT(t:C):Prop:=VP (Y t) 0 t.size
def CL(t:C):Prop:=CT t/\∀ k,k<t.size->Y t k≠10
def Vd6(s:C){i j k:J}(h:k<j-i)(hj:j<=s.size):Y (Zd s i j) k=Y s (i+k):=by
 unfold Y;rw[Y4,Zn,Zn,Array.getElem?_extract,Zs (by show k<min j s.size-i;omega)]
def byt_ba{s:C}{k:J}(h:s.size<=k):Y s k=0:=by
 unfold Y;rw[Zn,Array.getElem?_eq_none h];rfl
def CT.ex{s:C}{i j:J}(h:VP (Y s) i j)(hj:j<=s.size):CT (Zd s i j):=by
 have:=VP.sh (g:=Y (Zd s i j)) h 0 (λk hk=>by rw[Y1];exact Vd6 s hk hj);unfold CT;rw[Ya,Y9 hj];rwa[Y1]at this
def CL.ex{s:C}{i j:J}(h:VP (Y s) i j)(hj:j<=s.size)(hn:∀ k,i<=k->k<j->Y s k≠10):CL (Zd s i j):=
 ⟨CT.ex h hj,λk hk=>by
  rw[Ya,Y9 hj]at hk
  rw[Vd6 s hk hj];exact hn _ kv kv⟩
def Vnt(a b:C)(k:J):Y (a++b) k=if k<a.size then Y a k else Y b (k-a.size):=by
 unfold Y;rw[Xx,Zn,Array.getElem?_append]
 show((if k<a.size then _ else _:Option Xg).getD 0).toNat=_
 split
 ·rw[Zn]
 ·rw[Zn];rfl
def CT.ap{a b:C}(h:CT a)(k:CT b):CT (a++b):=by
 have h1:=VP.sh (g:=Y (a++b)) h 0 (λk hk=>by rw[Y1,Vnt,Zs kv]);have h2:=VP.sh (g:=Y (a++b)) k a.size (λk hk=>by rw[Y1,Vnt,Zy kv];congr 1;omega);unfold CT;rw[Yo];rw[Dm,Y1]at h1;exact h1.trans h2
def CL.ap{a b:C}(h:CL a)(k:CL b):CL (a++b):=⟨h.1.ap k.1,λi hi=>by
 rw[Yo]at hi;rw[Vnt]
 split
 ·exact h.2 _ kv
 ·exact k.2 _ kv⟩
def CL.nil:CL ⟨#[]⟩:=⟨.nil 0,λk hk=>Z1 hk (Y8 _)⟩
def CL.as{t:C}(h:∀ k,k<t.size->32<=Y t k/\Y t k<127):CL t:=by
 refine⟨?_,λk hk=>by have:=h k hk;omega⟩;have key:∀ n i,t.size=i+n->VP (Y t) i t.size:=by
  intro n
  induction n with
  |zero=>intro i e;rw[e];exact .nil _
  |succ n ih=>
   intro i e;have:=h i kv;exact .cons (n:=1) (.inl ⟨rfl,kv,.inl this.1⟩) (ih (i+1) kv)
 exact key t.size 0 kv
end
section
open Go Go.Eng
def bOrN(a b:J)(ha:a<4611686018427387904)(hb:b<4611686018427387904):bOr .i64 (a:I) (b:I)=((a ||| b:J):I):=by
 have h:a ||| b<2 ^ 62:=Jm ha hb;unfold bOr;have e:(BitVec.ofInt IntKind.i64.bits (a:I) ||| BitVec.ofInt IntKind.i64.bits (b:I)).toNat=a ||| b:=by
  rw[BitVec.toNat_or];simp only[Ip,BitVec.toNat_ofInt];congr 1 <;>omega
 rw[e];exact wrE _ _ kv
def or_ge(a b:J):a<=a ||| b/\b<=a ||| b:=⟨Nat.left_le_or,Nat.right_le_or⟩
def nxG(c:I)(x:J):Int:=bOr .i64 (bShl .i64 c 6) (IntKind.i64.wrap (bAnd .u8 (x:I) 63))
def and63':∀ x:J,x<256->bAnd .u8 (x:I) 63=((x%64:J):I):=gj
def nxG_b(c x m:J)(hc:c<2 ^ m)(hm:m<=30)(hx:x<256):∃ r:J,nxG (c:I) x=(r:I)/\64*c<=r/\x%64<=r/\r<2 ^ (m+6):=by
 have hm2:2 ^ m<=2 ^ 30:=Nat.pow_le_pow_right gj hm;have hp:2 ^ (m+6)=2 ^ m*64:=Nat.pow_add 2 m 6;have h1:1<=2 ^ m:=Nat.one_le_two_pow;have e1:bShl .i64 (c:I) 6=((64*c:J):I):=by
  unfold bShl
  show IntKind.i64.wrap ((c:I)*64)=_;exact wrE _ _ kv
 have e2:IntKind.i64.wrap ((x%64:J):I)=((x%64:J):I):=wrE _ _ kv;have h:=or_ge (64*c) (x%64);refine⟨64*c ||| x%64,?_,h.1,h.2,Jm kv kv⟩;unfold nxG;rw[e1,and63' x hx,e2,bOrN _ _ kv kv]
def and31:∀ b:J,b<224->194<=b->2<=bAnd .i64 (b:I) 31/\bAnd .i64 (b:I) 31<32:=gj
def and15:∀ b:J,b<240->224<=b->0<=bAnd .i64 (b:I) 15/\bAnd .i64 (b:I) 15<16/\(b≠224->1<=bAnd .i64 (b:I) 15):=gj
def and7:∀ b:J,b<245->240<=b->0<=bAnd .i64 (b:I) 7/\bAnd .i64 (b:I) 7<8/\(b≠240->1<=bAnd .i64 (b:I) 7):=gj
def Vm4(s:C)(k:J):Y s k<256:=(s.data.getD k 0).toNat_lt
def wrb(s:C)(k:J):IntKind.i64.wrap ((Y s k:J):I)=((Y s k:J):I):=by
 have:=Vm4 s k;exact wrE _ _ kv
section
variable {s:C} {i n:J}
def nxL_s(k m v:J)(c:I)(hw:wdtI ((Y s i:J):I)=((n:J):I))(hv:v+1<n)(h1:128<=Y s (i+1+v))(h2:Y s (i+1+v)<=191):J2 s ((i:J):I) (m+1) c v=J2 s ((i:J):I) m (nxG c (Y s (i+1+v))) (v+1):=by
 rw[J2];simp only[show((((i:J):I)+1)+((v:J):I)).toNat=i+1+v by omega,Z9,hw];rw[Z8 (show((v:J):I)<((n:J):I)-1 by omega),Zf,Zo (show ¬((Y s (i+1+v):J):I)<128 by omega),Za,Zo (show ¬((Y s (i+1+v):J):I)>191 by omega),Za];rfl
def nxL_e(m v:J)(c:I)(hw:wdtI ((Y s i:J):I)=((n:J):I))(hv:v+1=n):J2 s ((i:J):I) (m+1) c v=(c,((n:J):I)):=by
 rw[J2];simp only[Z9,hw];rw[Zo (show ¬((v:J):I)<((n:J):I)-1 by omega),Za]
def unc_ge{c:I}(h:128<=c):uncB c=false:=by
 unfold uncB;rw[Zo kv,show(c==127)=B by simpa using(by omega:¬ c=127)];rfl
def nxt_sq(h:Sq (Y s) i n)(hi:i+n<=s.size):(nxtN s ((i:J):I)).2=((n:J):I)/\uncB (nxtN s ((i:J):I)).1=B/\(n=1->(nxtN s ((i:J):I)).1≠65533):=by
 have hp:=h.pos;have hw:wdtI ((Y s i:J):I)=((n:J):I):=by
  unfold wdtI;simp only[Z7];simp only[Qa,Zt,Zr];unfold Sq at h
  repeat' split
  all_goals omega
 have e1:(((i:J):I)+1).toNat=i+1:=kv;have d1:Zp (Zh (((i:J):I)<0)) K (Zh (((i:J):I)>=((Zj s:J):I)))=false:=by
  rw[Zo kv,Zo kv];rfl
 have d2:Zp (((n:J):I)==0) K (Zh ((((Zj s:J):I)-((i:J):I))<((n:J):I)))=false:=by
  rw[Zo kv,show(((n:J):I)==0)=B by simpa using(by omega:¬ ((n:J):I)=0)];rfl
 unfold nxtN;simp only[Z9,hw,e1];rw[d1,Za,d2,Za,wrb];have hs2:n≠1->(sndI ((Y s i:J):I)).1<=((Y s (i+1):J):I)/\((Y s (i+1):J):I)<=(sndI ((Y s i:J):I)).2:=λhn=>by
  unfold sndI;simp only[Qa,Xo];unfold Sq at h
  repeat' split
  all_goals (simp only;omega)
 by_cases hn:n=1
 ·subst hn;rw[show(((1:J):I)==1)=K from rfl,Zf];refine⟨rfl,?_,λ_=>?_⟩
  ·unfold Sq at h;unfold uncB;simp only[Z7];simp only[Qa];simp;omega
  ·unfold Sq at h;show((Y s i:J):I)≠65533;omega
 ·have h2:=hs2 hn;rw[show(((n:J):I)==1)=B by simpa using(by omega:¬ ((n:J):I)=1),Za,Zo kv,Za,Zo kv,Za];rw[show(4-Yb 0)+1=5 from rfl];have b1:=Vm4 s (i+1);have b2:=Vm4 s (i+2);have b3:=Vm4 s (i+3);have g0:Y s (i+1+0)=Y s (i+1):=rfl;have g1:Y s (i+1+1)=Y s (i+2):=rfl;have g2:Y s (i+1+2)=Y s (i+3):=rfl;rcases h with⟨rfl,_⟩|⟨rfl,h⟩|⟨rfl,h⟩|⟨rfl,h⟩
  ·exact Z1 rfl hn
  ·have hc:=and31 (Y s i) kv kv;obtain⟨c,hce⟩:∃ c:J,bAnd .i64 ((Y s i:J):I) 31=(c:I):=⟨(bAnd .i64 ((Y s i:J):I) 31).toNat,kv⟩
   obtain⟨r,r1,r2,r3,r4⟩:=nxG_b c (Y s (i+1)) 5 kv gj b1;rw[show bShl .i64 1 (7-((2:J):I))-1=31 from rfl,hce,nxL_s 0 4 0 _ hw kv kv kv,Ij,r1,nxL_e 3 1 _ hw rfl];exact⟨rfl,unc_ge (by show(128:I)<=(r:I);omega),λq=>by omega⟩
  ·have hc:=and15 (Y s i) kv kv;obtain⟨c,hce⟩:∃ c:J,bAnd .i64 ((Y s i:J):I) 15=(c:I):=⟨(bAnd .i64 ((Y s i:J):I) 15).toNat,kv⟩
   obtain⟨r,r1,r2,r3,r4⟩:=nxG_b c (Y s (i+1)) 5 kv gj b1;obtain⟨q,q1,q2,q3,q4⟩:=nxG_b r (Y s (i+1+1)) 11 r4 gj b2;rw[show bShl .i64 1 (7-((3:J):I))-1=15 from rfl,hce,nxL_s 0 4 0 _ hw kv kv kv,Ij,r1,nxL_s 0 3 1 _ hw kv kv kv,q1,nxL_e 2 2 _ hw rfl];exact⟨rfl,unc_ge (by show(128:I)<=(q:I);omega),λq=>by omega⟩
  ·have hc:=and7 (Y s i) kv kv;obtain⟨c,hce⟩:∃ c:J,bAnd .i64 ((Y s i:J):I) 7=(c:I):=⟨(bAnd .i64 ((Y s i:J):I) 7).toNat,kv⟩
   obtain⟨r,r1,r2,r3,r4⟩:=nxG_b c (Y s (i+1)) 5 kv gj b1;obtain⟨q,q1,q2,q3,q4⟩:=nxG_b r (Y s (i+1+1)) 11 r4 gj b2;obtain⟨p,p1,p2,p3,p4⟩:=nxG_b q (Y s (i+1+2)) 17 q4 gj b3;rw[show bShl .i64 1 (7-((4:J):I))-1=7 from rfl,hce,nxL_s 0 4 0 _ hw kv kv kv,Ij,r1,nxL_s 0 3 1 _ hw kv kv kv,q1,nxL_s 0 2 2 _ hw kv kv kv,p1,nxL_e 1 3 _ hw rfl];exact⟨rfl,unc_ge (by show(128:I)<=(p:I);omega),λq=>by omega⟩
end
def valG_L(s:C){v:J}:VP (Y s) v s.size->∀ N,s.size-v<N->Di s N ((v:J):I)=true:=by
 have key:∀ v j,VP (Y s) v j->j=s.size->∀ N,s.size-v<N->Di s N ((v:J):I)=true:=by
  intro v j h
  induction h with
  |nil i=>
   rintro rfl N hN;obtain⟨N,rfl⟩:∃ k,N=k+1:=⟨N-1,kv⟩
   rw[Di,Zo kv,Za]
  | cons hs ht ih=>
   rename_i i n j;rintro rfl N hN;obtain⟨N,rfl⟩:∃ k,N=k+1:=⟨N-1,kv⟩
   have hl:=ht.le;have hp:=hs.pos;obtain⟨e1,e2,e3⟩:=nxt_sq hs hl;have d:Zp ((nxtN s ((i:J):I)).1==65533) ((nxtN s ((i:J):I)).2==1) B=false:=by
    by_cases hn:n=1
    ·rw[show((nxtN s ((i:J):I)).1==65533)=B by simpa using e3 hn];rfl
    ·rw[e1,show(((n:J):I)==1)=B by simpa using(by omega:¬ ((n:J):I)=1)];cases((nxtN s ((i:J):I)).1==65533) <;>rfl
   rw[Di,Z8 kv,Zf,d,Za,e2,Za,e1];exact ih rfl N kv
 exact λh=>key _ _ h rfl
def valG_ct{t:C}(h:CT t):valG t=true:=valG_L t h _ ku
def push_ex(s b:C){v:J}(h:v<s.size):b.push (u8 ((Y s v:J):I))=b++Zd s v (v+1):=by
 have e:u8 ((Y s v:J):I)=s.data.getD v 0:=by
  show Zg (s.data.getD v 0).toNat=_;simp
 rw[e];apply Xf;have hv:v<s.data.size:=h;rw[Xx,Y4,ByteArray.data_push,Array.push_eq_append];congr 1;apply Array.ext
 ·simp;omega
 ·intro k h1 h2;obtain rfl:k=0:=by simp at h1;omega
  simp[Y6 hv]
def ex_cat(s:C){a b c:J}(h1:a<=b)(h2:b<=c)(h3:c<=s.size):Zd s a b++Zd s b c=Zd s a c:=by
 apply Xf;rw[Xx,Y4,Y4,Y4,Array.extract_append_extract,Y9 h1,Nat.max_eq_right h2]
def une_hi(s:C):∀(k N v:J)(b:C),v+k<=s.size->(∀j,v<=j->j<v+k->128<=Y s j)->Jb s (N+k) ((v:J):I) b=Jb s N ((v+k:J):I) (b++Zd s v (v+k))
 |0,N,v,b,_,_=>by
  have:Zd s v (v+0)=⟨#[]⟩:=by apply Xf;simp
  rw[this];congr 1;apply Xf;simp
 | k+1,N,v,b,h,hj=>by
  have e:escL s ((v:J):I)=false:=by
   have:=hj v (Zm _) kv;unfold escL;rw[Z9,show(((Y s v:J):I)==92)=B by simpa using(by omega:¬ ((Y s v:J):I)=92)];rfl
  have ih:=une_hi s k N (v+1) (b++Zd s v (v+1)) kv (λj h1 h2=>hj j kv kv);rw[show N+(k+1)=N+k+1 by omega,Jb,Z8 kv,Zf,e,Za,Z9,push_ex s b kv,show((v:J):I)+1=((v+1:J):I)from rfl,ih,Yf,ex_cat s kv kv kv,show v+1+k=v+(k+1) by omega]
def CL.p1{s b:C}{v:J}(hb:CL b)(h:v<s.size)(hv:VP (Y s) v (v+1))(hn:Y s v≠10):CL (b.push (u8 ((Y s v:J):I))):=by
 rw[push_ex s b h];exact hb.ap (CL.ex hv kv (λk h1 h2=>(show k=v by omega) ▸ hn))
def VP.sp{f:J->J}{i j:J}(h:VP f i j)(hlt:i<j):∃ n,Sq f i n/\i+n<=j/\VP f i (i+n)/\VP f (i+n) j:=by
 cases h with
 |nil=>omega
 |cons hs ht=>exact⟨_,hs,ht.le,.cons hs (.nil _),ht⟩
def une_cl(s:C)(hn:∀ k,k<s.size->Y s k≠10):∀(m N v:J)(b:C),s.size-v<=m->s.size-v<N->VP (Y s) v s.size->CL b->CL (Jb s N ((v:J):I) b)
 |m,0,v,b,_,h,_,_=>by omega
 |0,N+1,v,b,h,_,hv,hb=>by
  rw[Jb,Zo kv,Za];exact hb
 | m+1,N+1,v,b,h,h2,hv,hb=>by
  by_cases hlt:v<s.size
  ·obtain⟨n,hs,hl,hv1,hv2⟩:=hv.sp hlt;have hp:=hs.pos
   by_cases hn1:n=1
   ·subst hn1;rw[Jb,Z8 kv,Zf];cases he:escL s ((v:J):I)with
    | true=>
     have he2:v+1<s.size/\Y s (v+1)<128:=by
      unfold escL at he;simp only[Z7,Zt,Zr]at he;rw[show(((v:J):I)+1).toNat=v+1 by omega]at he;omega
     have h3:=hv2.nx he2.1 he2.2;have h4:=(hv2.cut (p:=v+1+1) kv kv (λq=>h3.1.hd q)).1;rw[Zf,show((v:J):I)+1=((v+1:J):I)from rfl,Z9,show((v+1:J):I)+1=((v+2:J):I)from rfl];exact une_cl s hn m N (v+2) _ kv kv h3.1 (hb.p1 he2.1 h4 (hn _ he2.1))
    |false=>
     rw[Za,Z9,show((v:J):I)+1=((v+1:J):I)from rfl];exact une_cl s hn m N (v+1) _ kv kv hv2 (hb.p1 hlt hv1 (hn _ hlt))
   ·have hb1:128<=Y s v:=by unfold Sq at hs;omega
    obtain⟨N',hN⟩:∃ N',N+1=N'+n:=⟨N+1-n,kv⟩
    rw[hN,une_hi s n N' v b hl (λj h1 h2=>by
     by_cases hj:j=v
     ·rw[hj];exact hb1
     ·exact(hs.tl kv h2).1)]
    exact une_cl s hn m N' (v+n) _ kv kv hv2 (hb.ap (CL.ex hv1 hl (λk h1 h2=>hn _ kv)))
  ·rw[Jb,Zo kv,Za];exact hb
def uneS_cl{s:C}(h:CL s):CL (uneS s):=une_cl s h.2 s.size _ 0 ⟨#[]⟩ (Zm _) ku h.1 CL.nil
end
section
open Go Go.Eng
def Bn(s:C)(j:I):Prop:=0<=j/\j<=s.size/\VP (Y s) j.toNat s.size
section
variable {s:C} {i v:I}
def Bn.to(h:Bn s i)(h1:i<=v)(h2:v<=s.size)(h3:v<s.size->Hd (Y s) v.toNat):VP (Y s) i.toNat v.toNat/\Bn s v:=by
 obtain⟨a,b,c⟩:=h;have:=c.cut (p:=v.toNat) kv kv (λq=>h3 kv);exact⟨this.1,kv,h2,this.2⟩
def Bn.nx(h:Bn s i)(h1:i<s.size)(h2:Y s i.toNat<128):Bn s (i+1)/\(32<=Y s i.toNat\/Y s i.toNat=10):=by
 obtain⟨a,b,c⟩:=h;have:=c.nx kv h2;refine⟨⟨kv,kv,?_⟩,this.2⟩;rw[show(i+1).toNat=i.toNat+1 by omega];exact this.1
def Bn.hop(h:Bn s i)(h1:i<=v)(h2:v<s.size)(h3:Y s v.toNat<128):Bn s (v+1):=((h.to h1 kv (λ_=>.inl h3)).2.nx h2 h3).1
def Bn.cl(h:Bn s i)(h1:i<=v)(h2:v<=s.size)(h3:v<s.size->Y s v.toNat<128)(hn:∀ k:J,i<=k->(k:I)<v->Y s k≠10):CL (Zd s i.toNat v.toNat):=by
 have h0:=h.1;exact CL.ex (h.to h1 h2 (λq=>.inl (h3 q))).1 kv (λk a b=>hn k kv kv)
def scan_q(L:J->I->I)(Q:J->Prop)(R:I->Prop)(hst:∀(n:J)(v:I),0<=v->v<=s.size->(L (n+1) v=v/\R v)\/(v<s.size/\Q v.toNat/\L (n+1) v=L n (v+1))):∀(n:J)(v:I),0<=v->v<=s.size->s.size-v.toNat<n->v<=L n v/\L n v<=s.size/\(∀k:J,v<=k->(k:I)<L n v->Q k)/\R (L n v)
 |0,v,h0,h1,h2=>by omega
 | n+1,v,h0,h1,h2=>by
  rcases hst n v h0 h1 with⟨e,hr⟩|⟨q1,q2,e⟩
  ·rw[e];exact⟨Z2 _,h1,λk a b=>by omega,hr⟩
  ·obtain⟨a,b,c,d⟩:=scan_q L Q R hst n (v+1) kv kv kv;rw[e];refine⟨kv,b,λk k1 k2=>?_,d⟩
   by_cases hk:(k:I)=v
   ·rw[show k=v.toNat by omega];exact q2
   ·exact c k kv k2
def Bn.scan{L:J->I->I}{Q:J->Prop}{R:I->Prop}(h:Bn s i)(hq:∀ k,Q k->Y s k<128)(n:J)(hn:s.size-i.toNat<n)(hst:∀(n:J)(v:I),0<=v->v<=s.size->(L (n+1) v=v/\R v)\/(v<s.size/\Q v.toNat/\L (n+1) v=L n (v+1))):i<=L n i/\Bn s (L n i)/\(∀k:J,i<=k->(k:I)<L n i->Q k)/\R (L n i):=by
 obtain⟨a,b,c,d⟩:=scan_q L Q R hst n i h.1 h.2.1 hn;refine⟨a,?_,c,d⟩
 by_cases he:L n i=i
 ·rw[he];exact h
 ·have h0:=h.1;have h1:=hq _ (c (L n i-1).toNat kv kv);have:=h.hop (v:=L n i-1) kv kv h1;rwa[show L n i-1+1=L n i by omega]at this
def Vkw(h:Bn s i):i<=skpS s i/\Bn s (skpS s i)/\(∀k:J,i<=k->(k:I)<skpS s i->Y s k=32)/\(skpS s i<s.size->Y s (skpS s i).toNat≠32):=by
 refine h.scan (L:=skpS_L0 s i) (Q:=λk=>Y s k=32) (R:=λv=>v<s.size->Y s v.toNat≠32) (λk q=>by omega) (s.size-i.toNat+1) kv (λn v h0 h1=>?_);rw[skpS_L0];simp only[Z7];cases hc:Zh (v<((Zj s:J):I))&&(((Y s v.toNat:J):I)==32)with
 |true=>
  simp only[Zt,Zr,Xo]at hc;exact .inr ⟨hc.1,kv,rfl⟩
 |false=>exact .inl ⟨rfl,λq=>by rw[Z8 q]at hc;simp at hc;omega⟩
def skpL_bn(h:Bn s i):i<=skpL s i/\Bn s (skpL s i):=by
 have:=h.scan (L:=skpL_L0 s i) (Q:=λk=>Y s k=32\/Y s k=10) (R:=λ_=>Z5) (λk q=>by omega) (s.size-i.toNat+1) kv (λn v h0 h1=>?_)
 ·exact⟨this.1,this.2.1⟩
 ·rw[skpL_L0,wrb];simp only[Z7];cases hc:Zh (v<((Zj s:J):I))&&spcC ((Y s v.toNat:J):I)with
  |true=>
   simp only[Zt,Zr]at hc;have:=hc.2;unfold spcC at this;simp at this;exact .inr ⟨hc.1,kv,rfl⟩
  |false=>exact .inl ⟨rfl,Zb⟩
def Viw(h:Bn s i)(ha:Y s i.toNat<128):i<=runE s i/\Bn s (runE s i)/\(∀k:J,i<=k->(k:I)<runE s i->Y s k=Y s i.toNat)/\(runE s i<s.size->Y s (runE s i).toNat≠Y s i.toNat):=by
 refine h.scan (L:=runE_L0 s i) (Q:=λk=>Y s k=Y s i.toNat) (R:=λv=>v<s.size->Y s v.toNat≠Y s i.toNat) (λk q=>by omega) (s.size-i.toNat+1) kv (λn v h0 h1=>?_);rw[runE_L0];cases hd:Zh (v<((Zj s:J):I))with
 |false=>exact .inl ⟨rfl,λq=>Z1 q (Zk hd)⟩
 |true=>
  rw[Zf];cases hc:(((Y s v.toNat:J):I)==((Y s i.toNat:J):I))with
  |true=>exact .inr ⟨Zq hd,by have:=eq_of_beq hc;omega,rfl⟩
  |false=>exact .inl ⟨rfl,λ_=>by have:=Y2 hc;omega⟩
def letA_a{b:J}(h:letA (b:I)=K):65<=b/\b<=122:=by
 unfold letA at h;simp only[Z7,Bool.cond_true_right]at h;simp at h;omega
def inN_a{b:J}(h:inN (b:I)=K):45<=b/\b<=122/\b≠91/\b≠64:=by
 unfold inN at h;cases hl:letA (b:I)with
 |true=> 
  unfold letA at hl;simp at hl;omega
 |false=>
  rw[hl]at h;simp at h;omega
def wrdA_bn(h:Bn s i):i<=wrdA s i/\Bn s (wrdA s i)/\(∀k:J,i<=k->(k:I)<wrdA s i->inN ((Y s k:J):I)=K):=by
 have:=h.scan (L:=Dh s i) (Q:=λk=>inN ((Y s k:J):I)=K) (R:=λ_=>Z5) (λk q=>by have:=inN_a q;omega) (s.size-i.toNat+1) kv (λn v h0 h1=>?_)
 ·exact⟨this.1,this.2.1,this.2.2.1⟩
 ·rw[Dh];simp only[Z7];cases hc:Zh (v<((Zj s:J):I))&&inN ((Y s v.toNat:J):I)with
  |true=>
   simp only[Zt,Zr]at hc;exact .inr ⟨hc.1,hc.2,rfl⟩
  |false=>exact .inl ⟨rfl,Zb⟩
def nmeS_bn(h:Bn s i):i<=nmeS s i/\Bn s (nmeS s i):=by
 have:=h.scan (L:=J3 s i) (Q:=λk=>Y s k<128) (R:=λ_=>Z5) (λk q=>q) (s.size-i.toNat+1) kv (λn v h0 h1=>?_)
 ·exact⟨this.1,this.2.1⟩
 ·rw[J3,wrb]
  by_cases hd:v<s.size
  ·by_cases ha:Y s v.toNat<128
   ·rw[Z8 hd,Zf];have key:∀ c:Yv,(Zp c v (J3 s i n (v+1))=v/\Z5)\/(v<s.size/\Y s v.toNat<128/\Zp c v (J3 s i n (v+1))=J3 s i n (v+1)):=λc=>by
     cases c
     ·exact .inr ⟨hd,ha,rfl⟩
     ·exact .inl ⟨rfl,Zb⟩
    exact key _
   ·refine .inl ⟨?_,Zb⟩;have b0:=Vm4 s v.toNat
    generalize Y s v.toNat=b at ha b0;have hb:∀ b:J,b<256->¬ b<128->(Zp (Zp (Zp (Zp (Zp (!Zp (Zp (Zh ((b:I)>=97)) (Zh ((b:I)<=122)) B) K (Zp (Zh ((b:I)>=65)) (Zh ((b:I)<=90)) B)) (!digC (b:I)) B) ((b:I) !=45) B) ((b:I) !=95) B) ((b:I) !=46) B) ((b:I) !=58) B)=true:=gj;rw[hb b b0 ha];cases Zh (v<((Zj s:J):I)) <;>rfl
  ·exact .inl ⟨by rw[Zo hd];rfl,Zb⟩
end
end
section
open Go Go.Eng
def oneO_L0(n:I)(numbers:F I):J->J->Yv
 |0,_=>default
 |n0+1,v9=>Zp (Zh (((v9:J):I)<((lenM vI numbers:J):I))) (Zp ((n:I)==el numbers v9) K (oneO_L0 n numbers n0 (v9+1))) B
def oneO(n:I)(numbers:F I):Bool:=oneO_L0 n numbers ((Q1 numbers-0)+1) 0
def Vox(n:I)(numbers:F I)(hnumbers:numbers.length<=1073741824):Va1 Zc 78 [(jI n),(jL (numbers.map vI))] [] [] (jB (oneO n numbers)) [] []:=by
 refine BEG (λr:Yv=>(jB r)) (oneO n numbers) Tryz.func78 kx ?_;refine UF (oneO.eq_1 ..) ?_;refine gO i7 ?_;refine LP (λN M S=>∃ v9:J,(Q1 numbers-v9<N)/\M=oneO_L0 n numbers N v9/\S=(sx 17 [(0,(jI n)),(7,(jL (numbers.map vI))),(8,(jI ((lenM vI numbers:J):I))),(9,(jI ((v9:J):I)))] [] [])) kx ⟨_,kv,rfl,rfl⟩ (WK kx) ?_;rintro n0 M S ⟨v9,hF0,rfl,rfl⟩;obtain⟨n0,rfl⟩:∃ k,n0=k+1:=⟨n0-1,kv⟩
 refine UF (oneO_L0.eq_2 ..) ?_;refine gO m5 ?_;refine CSd (λh1p h1=>?_) (λh1p h1=>?_)
 ·have:=Va6 vI numbers;refine gO (kb h1<|ke (el_vI numbers v9 (by first|omega|(simp only[Va6,true_and];omega))) n8) ?_;refine CSe (λh2p h2=>?_) (λh2p h2=>?_)
  ·refine gO (kb h2 m5) ?_;refine Dr z kx ?_;exact EN kx
  ·refine gO (kb h2<|kn (wrE (((v9:J):I)+1) ((v9+1:J):I) kv) m5) ?_;exact AG ⟨_,kv,rfl,rfl⟩ (WK kx) kx (Zl _)
 ·have:=Va6 vI numbers;refine gO (kb h1 z) ?_;refine Dr m5 kx ?_;exact EN kx
def trmP(s:C):Bool:=Zp (eqs s (⟨#[]⟩)) K (Zp (((Y s 0:J):I) !=32) (((Y s (Yb (((Zj s:J):I)-1)):J):I) !=32) B)
def trmP_to(s:C)(hs:s.size<=1073741824):Va1 Zc 177 [(jS s)] [] [] (jB (trmP s)) [] []:=by
 refine BEG (λr:Yv=>(jB r)) (trmP s) Tryz.func177 kx ?_;refine UF (trmP.eq_1 ..) ?_;refine gO (j8 (eqs s (⟨#[]⟩)) z (tn 1<|hp (λh=>by have j0:=h.2;have j0z:=Veh j0;exact(ib s 0 kv))<|wq (((Y s 0:J):I) !=32) (tn 3<|hn (λh=>by have j0:=h.1.2;have j0z:=Veh j0;have j1:=h.2;have j1p:=Yt.1 j1;exact(wrE (((Zj s:J):I)-1) (((Zj s:J):I)-1) kv))<|hp (λh=>by have j0:=h.1.2;have j0z:=Veh j0;have j1:=h.2;have j1p:=Yt.1 j1;exact(ib s (((Zj s:J):I)-1) kv)) m5) z z) m5) ?_;exact EN kx
def clnT(s:C):Bool:=Zp (valG s) (Zh ((idxB s 10:I)<0)) B
def clnT_to(s:C)(hs:s.size<=1073741824):Va1 Zc 119 [(jS s)] [] [] (jB (clnT s)) [] []:=by
 refine BEG (λr:Yv=>(jB r)) (clnT s) Tryz.func119 kx ?_;refine UF (clnT.eq_1 ..) ?_;refine gO (j7 (valG_to s ky)<|m7 (valG s) (n7 (Vj9 s 10) m5) z m5) ?_;exact EN kx
def LbOk(s:C):Prop:=0<s.size/\s.size<=60/\fldM s=s/\lblL s (s.size+1) 0=K
structure AOk (a:Yy):Prop where
 id:a.fID=⟨#[]⟩\/namA a.fID=K
 cl:∀ c∈a.fClasses,namA c=K
 cn:a.fClasses.Nodup
 pr:∀ p∈a.fPairs,namA p.fKey=K/\clnG p.fValue=K
 pn:(a.fPairs.map (·.fKey)).Nodup
 lc:a.fClasses.length<=32
 lp:a.fPairs.length<=32
def SP7:ByteArray:=⟨#[91,93,59,64,123,36,96]⟩
def BAR:ByteArray:=⟨#[124,123,125]⟩
def CtOk(t:C):Prop:=CL t/\trmP t=K/\ctnG t SP7=B
def CiOk(c:Dq):Prop:=namA c.fKey=K/\CtOk c.fPrefix/\CtOk c.fSuffix
def ArOk(a:C):Prop:=CL a/\ctnG a BAR=B
structure LnOk (lab d ti:C):Prop where
 lb:lab=⟨#[]⟩\/(LbOk lab/\d=⟨#[]⟩/\ti=⟨#[]⟩)
 d:CL d
 ti:CL ti
structure AuOk (d:C):Prop where
 n:∃ n,2<=n/\n<=20/\n<d.size/\Y d n=58/\∀ k,k<n->letA ((Y d k:J):I)=K
 cl:CL d
 no:∀ k,k<d.size->Y d k≠32/\Y d k≠60/\Y d k≠62
def PAG:ByteArray:=⟨#[112,97,103,101]⟩
inductive WI:A->Prop
 |tx (k:I) (t:C):(k=1\/k=4\/k=5)->0<t.size->CL t->WI (coI k t)
 |br (k:I):(k=2\/k=3)->WI (coI k ⟨#[]⟩)
 |em (k:I) (l:F A):(k=6\/k=7\/k=8)->l≠[]->WI (mkI k ⟨#[]⟩ ⟨#[]⟩ ⟨#[]⟩ aZ l)
 |ln (lab d ti:C) (l:F A):LnOk lab d ti->WI (mkI 9 lab d ti aZ l)
 |im (lab d ti:C) (a:Yy) (l:F A):LnOk lab d ti->AOk a->WI (mkI 10 lab d ti a l)
 |sp (a:Yy) (l:F A):AOk a->empA a=B->WI (mkI 11 ⟨#[]⟩ ⟨#[]⟩ ⟨#[]⟩ a l)
 |nr (t:C):namA t=K->WI (coI 12 t)
 |ci (l:F Dq):l≠[]->(∀c∈l,CiOk c)->WI (Yc 13 ⟨#[]⟩ ⟨#[]⟩ ⟨#[]⟩ ⟨⟨#[]⟩,[],[]⟩ [] l [])
 |rf (t ti:C):namA t=K->(ti=⟨#[]⟩\/ti=PAG)->WI (Yc 14 t ⟨#[]⟩ ti ⟨⟨#[]⟩,[],[]⟩ [] [] [])
 |us (t:C) (l:F C):namA t=K->l.length<=8->(∀a∈l,ArOk a)->WI (usI t l)
 |au (d:C):AuOk d->WI (Yc 16 ⟨#[]⟩ d ⟨#[]⟩ ⟨⟨#[]⟩,[],[]⟩ [] [] [])
def WI.kd{x:A}(h:WI x){l:F A}(h1:x.fKids=[]->l=[])(h2:x.fKids≠[]->l≠[]):WI {x with fKids:=l}:=by
 cases h with
 |tx k t a b c=>rw[h1 rfl];exact .tx k t a b c
 |br k a=>rw[h1 rfl];exact .br k a
 |em k l' a b=>exact .em k l a (h2 b)
 |ln a b c l' d=>exact .ln a b c l d
 |im a b c d l' e f=>exact .im a b c d l e f
 |sp a l' b c=>exact .sp a l b c
 |nr t a=>rw[h1 rfl];exact .nr t a
 |ci l' a b=>rw[h1 rfl];exact .ci l' a b
 |rf t ti a b=>rw[h1 rfl];exact .rf t ti a b
 |us t l' a b c=>rw[h1 rfl];exact .us t l' a b c
 |au d a=>rw[h1 rfl];exact .au d a
def WI.hk{x:A}(h:WI x)(hk:x.fKids≠[]):6<=x.fKind/\x.fKind<=11:=by
 cases h with
 |em k l a b=>show 6<=k/\k<=11;omega
 |tx=>exact Z1 rfl hk
 |br=>exact Z1 rfl hk
 |nr=>exact Z1 rfl hk
 |ci=>exact Z1 rfl hk
 |rf=>exact Z1 rfl hk
 |us=>exact Z1 rfl hk
 |au=>exact Z1 rfl hk
 |_=>simp[mkI]
def WI.kd1{x:A}(h:WI x):1<=x.fKind:=by
 cases h with
 |tx k t a b c=>show 1<=k;omega
 |br k a=>show 1<=k;omega
 |em k l a b=>show 1<=k;omega
 |_=>simp[mkI,coI,usI]
def WI.t1{x:A}(h:WI x)(hk:x.fKind=1):∃ t,x=txI t/\0<t.size/\CL t:=by
  cases h with
  | tx k t a b c => obtain rfl:k=1:=hk
                    exact⟨t,rfl,b,c⟩
  | br k a => have:k=1:=hk
              omega
  | em k l a b => have:k=1:=hk
                  omega
  |_=>exact Z1 hk (by simp[mkI,coI,usI])
def Vib(s:C)(k:J):Y s k=(s.data.toList.getD k 0).toNat:=by
 unfold Y;rw[Zn,Ze,Array.getElem?_toList]
def sz_l(s:C):s.size=s.data.toList.length:=ku
def ixP(f:F Xg->I)(p:Xg->Yv)(h0:f []= -1)(h1:∀ b l,f (b::l)=if p b then 0 else if f l== -1 then -1 else f l+1):∀ l,(f l= -1/\∀ k,k<l.length->p (l.getD k 0)=B)\/(∃n:J,f l=n/\n<l.length/\p (l.getD n 0)=K/\∀ k,k<n->p (l.getD k 0)=B)
 |[]=>.inl ⟨h0,λk hk=>Z1 hk (Y8 _)⟩
 | b::l=>by
  rw[h1];cases hb:p b with
  |true=>exact .inr ⟨0,rfl,Nat.zero_lt_succ _,hb,λk hk=>Z1 hk (Y8 _)⟩
  | false=>
   rw[Zy ku];rcases ixP f p h0 h1 l with⟨e,h⟩|⟨n,e,a,c,d⟩
   ·refine .inl ⟨by rw[e];rfl,λk hk=>?_⟩;cases k with
    |zero=>exact hb
    |succ k=>exact h k (by simpa using hk)
   ·refine .inr ⟨n+1,by rw[e,Zy ku];rfl,by simpa using a,c,λk hk=>?_⟩;cases k with
    |zero=>exact hb
    |succ k=>exact d k kv
def u8_eq{a:Xg}{c:J}(hc:c<256):(a==Zg c)=Zh (a.toNat=c):=by
 rw[Bool.eq_iff_iff,Xo,Zr];constructor
 ·rintro rfl;simp[Z4 hc]
 ·intro h;rw[<-h];simp
def Vrb(t:C)(c:J)(hc:c<256):(idxB t (c:I)= -1/\∀ k,k<t.size->Y t k≠c)\/(∃n:J,idxB t (c:I)=n/\n<t.size/\Y t n=c/\∀ k,k<n->Y t k≠c):=by
 have h:=ixP (λl=>Df l (Zg c)) (λb=>b==Zg c) rfl (λb l=>rfl) t.data.toList;have e:idxB t (c:I)=Df t.data.toList (Zg c):=by unfold idxB;rw[Z9]
 rw[e];simp only[u8_eq hc,decide_eq_false_iff_not,Zr, <-Vib, <-sz_l]at h;exact h
def idxA_q(t p:C):(idxA t p= -1/\∀ k,k<t.size->∀ j,j<p.size->Y t k≠Y p j)\/(∃n:J,idxA t p=n/\n<t.size/\(∃j,j<p.size/\Y t n=Y p j)/\∀ k,k<n->∀ j,j<p.size->Y t k≠Y p j):=by
 have h:=ixP (λl=>Dp l p.data.toList) (λb=>p.data.toList.contains b) rfl (λb l=>rfl) t.data.toList;have hn:∀ k,p.data.toList.contains (t.data.toList.getD k 0)=B->∀ j,j<p.size->Y t k≠Y p j:=λk hk j hj e=>by
  rw[Vib,Vib]at e;have e:=Jz.1 e;rw[e]at hk;have:p.data.toList.getD j 0∈p.data.toList:=by
   rw[Ze,Zi (by rw[<-sz_l];exact hj)];exact Ic _
  rw[Iw.2 this]at hk;cases hk
 have e0:idxA t p=Dp t.data.toList p.data.toList:=by unfold idxA;rfl
 rw[e0];rcases h with⟨e,h⟩|⟨n,e,a,c,d⟩
 ·exact .inl ⟨e,λk hk=>hn k (h k (by rw[<-sz_l];exact hk))⟩
 ·refine .inr ⟨n,e,by rw[sz_l];exact a,?_,λk hk=>hn k (d k hk)⟩;have hm:t.data.toList.getD n 0∈p.data.toList:=by simpa using c
  obtain⟨j,hj,he⟩:=Qo hm;exact⟨j,by rw[sz_l];exact hj,by rw[Vib,Vib, <-he,Ze (i:=j),Zi hj];rfl⟩
def ctn_no{t p:C}(h:∀ k,k<t.size->∀ j,j<p.size->Y t k≠Y p j):ctnG t p=false:=by
 unfold ctnG;rcases idxA_q t p with⟨e,_⟩|⟨n,e,a,⟨j,b,c⟩,_⟩
 ·rw[e];rfl
 ·exact Z1 c (h n a j b)
def ctn_of{t p:C}(h:ctnG t p=B):∀ k,k<t.size->∀ j,j<p.size->Y t k≠Y p j:=by
 unfold ctnG at h;have h:=Zk h;rcases idxA_q t p with⟨e,q⟩|⟨n,e,_⟩
 ·exact q
 ·omega
def cln_cl{t:C}(h:CL t):Zp (valG t) (Zh ((idxB t 10:I)<0)) B=true:=by
 rw[valG_ct h.1,Zf];refine Z8 ?_;rcases Vrb t 10 gj with⟨e,_⟩|⟨n,_,a,b,_⟩
 ·have e:idxB t 10= -1:=e;omega
 ·exact Z1 b (h.2 n a)
def clnT_cl{t:C}(h:CL t):clnT t=true:=cln_cl h
def clnG_cl{t:C}(h:CL t):clnG t=true:=cln_cl h
def nam_cl{t:C}(h:namA t=K):CL t:=by
 unfold namA at h;obtain⟨_,h⟩:=cond_ft h;have h:=eq_of_beq h
 have:=scan_q (s:=t) (Dh t 0) (λk=>inN ((Y t k:J):I)=K) (λ_=>Z5) (λn v h0 h1=>by
  rw[Dh];simp only[Z7];cases hc:Zh (v<((Zj t:J):I))&&inN ((Y t v.toNat:J):I)with
  |true=>
   simp only[Zt,Zr]at hc;exact .inr ⟨hc.1,hc.2,rfl⟩
  |false=>exact .inl ⟨rfl,Zb⟩) (t.size-Yb 0+1) 0 kv kv kv
 have h3:∀ k:J,(0:I)<=k->(k:I)<wrdA t 0->inN ((Y t k:J):I)=true:=this.2.2.1;exact CL.as λk hk=>by
  have:=inN_a (h3 k kv kv);omega
def hpx_b{s p:C}{i:I}(h0:0<=i)(h1:i<=s.size)(h:hpxB (Zd s i.toNat s.size) p=K):i+p.size<=s.size/\∀ k,k<p.size->Y s (i.toNat+k)=Y p k:=by
 have hz:=hpxB_sz h;rw[Ya,Jn]at hz;refine⟨kv,λk hk=>?_⟩;unfold hpxB Lib.hasPrefix at h;obtain⟨l,hl⟩:=List.isPrefixOf_iff_prefix.1 h;rw[<-Vd6 s (i:=i.toNat) (j:=s.size) kv (Zm _),Vib, <-hl,Vib];rw[Ze,Ze,Yk (by rw[<-sz_l];exact hk)]
def ebs(c:J):F Int:=if c<128 then[(c:I)]else if c<2048 then[192+(c:I) / 64,128+(c:I)%64]else if c<65536 then[224+(c:I) / 4096,128+(c:I) / 64%64,128+(c:I)%64]else[240+(c:I) / 262144,128+(c:I) / 4096%64,128+(c:I) / 64%64,128+(c:I)%64]
def or192:∀ x:J,x<32->bOr .u8 192 (x:I)=192+(x:I):=gj
def or224:∀ x:J,x<16->bOr .u8 224 (x:I)=224+(x:I):=gj
def or240:∀ x:J,x<8->bOr .u8 240 (x:I)=240+(x:I):=gj
def or128:∀ x:J,x<64->bOr .u8 128 (x:I)=128+(x:I):=gj
def and63:∀ x:J,x<256->bAnd .u8 (x:I) 63=((x%64:J):I):=gj
def u8w(x:J):IntKind.u8.wrap (x:I)=((x%256:J):I):=by
 simp only[Jp,Ip,I9];simp
def u32w(x:J)(h:x<4294967296):IntKind.u32.wrap (x:I)=(x:I):=by
 simp only[Jp,Ip,I9];simp;omega
def shrN(c k:J)(h:k<=32):bShr .i32 (c:I) (k:I)=((c / 2 ^ k:J):I):=by
 unfold bShr;rw[Z9,show min k IntKind.i32.bits=k from Y9 h,Int.fdiv_eq_ediv_of_nonneg _ (by exact Int.le_of_lt (Int.pow_pos gj))];simp
def Vna(b x:J)(hb:b=128):bOr .u8 128 (bAnd .u8 (IntKind.u8.wrap (x:I)) 63)=128+((x%64:J):I):=by
 rw[u8w,and63 _ kv,show x%256%64=x%64 by omega,or128 _ kv]
def rnB_v(c:J)(h:Yl (c:I)=K):rnB (c:I)=ebs c:=by
 unfold Yl at h;simp only[Yr,Zt,Zr]at h;have e6:=shrN c 6 gj;have e12:=shrN c 12 gj;have e18:=shrN c 18 gj;unfold rnB rnA ebs;rw[u32w c kv]
 by_cases h1:c<128
 ·rw[Zs h1,dT kv,Zf,u8w,Z4 kv]
 rw[Zy h1,dF kv,Za]
 by_cases h2:c<2048
 ·rw[Zs h2,dT kv,Zf];rw[show(6:I)=((6:J):I)from rfl,e6,u8w,Vna 128 _ rfl,Z4 kv,or192 _ kv];simp
 rw[Zy h2,dF kv,Za]
 by_cases h3:c<65536
 ·have hc:Zp (Zh ((c:I)<55296)) K (Zp (Zh ((57343:I)<(c:I))) (Zh ((c:I)<=65535)) B)=true:=by
   by_cases h4:c<55296
   ·rw[dT kv];rfl
   ·rw[dF kv,dT (p:=(57343:I)<(c:I)) kv,dT kv];rfl
  rw[Zs h3,hc,Zf];rw[show(6:I)=((6:J):I)from rfl,show(12:I)=((12:J):I)from rfl,e6,e12,u8w,Vna 128 _ rfl,Vna 128 _ rfl,Z4 kv,or224 _ kv];simp
 ·have hc:Zp (Zh ((c:I)<55296)) K (Zp (Zh ((57343:I)<(c:I))) (Zh ((c:I)<=65535)) B)=false:=by
   rw[dF kv,dT (p:=(57343:I)<(c:I)) kv,dF kv];rfl
  have hd:Zp (Zh ((c:I)>65535)) (Zh ((c:I)<=1114111)) B=true:=by rw[dT kv,dT kv];rfl
  rw[Zy h3,hc,Za,hd,Zf];rw[show(6:I)=((6:J):I)from rfl,show(12:I)=((12:J):I)from rfl,show(18:I)=((18:J):I)from rfl,e6,e12,e18,u8w,Vna 128 _ rfl,Vna 128 _ rfl,Vna 128 _ rfl,Z4 kv,or240 _ kv];simp
def Vn9:∀(l:F I)(t:C),pu t l=t++pu ⟨#[]⟩ l
 |[],t=>by apply Xf;simp[pu]
 |e::l,t=>by
  show pu (t.push (u8 e)) l=t++pu ((⟨#[]⟩:C).push (u8 e)) l;rw[Vn9 l (t.push _),Vn9 l (Dz _ _), <-Yf];congr 1;apply Xf;simp
def byt_pu:∀(l:F I)(t u:C)(k:J),(∀e∈l,0<=e/\e<256)->k<l.length->((Y (pu t l++u) (t.size+k):J):I)=l.getD k 0
 |[],t,u,k,_,h=>Z1 h (Y8 _)
 |e::l,t,u,0,h,_=>by
  have he:=h e ku;rw[show pu t (e::l)=pu (t.push (u8 e)) l from rfl,Vn9,Yf,Vnt,Zs (by rw[Y3];omega)];unfold Y
  show((((t.data.push (u8 e)).getD t.data.size 0).toNat:J):I)=e;rw[Zn,Array.getElem?_push_size];unfold u8
  show(((Zg e.toNat).toNat:J):I)=e;rw[UInt8.toNat_ofNat'];omega
 |e::l,t,u,k+1,h,hk=>by
  have:=byt_pu l (t.push (u8 e)) u k (λx hx=>h x (by simp[hx])) (by simpa using hk);rw[Y3]at this;rw[show t.size+(k+1)=t.size+1+k by omega];exact this
def dec_rn(t u:C)(c:J)(h:Yl (c:I)=K):Qc (pu t (rnB (c:I))++u) t.size=(c,(rnB (c:I)).length)/\t.size+(rnB (c:I)).length<=(pu t (rnB (c:I))++u).size:=by
 have hl:=(Vn7 (c:I))
 have hsz:t.size+(rnB (c:I)).length<=(pu t (rnB (c:I))++u).size:=by rw[Yo,Vmv];omega
 refine⟨?_,hsz⟩;have hb:=λk=>byt_pu (rnB (c:I)) t u k hl.1
 generalize hs:pu t (rnB (c:I))++u=s at hb hsz;rw[rnB_v c h]at hb hsz ⊢;have hv:=h;unfold Yl at h;simp only[Yr,Zt,Zr]at h;have eg:∀ k,(s.get! (t.size+k)).toNat=Y s (t.size+k):=λ_=>rfl
 unfold ebs at hb hsz ⊢;unfold Qc
 by_cases h1:c<128
 ·rw[Zs h1]at hb hsz ⊢;have b0:Y s (t.size+0)=c:=by have:=hb 0 ku;simp at this ⊢;omega
  simp only[eg,b0];rw[Zs h1];rfl
 rw[Zy h1]at hb hsz ⊢
 by_cases h2:c<2048
 ·rw[Zs h2]at hb hsz ⊢;have b0:Y s (t.size+0)=192+c / 64:=by have:=hb 0 ku;simp at this ⊢;omega
  have b1:Y s (t.size+1)=128+c%64:=by have:=hb 1 ku;simp at this ⊢;omega
  have hsz:t.size+2<=s.size:=hsz;have e:(192+c / 64)%32*64+(128+c%64)%64=c:=kv;simp only[eg,b0,b1,e];rw[Zy kv,Zs (by simp;omega),Zs kv];rfl
 rw[Zy h2]at hb hsz ⊢
 by_cases h3:c<65536
 ·rw[Zs h3]at hb hsz ⊢;have b0:Y s (t.size+0)=224+c / 4096:=by have:=hb 0 ku;simp at this ⊢;omega
  have b1:Y s (t.size+1)=128+c / 64%64:=by have:=hb 1 ku;simp at this ⊢;omega
  have b2:Y s (t.size+2)=128+c%64:=by have:=hb 2 ku;simp at this ⊢;omega
  have hsz:t.size+3<=s.size:=hsz;have e:(224+c / 4096)%16*4096+(128+c / 64%64)%64*64+(128+c%64)%64=c:=kv;simp only[eg,b0,b1,b2,e];rw[Zy kv,Zy (by simp;omega),Zs (by simp;omega),Zs (by rw[hv];simp;omega)];rfl
 ·rw[Zy h3]at hb hsz ⊢;have b0:Y s (t.size+0)=240+c / 262144:=by have:=hb 0 ku;simp at this ⊢;omega
  have b1:Y s (t.size+1)=128+c / 4096%64:=by have:=hb 1 ku;simp at this ⊢;omega
  have b2:Y s (t.size+2)=128+c / 64%64:=by have:=hb 2 ku;simp at this ⊢;omega
  have b3:Y s (t.size+3)=128+c%64:=by have:=hb 3 ku;simp at this ⊢;omega
  have hsz:t.size+4<=s.size:=hsz;have e:(240+c / 262144)%8*262144+(128+c / 4096%64)%64*4096+(128+c / 64%64)%64*64+(128+c%64)%64=c:=kv;simp only[eg,b0,b1,b2,b3,e];rw[Zy kv,Zy (by simp;omega),Zy (by simp;omega),Zs (by simp;omega),Zs (by rw[hv];simp;omega)];rfl
def val_e:Yl ((Utf8.runeError:J):I)=true:=gj
def dec_val(s:C)(v:J):Yl (((Qc s v).1:J):I)=true:=by
 have h0:(s.get! (v+0)).toNat<256:=(s.get! (v+0)).toNat_lt;unfold Qc;simp only
 repeat' split
 all_goals first
  |(rename_i hq;simp only[Zt]at hq;exact hq.2)
  |(unfold Yl;simp only[Yr,Zt,Zr];omega)
  |exact val_e
structure Lr (c:J):Prop where
 val:Yl (c:I)=K
 lo:lowC (c:I)=(c:I)
 sp:spcC (c:I)=B
def wr_c{c:J}(h:c<2097152):IntKind.i64.wrap (c:I)=(c:I)/\IntKind.i32.wrap (c:I)=(c:I):=by
 refine⟨wrE _ _ kv,?_⟩;simp only[Jp,Ip,I9];simp;omega
def val_lt{c:J}(h:Yl (c:I)=K):c<1114112:=by
 unfold Yl at h;simp only[Yr,Zt,Zr]at h;omega
def low_if(c:I):lowC c=if 65<=c/\c<=90 then c+32 else if 192<=c/\c<=222/\c≠215 then c+32 else if 913<=c/\c<=939/\c≠930 then c+32 else if 1040<=c/\c<=1071 then c+32 else if 1024<=c/\c<=1039 then c+80 else c:=by
 unfold lowC;simp only[Z7];simp only[Qa,Zt,Zr,Yt,ge_iff_le,and_assoc,ne_eq]
def spc_if(c:I):spcC c=Zh (c=32\/c=10):=by
 unfold spcC
 by_cases h:c=32
 ·subst h;rfl
 ·by_cases h2:c=10
  ·subst h2;rfl
  ·simp[h,h2]
def low_r{c:J}(h:Yl (c:I)=K)(hs:spcC (c:I)=B):∃ r:J,lowC (c:I)=(r:I)/\Lr r:=by
 have hb:=val_lt h;unfold Yl at h;simp only[Yr,Zt,Zr]at h;rw[spc_if]at hs;have hs:=Zk hs;have hr:0<=lowC (c:I)/\((lowC (c:I)<55296)\/(57344<=lowC (c:I)/\lowC (c:I)<=1114111))/\lowC (lowC (c:I))=lowC (c:I)/\¬ (lowC (c:I)=32\/lowC (c:I)=10):=by
  rw[low_if (lowC _),low_if (c:I)]
  repeat' split
  all_goals omega
 obtain⟨r,hr'⟩:∃ r:J,lowC (c:I)=(r:I):=⟨(lowC (c:I)).toNat,kv⟩
 rw[hr']at hr;refine⟨r,hr',?_,hr.2.2.1,?_⟩
 ·unfold Yl;simp only[Yr,Zt,Zr];omega
 ·rw[spc_if];exact Zo hr.2.2.2
def FI(t:C):Prop:=∀ u,∃k,k<=t.size/\∀ N,fldL (t++u) (N+k) 0 B ⟨#[]⟩=fldL (t++u) N t.size B t
def FI_0:FI ⟨#[]⟩:=λu=>⟨0,Zm _,λN=>rfl⟩
def fld_r(t u:C)(gap:Yv)(w:C){r:J}(hr:Lr r)(N:J):fldL (pu t (rnB (r:I))++u) (N+1) t.size gap w=fldL (pu t (rnB (r:I))++u) N (t.size+(rnB (r:I)).length) B (pu (fldT gap w) (rnB (r:I))):=by
 obtain⟨d1,d2⟩:=dec_rn t u r hr.val;have hl:=(Vn7 (r:I)).2.1;have hw:=wr_c (show r<2097152 by have:=val_lt hr.val;omega);have e1:fldC (pu t (rnB (r:I))++u) t.size=(r:I):=by unfold fldC;rw[d1]
 have e2:fldR (pu t (rnB (r:I))++u) t.size=(r:I):=by unfold fldR;rw[e1,hw.1,hr.lo,hw.2]
 rw[fldL,Zs kv,e1,hw.1,hr.sp,Za,d1,e2]
def FI.add{t:C}(h:FI t){r:J}(hr:Lr r):FI (pu t (rnB (r:I))):=λu=>by
 obtain⟨k,k1,k2⟩:=h (pu ⟨#[]⟩ (rnB (r:I))++u);have hl:=(Vn7 (r:I)).2.1;refine⟨k+1,by rw[Vmv];omega,λN=>?_⟩;have:=k2 (N+1);rw[<-Yf, <-Vn9,fld_r t u B t hr]at this;rw[show N+(k+1)=N+1+k by omega,this,Vmv];rfl
def FI.gap{t:C}(h:FI t)(h0:0<t.size){r:J}(hr:Lr r):FI (pu (t.push (u8 32)) (rnB (r:I))):=λu=>by
 have e0:t.push (u8 32)=t++(⟨#[u8 32]⟩:C):=by apply Xf;simp
 obtain⟨k,k1,k2⟩:=h ((⟨#[u8 32]⟩:C)++(pu ⟨#[]⟩ (rnB (r:I))++u));have hl:=(Vn7 (r:I)).2.1;refine⟨k+2,by rw[Vmv,Y3];omega,λN=>?_⟩;have:=k2 (N+2);rw[<-Yf, <-e0, <-Yf, <-Vn9]at this;have hb:Y (pu (t.push (u8 32)) (rnB (r:I))++u) t.size=32:=by
  rw[Vn9,Yf,e0,Yf,Vnt,Zy kv,Jl,Vnt,Zs (by show 0<1;decide)];rfl
 have hd:=dec_a (s:=pu (t.push (u8 32)) (rnB (r:I))++u) (v:=t.size) (by rw[Yo,Vmv,Y3];omega) kv;have hstep:fldL (pu (t.push (u8 32)) (rnB (r:I))++u) (N+2) t.size B t=fldL (pu (t.push (u8 32)) (rnB (r:I))++u) (N+1) (t.size+1) K t:=by
  rw[fldL,Zs (by rw[Yo,Vmv,Y3];omega)];have e1:fldC (pu (t.push (u8 32)) (rnB (r:I))++u) t.size=32:=by unfold fldC;rw[hd,hb];rfl
  rw[e1,show spcC (IntKind.i64.wrap 32)=K from rfl,Zf,hd]
 have hsz:(t.push (u8 32)).size=t.size+1:=Y3;have hg:fldT K t=t.push (u8 32):=by
  unfold fldT;rw[Zf,dT (by rw[Vbv];omega)];rfl
 rw[hstep, <-hsz,fld_r (t.push (u8 32)) u K t hr,hg]at this;rw[show N+(k+2)=N+2+k by omega,this,Vmv]
def fldL_FI(s:C):∀(n v:J)(gap:Yv)(t:C),FI t->FI (fldL s n v gap t)
 |0,v,gap,t,h=>h
 | n+1,v,gap,t,h=>by
  rw[fldL]
  split
  ·have hd:=dec_val s v;have hlt:=val_lt hd;have hw:=wr_c (show(Qc s v).1<2097152 by omega);cases hs:spcC (IntKind.i64.wrap (fldC s v))with
   |true=>exact fldL_FI s n _ K t h
   | false=>
    rw[Za];refine fldL_FI s n _ B _ ?_;unfold fldC at hs;rw[hw.1]at hs;obtain⟨r,hr,hR⟩:=low_r hd hs;have hwr:=wr_c (show r<2097152 by have:=val_lt hR.val;omega);have e:fldR s v=(r:I):=by unfold fldR fldC;rw[hw.1,hr,hwr.2]
    rw[e];cases gap with
    |false=>exact h.add hR
    | true=>
     by_cases h0:0<t.size
     ·have hg:fldT K t=t.push (u8 32):=by
       unfold fldT;rw[Zf,dT (by rw[Vbv];omega)];rfl
      rw[hg];exact h.gap h0 hR
     ·have hg:fldT K t=t:=by
       unfold fldT;rw[Zf,dF (by rw[Vbv];omega)];rfl
      rw[hg];exact h.add hR
  ·exact h
def fldM_idem(s:C):fldM (fldM s)=fldM s:=by
 have h:FI (fldM s):=fldL_FI s _ 0 B ⟨#[]⟩ FI_0;generalize fldM s=t at h;obtain⟨k,k1,k2⟩:=h ⟨#[]⟩;rw[ba_nil]at k2;obtain⟨N,hN⟩:∃ N,t.size+1=N+1+k:=⟨t.size-k,kv⟩
 unfold fldM;rw[hN,k2 (N+1),fldL,Zy (Dc _)]
def tlS(f:C)(v:J)(l:F (J×SV)):St:=sx 40 ([(20,.ptr 20 0)]++l) [(20,.it f v)] []
def tlN(f:C)(v:J):St:=sx 40 [(20,.ptr 20 0),(21,.av (.tup [vB K,vI ((v:J):I),.val (.int .i32 (fldC f v))])),(22,jB K)] [(20,.it f (v+(Qc f v).2))] []
def tl3(f:C):W Zc (.region 3 (Vaa 3 Yj) B) (λe S1=>e=.normal/\Q5 S1 (tlS f 0 [])) (sx 40 [(0,jS f)] [] []):=by
 refine Vam ?_;rw[show(Vaa 3 Yj).toList=[regO 3 Yj 0,regO 3 Yj 1] by kernel_rfl];refine Vas (jS f) 19 kx kx ?_;refine Vbs (.ptr 20 0) 20 kx (Vdg (t:=9) (x:=.tmp 19) (s:=f) (id:=20) kx kx kx gj kx) ?_;exact Vbl rfl ⟨rfl,WK kx⟩
def tl4(f:C)(v:J)(h:v<f.size):W Zc (.region 4 (Vaa 4 Yj) B) (λe S1=>e=.normal/\Q5 S1 (tlN f v)) (tlS f v []):=by
 refine Vam ?_;rw[show(Vaa 4 Yj).toList=[regO 4 Yj 0,regO 4 Yj 1] by kernel_rfl];refine Vbs (.av (.tup [vB K,vI ((v:J):I),.val (.int .i32 (fldC f v))])) 21 kx (Veg (P:=Zc) (o:=regO 4 Yj 0) (S:=tlS f v []) (x:=.tmp 20) (b:=20) (s:=f) (pos:=v) kx kx kx h) ?_;refine Vas (jB K) 22 kx kx ?_;exact Vbl rfl ⟨rfl,WK kx⟩
def tl4e(f:C):W Zc (.region 4 (Vaa 4 Yj) B) (λe S1=>e=.normal/\Q5 S1 (tlS f f.size [(22,jB B)])) (tlS f f.size []):=by
 refine Vam ?_;rw[show(Vaa 4 Yj).toList=[regO 4 Yj 0,regO 4 Yj 1] by kernel_rfl];refine Vbs (.av (.tup [.val (.bool B)])) 21 kx (Vce (P:=Zc) (o:=regO 4 Yj 0) (S:=tlS f f.size []) (x:=.tmp 20) (b:=20) (s:=f) (pos:=f.size) kx kx kx (Dc _)) ?_;refine Vas (jB B) 22 kx kx ?_;exact Vbl rfl ⟨rfl,WK kx⟩
def lbC_one(c:I)(h:lbC c=K)(h1:letL c=B)(h2:digC c=B):oneO c [32,45,95,46,58]=true:=by
 unfold lbC at h;rw[h1,h2]at h;simp only[Bool.false_or,Yr,Xo]at h;rcases h with(((rfl|rfl)|rfl)|rfl)|rfl <;>rfl
def tlb_to(s:C)(h:LbOk s):Va1 Zc 172 [jS s] [] [] (jB K) [] []:=by
 obtain⟨h0,h60,hf,hl⟩:=h;have e1:eqs s ⟨#[]⟩=false:=by
  cases hx:eqs s ⟨#[]⟩with
  |false=>rfl
  |true=>have:=eqs_sz hx;omega
 have e2:Zh (((Zj s:J):I)>60)=false:=dF kv;have cf:=fold_to s kv;have e3:(!eqs (fldM s) s)=false:=by rw[hf];show(!eqs s s)=B;unfold eqs;simp
 refine bG Tryz.func172 ?_;refine gO (i8 e1<|m0 e1<|m0 e1<|m0 e1<|m0 e2<|m0 e2<|kc cf<|kb e2<|m0 e2<|m0 e2<|kb e3<|kq 3 z) ?_;refine Dt (tlS s 0 []) z kx ?_ kx ?_
 ·refine Vaj (S':=sx 40 [(0,jS s)] [] []) (WK kx) ?_;exact Val (c':=.region 3 (Vaa 3 Yj) B) kx (tl3 s)
 refine LP (n:=s.size+1) (λN M S=>∃(v:J),v<=s.size/\lblL s N v=K/\s.size-v<N/\M=()/\S=tlS s v []) kx ⟨0,kv,hl,kv,rfl,rfl⟩ (WK kx) ?_;rintro n0 M S ⟨v,hv,hL,hF0,rfl,rfl⟩;obtain⟨n0,rfl⟩:∃ k,n0=k+1:=⟨n0-1,kv⟩
 rw[lblL]at hL;refine gO (kq 4 z) ?_
 by_cases h1:v<s.size
 ·obtain⟨p1,p2⟩:=dec_pos h1;rw[Zs h1,Zt]at hL;have k1:=letL_to (lbR s v);have k2:=Vlw (lbR s v);have k3:=Vox (lbR s v) [32,45,95,46,58] gj;have u5:Db 1 ([32,45,95,46,58].map vI):=by intro y hy;obtain⟨x,_,rfl⟩:=Yq.1 hy;exact⟨rfl,rfl⟩
  have w4:W Zc (.region 4 (Vaa 4 Yj) B) (λe S1=>e=.normal/\Q5 S1 (tlN s v)) (tlS s v []):=tl4 s v h1;cases c1:letL (lbR s v)with
  |true=>
   have n1:(!letL (lbR s v))=false:=by rw[c1];rfl
   refine Dt (tlN s v) (kb (b:=K) (d:=K) rfl<|eq k1<|z6 n1<|kb n1<|kb n1<|kb n1<|m0 (b:=B) (d:=B) rfl<|kb (b:=B) (d:=B) rfl<|kb (b:=B) (d:=B) rfl<|kb (b:=B) (d:=B) rfl<|kb (b:=B) (d:=B) rfl<|kb (b:=B) (d:=B) rfl z) kx ?_ kx ?_
   ·refine Vaj (S':=tlS s v []) (WK kx) ?_;exact Val (c':=.region 4 (Vaa 4 Yj) B) kx w4
   exact AG (m:=n0) ⟨_,p2,hL.2,kv,rfl,rfl⟩ (WK kx) kx (Zl _)
  | false=>
   have n1:(!letL (lbR s v))=true:=by rw[c1];rfl
   cases c2:digC (lbR s v)with
   |true=>
    have n2:(!digC (lbR s v))=false:=by rw[c2];rfl
    refine Dt (tlN s v) (kb (b:=K) (d:=K) rfl<|eq k1<|z6 n1<|m0 n1<|kc k2<|kb n1<|m0 n1<|m0 n2<|kb n2<|kb n2<|kb n2<|kb n2<|kb (b:=B) (d:=B) rfl z) kx ?_ kx ?_
    ·refine Vaj (S':=tlS s v []) (WK kx) ?_;exact Val (c':=.region 4 (Vaa 4 Yj) B) kx w4
    exact AG (m:=n0) ⟨_,p2,hL.2,kv,rfl,rfl⟩ (WK kx) kx (Zl _)
   |false=>
    have n2:(!digC (lbR s v))=true:=by rw[c2];rfl
    rw[lbC_one _ hL.1 c1 c2]at k3;refine Dt (tlN s v) (kb (b:=K) (d:=K) rfl<|eq k1<|z6 n1<|m0 n1<|kc k2<|kb n1<|m0 n1<|m0 n2<|m0 n2<|kp u5<|kb n2<|kc k3<|kb n2<|m0 n2<|kb (b:=B) (d:=B) rfl z) kx ?_ kx ?_
    ·refine Vaj (S':=tlS s v []) (WK kx) ?_;exact Val (c':=.region 4 (Vaa 4 Yj) B) kx w4
    exact AG (m:=n0) ⟨_,p2,hL.2,kv,rfl,rfl⟩ (WK kx) kx (Zl _)
 ·obtain rfl:v=s.size:=kv;refine Dt (tlS s s.size [(22,jB B)]) (kb (b:=B) (d:=B) rfl z) kx ?_ kx ?_
  ·refine Vaj (S':=tlS s s.size []) (WK kx) ?_;exact Val (c':=.region 4 (Vaa 4 Yj) B) kx (tl4e s)
  refine Dr m5 kx ?_;exact eN
def tvs(ks:F C):F AV:=ks.map (λ_=>AV.val (.bool K))
def kpos_no{s:C}:∀ {ks:F C},s ∉ ks->kpos ks s=Y5
 |[],_=>rfl
 | k::ks,h=>by
  rw[kpos,kpos_no (λq=>h (Xc _ q))];have:(s==k)=false:=by
   rw[Bool.eq_false_iff];intro e;exact h (by rw[(bytes_eq).1 e];exact Qr)
  rw[this];rfl
def look_no{ks:F C}{s:C}(h:s ∉ ks):Vj6 B (.val (.bool B)) ks (tvs ks) s=.val (.bool B):=by
 simp only[Vj6,Ji,if_false,mget,kpos_no h]
def put_no{ks:F C}{s:C}(h:s ∉ ks):mputK ks s=ks++[s]/\mputV ks (tvs ks) s (.val (.bool K))=tvs (ks++[s]):=by
 unfold mputK mputV;rw[kpos_no h];simp[tvs]
def weak_mp{n:J}{sl:F (J×SV)}{gn:F (Key×J)}{b:J}{k k':F C}{v v':F AV}{r:F (J×Jj)}(h1:k=k')(h2:v=v'):Q5 (sx n sl ((b,.map k v)::r) gn) (sx n sl ((b,.map k' v')::r) gn):=by subst h1 h2;exact λ_ _ _ h=>h
def take_no{l:F C}(h:l.Nodup){v:J}(hv:v<l.length):el l v ∉ l.take v/\l.take v++[el l v]=l.take (v+1):=by
 have e:el l v=l[v]:=by unfold el;rw[Zi hv];rfl
 rw[e];refine⟨λq=>?_,(Xb hv).symm⟩;obtain⟨j,hj,he⟩:=Qo q;rw[Xt]at hj;rw[List.getElem_take]at he;have:=(List.getElem_inj h).1 he;omega
def acB(a:Yy)(ks:F C):F (J×Jj):=[(17,.map ks (tvs ks)),(1,.cells 39 [jS a.fID,jL (a.fClasses.map Vak),jL (a.fPairs.map Vaz)])]
def acS(a:Yy)(v:J):St:=sx 68 [(1,.ptr 1 0),(3,.mp 17),(19,jL (a.fClasses.map Vak)),(20,jI ((lenM Vak a.fClasses:J):I)),(21,jI ((v:J):I))] (acB a (a.fClasses.take v)) []
def acT(a:Yy)(v:J):St:=sx 68 [(1,.ptr 1 0),(3,.mp 17),(36,jL (a.fPairs.map Vaz)),(37,jI ((lenM Vaz a.fPairs:J):I)),(38,jI ((v:J):I))] (acB a ((a.fPairs.map (·.fKey)).take v)) []
def atc_to(a:Yy)(h:AOk a)(hw:Vfq a<=1073741824):Va1 Zc 121 [.av (Vph a)] [] [] (jI 0) [] []:=by
 have hwa:=Vcv a;simp only[wStr]at hwa;have l1:=Vb9 (w:=wStr) Ves a.fClasses;have l2:=Vb9 (w:=Vhi) Vfp a.fPairs;have q1:=Va6 Vak a.fClasses;have q2:=Va6 Vaz a.fPairs;have kN:=Vdl a.fID kv;have hc:Zp (!eqs a.fID ⟨#[]⟩) (!namA a.fID) B=false:=by
  rcases h.id with e|e
  ·rw[e];rfl
  ·rw[e];cases(!eqs a.fID ⟨#[]⟩) <;>rfl
 have i1:Zh (((lenM Vak a.fClasses:J):I)>32)=false:=dF (by have:=h.lc;omega);have i2:Zh (((lenM Vaz a.fPairs:J):I)>32)=false:=dF (by have:=h.lp;omega);refine bG Tryz.func121 ?_;refine gO (tn 6<|kj (!eqs a.fID ⟨#[]⟩) (j7 kN m5) z<|kb hc iq) ?_;refine LP (n:=a.fClasses.length+1) (λN M S=>∃ v:J,v<=a.fClasses.length/\a.fClasses.length-v<N/\M=()/\S=acS a v) kx ⟨0,kv,kv,rfl,rfl⟩ (WK kx) ?_;rintro n0 M S ⟨v,hv,hF0,rfl,rfl⟩;obtain⟨n0,rfl⟩:∃ k,n0=k+1:=⟨n0-1,kv⟩
 by_cases h1:v<a.fClasses.length
 ·have hd:Zh (((v:J):I)<((lenM Vak a.fClasses:J):I))=true:=dT kv;have hev:=Vi3 a.fClasses v h1;have hce:=Vpx (w:=wStr) (l:=a.fClasses) (i:=v) h1;simp only[wStr]at hce;have kE:=Vdl (el a.fClasses v) kv;have n1:(!namA (el a.fClasses v))=false:=by rw[h.cl _ (Vbk h1)];rfl
  obtain⟨t1,t2⟩:=take_no h.cn h1;have lk:=look_no t1;obtain⟨p1,p2⟩:=put_no t1;have hwr:=wrE (((v:J):I)+1) ((v+1:J):I) kv;refine gO (m0 hd<|ke hev<|m8 kE<|m0 n1<|tn 2<|kl lk<|kb (b:=B) (d:=B) rfl<|t8 hwr m5) ?_;exact AG (m:=n0) ⟨v+1,kv,kv,rfl,rfl⟩ (wtr (WK kx) (weak_mp (p1.trans t2) (p2.trans (by rw[t2])))) kx (Zl _)
 ·have hd:Zh (((v:J):I)<((lenM Vak a.fClasses:J):I))=false:=dF kv;refine gO (m0 hd z) ?_;refine Dr iq kx ?_;refine LP (n:=a.fPairs.length+1) (λN M S=>∃ v:J,v<=a.fPairs.length/\a.fPairs.length-v<N/\M=()/\S=acT a v) kx ⟨0,kv,kv,rfl,rfl⟩ (WK kx) ?_;rintro n0 M S ⟨v,hv,hF0,rfl,rfl⟩;obtain⟨n0,rfl⟩:∃ k,n0=k+1:=⟨n0-1,kv⟩
  by_cases h1:v<a.fPairs.length
  ·have hd:Zh (((v:J):I)<((lenM Vaz a.fPairs:J):I))=true:=dT kv;have hev:=Vkb a.fPairs v h1;have hce:=Vpx (w:=Vhi) (l:=a.fPairs) (i:=v) h1;simp only[Vhi,wStr]at hce;have kE:=Vdl (el a.fPairs v).fKey kv;have kV:=clnG_to (el a.fPairs v).fValue kv;have hp:=h.pr _ (Vbk h1);have n1:(!namA (el a.fPairs v).fKey)=false:=by rw[hp.1];rfl
   have n2:(!clnG (el a.fPairs v).fValue)=false:=by rw[hp.2];rfl
   have hke:el (a.fPairs.map (·.fKey)) v=(el a.fPairs v).fKey:=by
    unfold el;rw[Yd,Zi h1];rfl
   obtain⟨t1,t2⟩:=take_no h.pn (v:=v) (by rw[Yw];exact h1);rw[hke]at t1 t2;have lk:=look_no t1;obtain⟨p1,p2⟩:=put_no t1;have hwr:=wrE (((v:J):I)+1) ((v+1:J):I) kv;refine gO (m0 hd<|ke hev<|vq kE<|m0 n1<|j7 kV<|m0 n2<|tn 3<|kl lk<|kb (b:=B) (d:=B) rfl<|yq hwr m5) ?_;exact AG (m:=n0) ⟨v+1,kv,kv,rfl,rfl⟩ (wtr (WK kx) (weak_mp (p1.trans t2) (p2.trans (by rw[t2])))) kx (Zl _)
  ·have hd:Zh (((v:J):I)<((lenM Vaz a.fPairs:J):I))=false:=dF kv;refine gO (m0 hd z) ?_;refine Dr (o9 i1<|m0 i1<|m0 i1<|m0 i1<|m0 i1<|kb i2 m5) kx ?_;exact eN
end
section
open Go Go.Eng
def NR(x:A):Prop:=Ie (λy=>refB y.fKind=B) x
def LkP(y:A):Prop:=y.fKind=9->∀ z∈y.fKids,NR z
def LK(x:A):Prop:=Ie LkP x
def Lk0(y:A):Prop:=y.fKind=9->y.fKids=[]
def NR.leaf{x:A}(h:refB x.fKind=B)(hz:x.fKids=[]):NR x:=Vad.2 ⟨h,λy hy=>by rw[hz]at hy;cases hy⟩
def LK.leaf{x:A}(hz:x.fKids=[]):LK x:=Vad.2 ⟨λ_ z hz'=>by rw[hz]at hz';(cases hz'),λy hy=>by rw[hz]at hy;cases hy⟩
section
variable {els:F Zu} {o m:J}
def nsX_all{p:A->Prop}(Nn:Prop)(h1:∀ c n,(c=⟨#[42]⟩\/c=⟨#[95]⟩\/c=⟨#[126]⟩)->0<n->p (txI (repB c n)))(h2:∀ k l,(k=6\/k=7\/k=8)->l≠[]->(Nn->NC l)->p (prI k l))(h:NsG els o m)(hN:Nn->PsN (pcsG els o m))(hp:∀ v,v<m->isPh (el els (o+v))=K->p (phI v))(hq:∀ v,v<m->isPh (el els (o+v))=B->isrP (el els (o+v)).fpiece=B->p (VE els o v)):
  (∀x∈nsX (pcsG els o m),Ie p x)/\(Nn->NC (nsX (pcsG els o m))):=by
 have hm:=h.mm;have hl:=Vhv els o m;have hP:∀ v,v<(pcsG els o m).length->isrP (el (pcsG els o m) v)=B->Vf9 (el (pcsG els o m) v)=K->Ie p (el (pcsG els o m) v).fInline:=λv hv hr hk=>by
  rw[Vj2 els o m v kv]at hr ⊢;rw[Vp5]at hr;cases hp':isPh (el els (o+v))with
  |true=>
   have e:(pcG v (el els (o+v))).fInline=phI v:=by unfold pcG;rw[hp'];rfl
   rw[e,Vad];exact⟨hp v kv hp',λy hy=>by cases hy⟩
  |false=>
   have e:(pcG v (el els (o+v))).fInline=VE els o v:=by unfold pcG;rw[hp'];rfl
   rw[e,Vad,Vl8 h kv hp'];exact⟨hq v kv hp' hr,λy hy=>by cases hy⟩
 exact⟨(mtR_pt (PTi p Nn h1 h2) (pcsG els o m) kv hP hN).2,λq=>mtR_nc (PTi p Nn h1 h2) q (pcsG els o m) kv hP hN⟩
def nstG_NR(h:NsG els o m)(hV:∀ k,k<m->NR (VE els o k)):∀ x∈nstG els o m,NR x:=by
 have hm:=h.mm;have h1:=(nsX_all (p:=λy=>refB y.fKind=B) False (λc n _ _=>rfl) (λk l hk _ _=>by rcases hk with rfl|rfl|rfl <;>rfl) h False.elim (λv _ _=>rfl) (λv hv _ _=>(Vad.1 (hV v hv)).1)).1;have h2:=Voz (p:=λy=>refB y.fKind=B) (λx y _ _ hx _=>hx) (λx hx=>hx) _ h1;have h3:=(Vnf h).1;intro x hx;obtain⟨q,hq,rfl⟩:=Yq.1 hx;have key:∀ q:A,Ie (PhP m) q->Ie (λy=>refB y.fKind=B) q->NR (rsT (VE els o) q):=Vbn λq ih a1 a2=>by
  have b1:=Vad.1 a1;have b2:=Vad.1 a2
  by_cases hk:q.fKind= -1
  ·obtain⟨k,k1,k2⟩:=b1.1.1 hk;rw[Vqj _ hk,k2,Vbr kv];exact hV k k1
  ·rw[Vqk _ hk];refine Vad.2 ⟨b2.1,λy hy=>?_⟩;obtain⟨z,hz,rfl⟩:=Yq.1 hy;exact ih z hz (b1.2 z hz) (b2.2 z hz)
 exact key q (h3 q hq) (h2 q hq)
def nstG_LK(h:NsG els o m)(hV:∀ k,k<m->LK (VE els o k)):∀ x∈nstG els o m,LK x:=by
 have hm:=h.mm;have h1:=(nsX_all (p:=Lk0) False (λc n _ _ e=>rfl) (λk l hk _ _ e=>by have e:k=9:=e;omega) h False.elim (λv _ _ e=>rfl) (λv hv hp _ e=>Vl8 h hv hp)).1;have h2:=Voz (p:=Lk0) (λx y hx _ _ _ e=>by have e:x.fKind=9:=e;omega) (λx hx e=>by have e:x.fKind=9:=e;show mgD x.fKids=[];rw[hx e];rfl) _ h1;have h3:=(Vnf h).1;intro x hx;obtain⟨q,hq,rfl⟩:=Yq.1 hx;have key:∀ q:A,Ie (PhP m) q->Ie Lk0 q->LK (rsT (VE els o) q):=Vbn λq ih a1 a2=>by
  have b1:=Vad.1 a1;have b2:=Vad.1 a2
  by_cases hk:q.fKind= -1
  ·obtain⟨k,k1,k2⟩:=b1.1.1 hk;rw[Vqj _ hk,k2,Vbr kv];exact hV k k1
  ·rw[Vqk _ hk];refine Vad.2 ⟨λe z hz=>?_,λy hy=>?_⟩
   ·have e:q.fKind=9:=e;have hz:z∈q.fKids.map (rsT (VE els o)):=hz;rw[b2.1 e]at hz;cases hz
   ·obtain⟨z,hz,rfl⟩:=Yq.1 hy;exact ih z hz (b1.2 z hz) (b2.2 z hz)
 exact key q (h3 q hq) (h2 q hq)
end
def Vg1:∀ {l:F A} {p:I} {y:A},y∈ibK p l->∃ x∈l,y=ibI x
 |[],_,y,h=>by rw[ibK]at h;cases h
 | x::l,p,y,h=>by
  rw[ibK]at h;cases hs:skB p x with
  |true=>
   rw[hs,Zf]at h;obtain⟨z,hz,e⟩:=Vg1 h;exact⟨z,Xc _ hz,e⟩
  |false=>
   rw[hs,Za]at h;rcases Ys.1 h with h|h
   ·exact⟨x,ku,h⟩
   ·obtain⟨z,hz,e⟩:=Vg1 h;exact⟨z,Xc _ hz,e⟩
def ibI_NR:∀ x,NR x->NR (ibI x):=Vbn λx ih hx=>by
 have h:=Vad.1 hx;rw[Vlk];refine Vad.2 ⟨h.1,λy hy=>?_⟩;obtain⟨z,hz,rfl⟩:=Vg1 hy;exact ih z hz (h.2 z hz)
def ibI_LK:∀ x,LK x->LK (ibI x):=Vbn λx ih hx=>by
 have h:=Vad.1 hx;rw[Vlk];refine Vad.2 ⟨λe y hy=>?_,λy hy=>?_⟩
 ·obtain⟨z,hz,rfl⟩:=Vg1 hy;exact ibI_NR z (h.1 e z hz)
 ·obtain⟨z,hz,rfl⟩:=Vg1 hy;exact ih z hz (h.2 z hz)
def mem_obT:∀(n:J){l:F A}{y:A},y∈obT n l->y∈l
 |0,l,y,h=>h
 | n+1,l,y,h=>by
  rw[obT]at h;cases c1:Zh (0<l.length)with
  |false=>rw[c1]at h;exact h
  |true=>
   rw[c1,Zf]at h;cases c2:isBk (el l (l.length-1))with
   |false=>rw[c2]at h;exact h
   |true=>rw[c2,Zf]at h;exact Yi _ (mem_obT n h)
def mem_obM{l:F A}{y:A}(h:y∈obM l):y∈l:=by
 have h1:=mem_obT _ h;unfold obH at h1;cases hc:Zp (Zh (0<l.length)) ((el l 0).fKind==2) B with
 |true=>rw[hc]at h1;exact I5 h1
 |false=>rw[hc]at h1;exact h1
def ephI_n9(s:C)(i:I):(ephI s i).1≠9:=by
 unfold ephI;cases hpxB (ephR s i) eEMP with
 |true=>exact(by decide:(6:I)≠9)
 | false=>
  cases hpxB (ephR s i) eSTG with
  |true=>exact(by decide:(7:I)≠9)
  |false=>
   cases hpxB (ephR s i) eSTK with
   |true=>exact(by decide:(8:I)≠9)
   |false=>exact(by decide:(0:I)≠9)
def bkG_9(s:C)(refs:I)(b:Zu)(ks:F A)(i:I)(h:(bkG s refs b ks i).1.fKind=9)(hy:(bkG s refs b ks i).2.2=K):refs<=b.freferences:=by
 unfold bkG bkT bkN at h hy;cases h1:(tlM s i).2.2.2.2 with
 | true=>
  rw[h1,Zf]at h hy;cases h2:b.fimage with
  |true=>
   rw[h2]at h hy;simp only[Je,Za]at h hy;cases h3:((prsA s (tlM s i).2.2.2.1).2.2==0)with
   |true=>rw[h3]at h;exact Z1 (show(10:I)=9 from h) gj
   |false=>rw[h3]at h;exact Z1 (show(10:I)=9 from h) gj
  |false=>
   rw[h2]at h hy;simp only[Ja,Zf]at h hy;cases h3:Zh (refs>b.freferences)with
   |true=>rw[h3]at hy;cases hy
   |false=>have:=Zk h3;omega
 | false=>
  rw[h1,Za]at h hy;cases h2:b.fimage with
  |true=>rw[h2]at hy;cases hy
  | false=>
   rw[h2,Za]at h hy;cases h3:((ephI s i).1 !=0)with
   |true=>rw[h3]at h;exact Z1 (show(ephI s i).1=9 from h) (ephI_n9 s i)
   |false=>
    rw[h3,Za]at h hy;cases h4:Zp ((prsA s i).2.2 !=0) K (empA (prsA s i).1)with
    |true=>rw[h4]at hy;cases hy
    |false=>rw[h4]at h;exact Z1 (show(11:I)=9 from h) gj
structure RdL (a:RS):Prop where
 lk:∀ e∈a.els,LK e.fpiece.fInline
 le:∀ f∈a.brs,(el a.els f.toNat).freferences<=a.refs
 nr:∀ f∈a.brs,(el a.els f.toNat).freferences=a.refs->∀ v,f.toNat<v->v<a.els.length->NR (el a.els v).fpiece.fInline
def Vhe{α:Type}[Jv α]{l k:F α}{v:J}(h:v<l.length):el (l++k) v=el l v:=by
 unfold el;rw[Yk h]
def Vnn{α:Type}[Jv α](l:F α)(x:α):el (l++[x]) l.length=x:=by
 unfold el;rw[Qs (Zm _)];simp
def RdL.snoc{a:RS}(hB:∀ f∈a.brs,0<=f/\f<a.els.length)(h:RdL a){i:I}{e:Zu}{bs:F I}{r:I}(he:LK e.fpiece.fInline)(hr:a.refs<=r)(hn:r=a.refs->NR e.fpiece.fInline)(hb:bs=a.brs\/(bs=a.brs++[((a.els.length:J):I)]/\e.freferences<=r)):RdL ⟨i,a.els++[e],bs,r⟩:=by
 have old:∀ f∈a.brs,(el (a.els++[e]) f.toNat).freferences=(el a.els f.toNat).freferences:=λf hf=>by
  have:=hB f hf;rw[Vhe kv]
 have oldn:∀ f∈a.brs,(el (a.els++[e]) f.toNat).freferences=r->∀ v,f.toNat<v->v<(a.els++[e]).length->NR (el (a.els++[e]) v).fpiece.fInline:=λf hf q v h1 h2=>by
  rw[old f hf]at q;have h3:=h.le f hf;have h4:r=a.refs:=kv;rw[Zz,Yn]at h2
  by_cases hv:v<a.els.length
  ·rw[Vhe hv];exact h.nr f hf kv v h1 hv
  ·obtain rfl:v=a.els.length:=kv;rw[Vnn];exact hn h4
 refine⟨λx hx=>?_,λf hf=>?_,λf hf q v h1 h2=>?_⟩
 ·rcases Z0.1 hx with hx|hx
  ·exact h.lk x hx
  ·rw[Zv.1 hx];exact he
 ·show(el (a.els++[e]) f.toNat).freferences<=r;rcases hb with rfl|⟨rfl,hq⟩
  ·rw[old f hf];have:=h.le f hf;omega
  ·rcases Z0.1 hf with hf|hf
   ·rw[old f hf];have:=h.le f hf;omega
   ·have e1:=Zv.1 hf;rw[e1,Z9,Vnn];exact hq
 ·rcases hb with rfl|⟨rfl,hq⟩
  ·exact oldn f hf q v h1 h2
  ·rcases Z0.1 hf with hf|hf
   ·exact oldn f hf q v h1 h2
   ·have e1:=Zv.1 hf;rw[e1,Z9]at h1;rw[Zz,Yn]at h2;omega
def pceG_k1(s:C)(ka:F I)(la:F (F I))(kd:F I)(ld:F (F I))(i:I):(pceG s ka la kd ld i).1.fKind=1->(pceG s ka la kd ld i).1.fInline.fKind=0:=by
 let Q:Yu×Yv->Prop:=λr=>r.1.fKind=1->r.1.fInline.fKind=0
 have kP:∀ {b:Yv} {x y:Yu×Yv},Q x->Q y->Q (Zp b x y):=λ{b x y} h1 h2=>by cases b;exact h2;exact h1
 have n0:∀(r:Yu×Yv),r.1.fKind=0->Q r:=λr h q=>by rw[h]at q;exact Z1 q gj
 have hf:∀(x:A×I)(r:Yu×Yv),Q r->Q (fdR x r):=λx r h=>kP (n0 _ rfl) h
 have hN:Q (nxR s i):=n0 _ rfl;have hs:Q (spR s i):=kP (n0 _ rfl) (hf _ _ hN);have hr:∀ ka va kd vd,Q (runP s ka va kd vd i):=λka va kd vd=>kP (n0 _ rfl) (λ_=>rfl)
 show Q (pceG s ka la kd ld i);refine kP (hf _ _ hN) (kP hs (kP hs (kP (hf _ _ hN) (kP (hf _ _ (hf _ _ hN)) (kP (hf _ _ (n0 _ rfl)) (kP (hf _ _ hN) (kP (hf _ _ hN) (kP (hf _ _ (hf _ _ (λq=>Z1 (show(2:I)=1 from q) gj))) (kP (kP (λq=>Z1 (show(2:I)=1 from q) gj) hN) (kP (λq=>Z1 (show(3:I)=1 from q) gj) (kP (hr _ _ _ _) (kP (hr _ _ _ _) (kP (hr _ _ _ _) hN)))))))))))))
def Vjd{α:Type}[Jv α]{l:F α}{f v:J}{x:α}(h:v≠f):el (l.set f x) v=el l v:=by
 unfold el;rw[I8 (λe=>h e.symm)]
def Vpb{α:Type}[Jv α]{l:F α}{f v:J}(h:v<f):el (l.take f) v=el l v:=by
 unfold el;rw[Jh,Zs h]
def txt_LK(t:C):LK (txtE t).fpiece.fInline/\NR (txtE t).fpiece.fInline:=⟨LK.leaf rfl,NR.leaf rfl rfl⟩
section
variable {s:C} {n:J} {a:RS}
def cls_lk(hs:s.size<=820)(hI:RdI s n a)(hlt:a.i<s.size)(h:RdL a):RdL (clsG s a (a.i+1)):=by
 have hi0:=hI.i0;have hlen:=hI.len;cases hg:a.brs.getLast? with
 |none=>
  have hb:a.brs=[]:=Qt.1 hg;have hc:clsG s a (a.i+1)=⟨a.i+1,a.els++[inE (txI CLO)],[],a.refs⟩:=by unfold clsG;rw[hg]
  rw[hc];exact h.snoc hI.brs (LK.leaf rfl) (Z2 _) (λ_=>NR.leaf rfl rfl) (.inl hb.symm)
 | some f=>
  have hbs:=Vlf hg;have hfm:f∈a.brs:=by rw[hbs];simp
  have hf:=hI.brs f hfm;have hbm:∀ x∈a.brs.dropLast,0<=x/\x<f:=λx hx=>by
   have h1:=hI.asc;rw[hbs,Qf]at h1;exact⟨(hI.brs x (Yi _ hx)).1,h1.2.2 x hx f ku⟩
  obtain⟨N1,N2,N3⟩:=hI.nsg hs (f.toNat+1) (a.els.length-(f.toNat+1)) kv;have hO:=bkG_o s a.refs (el a.els f.toNat) (nstG a.els (f.toNat+1) (a.els.length-(f.toNat+1))) (a.i+1) kv kv;have h9:=bkG_9 s a.refs (el a.els f.toNat) (nstG a.els (f.toNat+1) (a.els.length-(f.toNat+1))) (a.i+1);have hkl:=nstG_LK N1 (λk hk=>h.lk _ (Vbk kv));have hkn:(∀v,f.toNat<v->v<a.els.length->NR (el a.els v).fpiece.fInline)->∀ x∈nstG a.els (f.toNat+1) (a.els.length-(f.toNat+1)),NR x:=λhv=>nstG_NR N1 (λk hk=>hv _ kv kv)
  have hc:clsG s a (a.i+1)=Zp (bkO s a f.toNat (a.i+1)).2.2 (yesE a f.toNat a.brs.dropLast (bkO s a f.toNat (a.i+1))) (noE a f.toNat a.brs.dropLast (a.i+1)):=by unfold clsG;rw[hg]
  rw[hc];obtain⟨r,hr⟩:∃ r,r=bkO s a f.toNat (a.i+1):=⟨_,rfl⟩
  rw[<-hr];unfold bkO at hr;rw[<-hr]at hO h9;generalize nstG a.els (f.toNat+1) (a.els.length-(f.toNat+1))=ks at hkl hkn hO;obtain⟨x,j,ok⟩:=r;cases ok with
  | true=>
   rw[Zf];have hx2:x.fKids=ks:=hO.kids rfl;have h9:x.fKind=9->a.refs<=(el a.els f.toNat).freferences:=λe=>h9 e rfl
   have hle:=h.le f hfm;have htk:(a.els.take f.toNat).length=f.toNat:=by rw[Xt];omega
   have hold:∀ v,v<f.toNat->el (a.els.take f.toNat++[inE x]) v=el a.els v:=λv hv=>by rw[Vhe kv,Vpb hv]
   have hrl:a.refs<=rfc x a.refs:=by
    unfold rfc;cases refB x.fKind with
    |true=>simp only[Zf];omega
    |false=>simp only[Za];omega
   refine⟨λe he=>?_,λg hg=>?_,λg hg q v h1 h2=>?_⟩
   ·rcases Z0.1 he with he|he
    ·exact h.lk e (Qg he)
    ·rw[Zv.1 he]
     show LK x;refine Vad.2 ⟨λe z hz=>?_,λy hy=>by rw[hx2]at hy;exact hkl y hy⟩;rw[hx2]at hz;have:=h9 e;exact hkn (h.nr f hfm kv) z hz
   ·have hgb:=hbm g hg
    show(el (a.els.take f.toNat++[inE x]) g.toNat).freferences<=rfc x a.refs;rw[hold _ kv];have:=h.le g (Yi _ hg);omega
   ·have hgb:=hbm g hg;have q:(el (a.els.take f.toNat++[inE x]) g.toNat).freferences=rfc x a.refs:=q;rw[hold _ kv]at q;have h3:=h.le g (Yi _ hg);have h4:=h.nr g (Yi _ hg) kv;have h2:v<(a.els.take f.toNat++[inE x]).length:=h2;rw[Zz,htk,Yn]at h2
    show NR (el (a.els.take f.toNat++[inE x]) v).fpiece.fInline
    by_cases hv:v<f.toNat
    ·rw[hold v hv];exact h4 v h1 kv
    ·have ev:v=(a.els.take f.toNat).length:=kv;rw[ev,Vnn];have hrf:refB x.fKind=false:=by
      cases hb:refB x.fKind with
      |false=>rfl
      |true=>
       exfalso;have:rfc x a.refs=a.refs+1:=by unfold rfc;rw[hb];rfl
       omega
     exact Vad.2 ⟨hrf,λy hy=>by
      have hy:y∈x.fKids:=hy;rw[hx2]at hy
      exact hkn (λv q1 q2=>h4 v kv q2) y hy⟩
  | false=>
   rw[Za];have hset:RdL ⟨a.i,a.els.set f.toNat (txtE (sgnI (el a.els f.toNat).fimage)),a.brs.dropLast,a.refs⟩:=by
    refine⟨λe he=>?_,λg hg=>?_,λg hg q v h1 h2=>?_⟩
    ·rcases Yx he with he|he
     ·exact h.lk e he
     ·rw[he];exact(txt_LK _).1
    ·have hgb:=hbm g hg
     show(el (a.els.set f.toNat _) g.toNat).freferences<=a.refs;rw[Vjd kv];exact h.le g (Yi _ hg)
    ·have hgb:=hbm g hg;have q:(el (a.els.set f.toNat (txtE (sgnI (el a.els f.toNat).fimage))) g.toNat).freferences=a.refs:=q;rw[Vjd kv]at q;have h2:v<(a.els.set f.toNat (txtE (sgnI (el a.els f.toNat).fimage))).length:=h2;rw[J0]at h2
     show NR (el (a.els.set f.toNat (txtE (sgnI (el a.els f.toNat).fimage))) v).fpiece.fInline
     by_cases hv:v=f.toNat
     ·subst hv;have e:el (a.els.set f.toNat (txtE (sgnI (el a.els f.toNat).fimage))) f.toNat=txtE (sgnI (el a.els f.toNat).fimage):=by
       conv=>lhs;unfold el
       rw[Im kv];rfl
      rw[e];exact(txt_LK _).2
     ·rw[Vjd hv];exact h.nr g (Yi _ hg) q v h1 h2
   exact hset.snoc (λg hg=>by have:=hbm g hg;show 0<=g/\g<(((a.els.set f.toNat (txtE (sgnI (el a.els f.toNat).fimage))).length:J):I);rw[J0];omega) (LK.leaf rfl) (Z2 _) (λ_=>NR.leaf rfl rfl) (.inl rfl)
def step_lk(hs:s.size<=820)(hI:RdI s n a)(hlt:a.i<s.size)(h:RdL a):RdL (pieG s a (pcQ s a.i)):=by
 obtain⟨hp,hw,h3⟩:=pcQ_ok hI hlt;have k1':(pcQ s a.i).fKind=1->(pcQ s a.i).fInline.fKind=0:=pceG_k1 s _ _ _ _ _;obtain⟨p,hpq⟩:∃ p,p=pcQ s a.i:=⟨_,rfl⟩
 rw[<-hpq]at hp hw h3 k1' ⊢;unfold pieG;cases k1:(p.fKind==1)with
 |true=>
  rw[Zf];exact h.snoc hI.brs (LK.leaf hw.kids) (Z2 _) (λ_=>NR.leaf (by show refB p.fInline.fKind=B;rw[k1' (eq_of_beq k1)];rfl) hw.kids) (.inl rfl)
 | false=>
  rw[Za];cases k2:(p.fKind==2)with
  |true=>
   rw[Zf];exact h.snoc hI.brs (LK.leaf rfl) (Z2 _) (λ_=>NR.leaf rfl rfl) (.inr ⟨rfl,Z2 _⟩)
  | false=>
   rw[Za];cases k3:(p.fKind==3)with
   |true=>
    rw[Zf,h3 (eq_of_beq k3)];exact cls_lk hs hI hlt h
   | false=>
    rw[Za];refine h.snoc hI.brs (LK.leaf hw.kids) ?_ (λq=>?_) (.inl rfl)
    ·unfold rfc;cases refB p.fInline.fKind with
     |true=>simp only[Zf];omega
     |false=>simp only[Za];omega
    ·cases hb:refB p.fInline.fKind with
     |false=>exact NR.leaf hb hw.kids
     |true=>
      exfalso;have:rfc p.fInline a.refs=a.refs+1:=by unfold rfc;rw[hb];rfl
      omega
end
def runG_lk{s:C}(hs:s.size<=820):∀(k n:J)(a:RS),RdI s n a->RdL a->RdL (runG s k a)
 |0,n,a,_,h=>h
 |k+1,n,a,hI,h=>by
  rw[runG]
  by_cases hlt:a.i<s.size
  ·rw[Z8 hlt,Zf];exact runG_lk hs k (n+1) _ (Vod hs hI hlt).1 (step_lk hs hI hlt h)
  ·rw[Zo hlt,Za];exact h
def fixG_lk:∀(brs:F I)(els:F Zu),(∀e∈els,LK e.fpiece.fInline)->∀ e∈fixG els brs,LK e.fpiece.fInline
 |[],els,h=>h
 | k::brs,els,h=>fixG_lk brs (fixE els k) (fun e he=>by
   rcases Yx he with he|he
   ·exact h e he
   ·rw[he];exact(txt_LK _).1)
def readM_lk(s:C)(hs:s.size<=820):∀ x∈Vfy s,LK x:=by
 obtain⟨m,hR,_⟩:=Voo hs s.size 0 ⟨0,[],[],0⟩ (RdI_0 s) kv;have hL:RdL (endG s):=runG_lk hs s.size 0 ⟨0,[],[],0⟩ (RdI_0 s) ⟨λe he=>(by cases he),λf hf=>(by cases hf),λf hf=>(by cases hf)⟩;have hX:=Vlr hR _ (Zm _);rw[Xy]at hX;obtain⟨g1,g2,g3⟩:=hX.nsg hs hR (Zm _);have hE:=fixG_lk (endG s).brs (endG s).els hL.lk;have hN:∀ x∈nstG (elsG s) 0 (elsG s).length,LK x:=nstG_LK (g1:NsG (elsG s) 0 (elsG s).length) (λk hk=>hE _ (Vbk (show 0+k<(elsG s).length by rw[Y1];exact hk)));intro x hx;obtain⟨y,hy,rfl⟩:=Vg1 (mem_obM hx);exact ibI_LK y (hN y hy)
def cnd_lk(b c:Yv)(l:F A)(h:∀ x∈l,LK x):∀ x∈(Zp b (([],3):F A×I) (Zp c ([],11) (l,0))).1,LK x:=by
 cases b
 ·cases c
  ·exact h
  ·intro x hx;cases hx
 ·intro x hx;cases hx
def parT_lk(t:C)(hs:t.size<=820):∀ x∈(parT t).1,LK x:=by
 have h:=readM_lk t hs;unfold parT;generalize Vfy t=l at h ⊢;exact cnd_lk _ _ l h
def parM_lk(s:C)(hs:s.size<=820):∀ x∈(parM s).1,LK x:=parT_lk _ (Z6 (Veu _ _) hs)
end
section
open Go Go.Eng
def isT(x:A):Bool:=x.fKind==1
def AdW(l:F A):Prop:=NC l/\NB (l.map isT)
def Wd(x:A):Prop:=Ie (λy=>WI y/\AdW y.fKids) x
def AdW0:AdW []:=⟨Zb,Zb⟩
def Wd.leaf{x:A}(h:WI x)(hz:x.fKids=[]):Wd x:=Vad.2 ⟨⟨h,by rw[hz];exact AdW0⟩,λy hy=>by rw[hz]at hy;cases hy⟩
def Wd.wi{x:A}(h:Wd x):WI x:=(Vad.1 h).1.1
def mgc_cs(x y:A)(q:F A):(mgc x (y::q)={x with fText:=x.fText++y.fText}::q/\x.fKind=1/\y.fKind=1)\/(mgc x (y::q)=x::y::q/\¬ (x.fKind=1/\y.fKind=1)):=by
 unfold mgc;simp only
 split
 ·rename_i hk;exact .inl ⟨rfl,hk⟩
 ·rename_i hk;exact .inr ⟨rfl,hk⟩
def mgc_p(x:A)(r:F A)(hr:NB (r.map isT)):NB ((mgc x r).map isT)/\(NC (x::r)->NC (mgc x r))/\((mgc x r).map isC).head? =O (isC x):=by
 cases r with
 |nil=>exact⟨Zb,λh=>h,rfl⟩
 | cons y q=>
  rcases mgc_cs x y q with⟨e,h1,h2⟩|⟨e,hk⟩
  ·rw[e];have e1:isT {x with fText:=x.fText++y.fText}=isT y:=by show(x.fKind==1)=(y.fKind==1);rw[h1,h2]
   have e2:isC x=false:=by show(x.fKind==4)=B;rw[h1];rfl
   have e3:isC y=false:=by show(y.fKind==4)=B;rw[h2];rfl
   have e4:isC {x with fText:=x.fText++y.fText}=false:=e2;refine⟨by rw[Xm,e1];exact hr,λh=>?_,rfl⟩;unfold NC at h ⊢;rw[Xm,Xm,e3]at h;rw[Xm,e4];exact(Veq [] _).2 ⟨Zb,((Veq [isC x] _).1 h).2⟩
  ·rw[e];exact⟨⟨λh=>hk ⟨eq_of_beq h.1,eq_of_beq h.2⟩,hr⟩,λh=>h,rfl⟩
def Vr3:∀ l:F A,NB ((mgL l).map isT)
 |[]=>trivial
 |x::l=>(mgc_p x (mgL l) (Vr3 l)).1
def mgL_hd:∀ l:F A,((mgL l).map isC).head? =(l.map isC).head?
 |[]=>rfl
 |x::l=>(mgc_p x (mgL l) (Vr3 l)).2.2
def mgL_nc:∀ l:F A,NC l->NC (mgL l)
 |[],_=>trivial
 | x::l,h=>by
  have h1:NC l:=by
   unfold NC at h ⊢;cases l with
   |nil=>trivial
   |cons y q=>exact h.2
  refine(mgc_p x (mgL l) (Vr3 l)).2.1 ?_;have ih:=mgL_nc l h1;have hh:=mgL_hd l;unfold NC at h ih ⊢;cases hm:mgL l with
  |nil=>trivial
  | cons y q=>
   rw[hm]at ih hh;cases l with
   |nil=>cases hm
   |cons z r=>
    have e:isC y=isC z:=by simpa using hh
    exact⟨by rw[e];exact h.1,ih⟩
def mgL_ne{l:F A}(h:l≠[]):mgL l≠[]:=by
 cases l with
 |nil=>exact Z1 rfl h
 |cons x l=>
  show mgc x (mgL l)≠[];unfold mgc;cases mgL l with
  |nil=>simp
  |cons y q=>simp only;split <;>simp
def mgI_k(x:A):(mgI x).fKind=x.fKind:=by rw[Vng];rfl
def mgD_nc{l:F A}(h:NC l):NC (mgD l):=by
 refine mgL_nc _ ?_;unfold NC at h ⊢;rw[Il,show l.map (isC ∘ mgI)=l.map isC from Qn (λx _=>by show((mgI x).fKind==4)=_;rw[mgI_k];rfl)];exact h
def mgI_nt:∀ x,Ie (λy=>NB (y.fKids.map isT)) (mgI x):=Vbn λx ih=>by
 rw[Vng];refine Vad.2 ⟨Vr3 _,λy hy=>?_⟩;refine Vl9 (p:=λy=>NB (y.fKids.map isT)) (λx y _ _ hx _=>hx) (x.fKids.map mgI) (λz hz=>?_) y hy;obtain⟨w,hw,rfl⟩:=Yq.1 hz;exact ih w hw
def mgD_nt(l:F A):∀ x∈mgD l,Ie (λy=>NB (y.fKids.map isT)) x:=
 Vl9 (p:=λy=>NB (y.fKids.map isT)) (λx y _ _ hx _=>hx) (l.map mgI) (λz hz=>by
  obtain⟨w,_,rfl⟩:=Yq.1 hz
  exact mgI_nt w)
def EW(e:Zu):Prop:=(e.fkind=1/\isrP e.fpiece=K)\/(e.fkind=0/\e.fpiece.fKind=0/\Wd e.fpiece.fInline)
def isCe(e:Zu):Bool:=Zp (e.fkind==0) (isC e.fpiece.fInline) B
def rep_cl{c:C}{n:J}(hc:c=⟨#[42]⟩\/c=⟨#[95]⟩\/c=⟨#[126]⟩):CL (repB c n):=by
 have key:∀(b:Xg)(n:J),∀x∈Q3 [b] n,x=b:=by
  intro b n
  induction n with
  |zero=>intro x hx;simp[Q3]at hx
  |succ n ih=>
   intro x hx;rw[Q3]at hx;rcases Z0.1 hx with q|q
   ·exact Zv.1 q
   ·exact ih x q
 have h2:∀ b:Xg,32<=b.toNat/\b.toNat<127->CL (repB ⟨#[b]⟩ n):=λb hb=>CL.as λk hk=>by
  have hk2:k<(Q3 [b] n).length:=by
   rw[repB_sz]at hk;rw[Lib.repeatL_length];exact hk
  have:Y (repB ⟨#[b]⟩ n) k=b.toNat:=by
   unfold Y repB;rw[Zn,List.getElem?_toArray]
   show(((Q3 [b] n)[k]?).getD 0).toNat=_;rw[Zi hk2,key b n _ (Ic hk2)];rfl
  rw[this];exact hb
 rcases hc with rfl|rfl|rfl <;>exact h2 _ gj
def NB_at:∀ {l:F Yv} {j:J},NB l->j+1<l.length->¬ (l.getD j B=K/\l.getD (j+1) B=K)
 |[],j,_,h=>by simp at h
 |[a],j,_,h=>by simp at h
 |a::b::l,0,h,_=>by simpa using h.1
 |a::b::l,j+1,h,hj=>by
  have:=NB_at (l:=b::l) (j:=j) h.2 (by simpa using hj);simpa using this
section
variable {els:F Zu} {o m:J}
def EW.code{v:J}{e:Zu}(h:EW e):isCp (pcG v e)=isCe e/\(isrP (pcG v e)=K\/Vf9 (pcG v e)=K):=by
 unfold isCp isCe;rw[Vp5];rcases h with⟨a,b⟩|⟨a,b,c⟩
 ·rw[b,a];exact⟨rfl,.inl rfl⟩
 ·have hr:isrP e.fpiece=false:=by unfold isrP;rw[b];rfl
  rw[hr,a];cases hp:isPh e with
  | true=>
   have e1:(pcG v e).fInline=phI v:=by unfold pcG;rw[hp];rfl
   have e2:(pcG v e).fKind=0:=by unfold pcG;rw[hp];exact b
   rw[e1];refine⟨?_,.inr ?_⟩
   ·unfold isPh at hp;rw[a]at hp;have hp:Zh (((e.fpiece.fInline.fKids.length:J):I)>0)=true:=hp;have hp:=Zq hp;have:=c.wi.hk (λe=>by rw[e]at hp;simp at hp)
    show((-1:I)==4)=(e.fpiece.fInline.fKind==4)
    rw[show(e.fpiece.fInline.fKind==4)=B by simpa using(by omega:¬ e.fpiece.fInline.fKind=4)];rfl
   ·unfold Vf9;rw[e1,e2];rfl
  | false=>
   have e1:pcG v e=e.fpiece:=by unfold pcG;rw[hp];rfl
   rw[e1];refine⟨rfl,.inr ?_⟩;unfold Vf9;rw[b]
   by_cases hk:e.fpiece.fInline.fKind=1
   ·obtain⟨t,ht,h0,_⟩:=c.wi.t1 hk;rw[ht]
    show(!eqs t ⟨#[]⟩)=K;cases hq:eqs t ⟨#[]⟩with
    |false=>rfl
    |true=>have:=eqs_sz hq;omega
   ·rw[show(e.fpiece.fInline.fKind !=1)=K from Yt.2 hk];rfl
def nst_psn(hE:∀ k,k<m->EW (el els (o+k)))(hb:∀ k,k+1<m->¬ (isCe (el els (o+k))=K/\isCe (el els (o+(k+1)))=K)):PsN (pcsG els o m):=by
 have hl:=Vhv els o m;refine⟨λv hv=>?_,λv hv=>?_⟩
 ·rw[Vj2 els o m v kv];exact(hE v kv).code.2
 ·rw[Vj2 els o m v kv,Vj2 els o m (v+1) kv,(hE v kv).code.1,(hE (v+1) kv).code.1];exact hb v kv
def nstG_WD(h:NsG els o m)(hE:∀ k,k<m->EW (el els (o+k)))(hb:∀ k,k+1<m->¬ (isCe (el els (o+k))=K/\isCe (el els (o+(k+1)))=K)):(∀x∈nstG els o m,Wd x)/\AdW (nstG els o m):=by
 have hm:=h.mm;have hV:∀ k,k<m->isPh (el els (o+k))=K->Wd (VE els o k)/\(VE els o k).fKids≠[]:=λk hk hp=>by
  unfold isPh at hp;rcases hE k hk with⟨a,_⟩|⟨a,b,c⟩
  ·rw[a]at hp;cases hp
  ·rw[a]at hp;have hp:Zh ((((el els (o+k)).fpiece.fInline.fKids.length:J):I)>0)=true:=hp;have hp:=Zq hp;exact⟨c,λe=>(by have e:(el els (o+k)).fpiece.fInline.fKids=[]:=e;rw[e]at hp;simp at hp)⟩
 let p:A->Prop:=λy=>(WI y\/∃ k,k<m/\isPh (el els (o+k))=K/\y=phI k)/\NC y.fKids
 have p1:∀ {y:A},p y->y.fKind≠ -1->WI y:=λ{y} hy hk=>by
  rcases hy.1 with q|⟨k,_,_,rfl⟩
  ·exact q
  ·exact Z1 rfl hk
 obtain⟨h1,h1n⟩:=nsX_all (p:=p) Z5 (λc n hc hn=>⟨.inl (.tx 1 _ (.inl rfl) (rep_pos hc hn) (rep_cl hc)),Zb⟩) (λk l hk hz hc=>⟨.inl (.em k l hk hz),hc Zb⟩) h (λ_=>nst_psn hE hb) (λv hv hp=>⟨.inr ⟨v,hv,hp,rfl⟩,Zb⟩)
  (fun v hv hp hr=>by
   rcases hE v hv with⟨_,b⟩|⟨a,b,c⟩
   ·rw[b]at hr;cases hr
   ·exact⟨.inl c.wi,(Vad.1 c).1.2.1⟩)
 have h2:=Voz (p:=p) (λx y hx hy a b=>by
  obtain⟨t,rfl,t1,t2⟩:=(p1 a kv).t1 hx;obtain⟨u,rfl,u1,u2⟩:=(p1 b kv).t1 hy
  exact⟨.inl (.tx 1 (t++u) (.inl rfl) (by rw[Yo];omega) (t2.ap u2)),Zb⟩) (λx hx=>by
  refine⟨?_,mgD_nc hx.2⟩;rcases hx.1 with q|⟨k,k1,k2,rfl⟩
  ·exact .inl (q.kd (λe=>by rw[e];rfl) (λe=>mgL_ne (by simpa using e)))
  ·exact .inr ⟨k,k1,k2,rfl⟩) _ h1
 have h3:=(Vnf h).1;have h4:=mgD_nt (nsX (pcsG els o m))
 -- what is put back has kids
 have hph:∀ q:A,Ie (PhP m) q->Ie p q->q.fKind= -1->∃ k,k<m/\isPh (el els (o+k))=K/\rsT (VE els o) q=VE els o k:=λq a1 a2 hk=>by
  rcases(Vad.1 a2).1.1 with w|⟨k,k1,k2,rfl⟩
  ·have:=w.kd1;omega
  ·exact⟨k,k1,k2,by rw[Vqj _ hk,show itoN (phI k).fText=k from Vbr kv]⟩
 have hkd:∀ q:A,Ie (PhP m) q->Ie p q->isC (rsT (VE els o) q)=isC q/\isT (rsT (VE els o) q)=isT q:=λq a1 a2=>by
  by_cases hk:q.fKind= -1
  ·obtain⟨k,k1,k2,e⟩:=hph q a1 a2 hk;have:=((hV k k1 k2).1.wi).hk (hV k k1 k2).2;unfold isC isT;rw[e,hk,show((VE els o k).fKind==4)=B by simpa using(by omega:¬ (VE els o k).fKind=4),show((VE els o k).fKind==1)=B by simpa using(by omega:¬ (VE els o k).fKind=1)];exact⟨rfl,rfl⟩
  ·rw[Vqk _ hk];exact⟨rfl,rfl⟩
 have hmap:∀ l:F A,(∀q∈l,Ie (PhP m) q/\Ie p q)->NC l->NB (l.map isT)->AdW (l.map (rsT (VE els o))):=λl hl a b=>by
  refine⟨?_,?_⟩
  ·unfold NC at a ⊢;rw[Il,show l.map (isC ∘ rsT (VE els o))=l.map isC from Qn (λq hq=>(hkd q (hl q hq).1 (hl q hq).2).1)];exact a
  ·rw[Il,show l.map (isT ∘ rsT (VE els o))=l.map isT from Qn (λq hq=>(hkd q (hl q hq).1 (hl q hq).2).2)];exact b
 have key:∀ q:A,Ie (PhP m) q->Ie p q->Ie (λy=>NB (y.fKids.map isT)) q->Wd (rsT (VE els o) q):=Vbn λq ih a1 a2 a3=>by
  have b1:=Vad.1 a1;have b2:=Vad.1 a2;have b3:=Vad.1 a3
  by_cases hk:q.fKind= -1
  ·obtain⟨k,k1,k2,e⟩:=hph q a1 a2 hk;rw[e];exact(hV k k1 k2).1
  ·rw[Vqk _ hk];refine Vad.2 ⟨⟨(p1 b2.1 hk).kd (λe=>by rw[e];rfl) (λe=>by simpa using e),hmap _ (λz hz=>⟨b1.2 z hz,b2.2 z hz⟩) b2.1.2 b3.1⟩,λy hy=>?_⟩;obtain⟨z,hz,rfl⟩:=Yq.1 hy;exact ih z hz (b1.2 z hz) (b2.2 z hz) (b3.2 z hz)
 refine⟨λx hx=>?_,hmap _ (λq hq=>⟨h3 q hq,h2 q hq⟩) (mgD_nc (h1n Zb)) (Vr3 _)⟩;obtain⟨q,hq,rfl⟩:=Yq.1 hx;exact key q (h3 q hq) (h2 q hq) (h4 q hq)
end
def AdK(p k:I):Prop:=(k=1->p≠1)/\(k=4->p≠4)/\(k=2->p≠2/\p≠3)
def Adj:I->F A->Prop
 |_,[]=>Z5
 |p,x::l=>AdK p x.fKind/\Adj x.fKind l
def WF(x:A):Prop:=Ie (λy=>WI y/\Adj 0 y.fKids) x
def adj_ib:∀(l:F A)(p q:I),AdW l->(∀x r,l=x::r->(x.fKind=1->p≠1)/\(x.fKind=4->p≠4))->(q=p\/(p=2/\q=3))->Adj q (ibK p l)
 |[],p,q,_,_,_=>by rw[ibK];trivial
 | x::l,p,q,hA,hp,hq=>by
  obtain⟨h1,h2⟩:=hA;have hx:=hp x l rfl;have hA2:AdW l:=by
   unfold AdW NC at *
   cases l with
   |nil=>exact AdW0
   |cons y r=>exact⟨h1.2,h2.2⟩
  have hn:∀ y r,l=y::r->(y.fKind=1->x.fKind≠1)/\(y.fKind=4->x.fKind≠4):=λy r e=>by
   subst e;exact⟨λe1 e2=>h2.1 ⟨Xo.2 e2,Xo.2 e1⟩,λe1 e2=>h1.1 ⟨Xo.2 e2,Xo.2 e1⟩⟩
  rw[ibK];cases hs:skB p x with
  |true=>
   rw[Zf];unfold skB at hs;obtain⟨s1,s2⟩:=Va9 hs;have s1:=eq_of_beq s1;refine adj_ib l x.fKind q hA2 hn ?_;cases hp2:(p==2)with
   |true=>have:=eq_of_beq hp2;omega
   |false=>rw[hp2,Za]at s2;have:=eq_of_beq s2;omega
  |false=>
   rw[Za];have hk:(ibI x).fKind=x.fKind:=by rw[Vlk]
   refine⟨?_,by rw[hk];exact adj_ib l x.fKind x.fKind hA2 hn (.inl rfl)⟩;rw[hk];refine⟨λe=>?_,λe=>?_,λe=>?_⟩
   ·have:=hx.1 e;omega
   ·have:=hx.2 e;omega
   ·unfold skB at hs;rw[e,show((2:I)==2)=K from rfl,Zf]at hs;obtain⟨s1,s2⟩:=Va8 hs;have:=Y2 s1;have:=Y2 s2;omega
def adj_ib0{l:F A}(h:AdW l):Adj 0 (ibK 0 l):=adj_ib l 0 0 h (λx r _=>⟨λ_=>by decide,λ_=>by decide⟩) (.inl rfl)
def ibK_ne{l:F A}(h:l≠[]):ibK 0 l≠[]:=by
 cases l with
 |nil=>exact Z1 rfl h
 |cons x l=>
  rw[ibK];have:skB 0 x=false:=by unfold skB;cases((x.fKind:I)==2) <;>rfl
  rw[this];simp
def ibI_WF:∀ x,Wd x->WF (ibI x):=Vbn λx ih hx=>by
 have h:=Vad.1 hx;rw[Vlk];refine Vad.2 ⟨⟨h.1.1.kd (λe=>by rw[e,ibK]) ibK_ne,adj_ib0 h.1.2⟩,λy hy=>?_⟩;obtain⟨z,hz,rfl⟩:=Vg1 hy;exact ih z hz (h.2 z hz)
def adj_0{p:I}{l:F A}(h:Adj p l):Adj 0 l:=by
 cases l with
 |nil=>trivial
 |cons x l=>exact⟨⟨λ_=>by decide,λ_=>by decide,λ_=>⟨gj,gj⟩⟩,h.2⟩
def adj_dl:∀ {l:F A} {p:I},Adj p l->Adj p l.dropLast
 |[],_,_=>trivial
 |[x],_,_=>trivial
 |x::y::l,p,h=>⟨h.1,adj_dl (l:=y::l) h.2⟩
structure LnW (l:F A):Prop where
 wf:∀ x∈l,WF x
 ad:Adj 0 l
 hd:∀ x,l.head? =O x->x.fKind≠2
 lt:∀ x,l.getLast? =O x->x.fKind≠2/\x.fKind≠3
def obT_w2:∀(n:J)(l:F A),l.length<=n->Adj 0 l->(∀x,l.head? =O x->x.fKind≠2)->Adj 0 (obT n l)/\(∀x,(obT n l).head? =O x->x.fKind≠2)/\∀ x,(obT n l).getLast? =O x->x.fKind≠2/\x.fKind≠3
 |0,l,hn,_,_=>by
  obtain rfl:=Ia.1 (by omega:l.length=0);exact⟨Zb,λx hx=>(by cases hx),λx hx=>(by cases hx)⟩
 | n+1,l,hn,h1,h2=>by
  rw[obT]
  by_cases h0:0<l.length
  ·rw[Z8 h0,Zf];have hl:l.getLast? =O (el l (l.length-1)):=by
    rw[Qu];unfold el;rw[Zi (show l.length-1<l.length by omega)];rfl
   cases hb:isBk (el l (l.length-1))with
   | true=>
    rw[Zf];refine obT_w2 n l.dropLast (by rw[List.length_dropLast];omega) (adj_dl h1) (λx hx=>h2 x ?_);cases l with
    |nil=>cases hx
    |cons a l=>cases l with
     |nil=>cases hx
     |cons b l=>exact hx
   |false=>
    rw[Za];refine⟨h1,h2,λx hx=>?_⟩;rw[hl]at hx;obtain rfl:=Qj hx;unfold isBk at hb;obtain⟨b1,b2⟩:=Va8 hb;exact⟨Y2 b1,Y2 b2⟩
  ·obtain rfl:=Ia.1 (by omega:l.length=0);exact⟨Zb,λx hx=>(by cases hx),λx hx=>(by cases hx)⟩
def obM_w2{l:F A}(hw:∀ x∈l,WF x)(h:Adj 0 l):LnW (obM l):=by
 have hH:Adj 0 (obH l)/\∀ x,(obH l).head? =O x->x.fKind≠2:=by
  unfold obH;cases l with
  |nil=>exact⟨Zb,λx hx=>by cases hx⟩
  | cons a l=>
   cases hk:((el (a::l) 0).fKind==2)with
   | true=>
    have ha:a.fKind=2:=eq_of_beq hk
    show Adj 0 l/\∀ x,l.head? =O x->x.fKind≠2;have h2:=h.2;refine⟨adj_0 h2,λx hx e=>?_⟩;cases l with
    |nil=>cases hx
    |cons b l=>
     obtain rfl:b=x:=by simpa using hx
     exact(h2.1.2.2 e).1 ha
   |false=>
    show Adj 0 (a::l)/\∀ x,(a::l).head? =O x->x.fKind≠2;refine⟨h,λx hx=>?_⟩;obtain rfl:a=x:=by simpa using hx
    exact Y2 hk
 have hT:=obT_w2 l.length (obH l) (obH_len l) hH.1 hH.2;exact⟨λx hx=>hw x (mem_obM hx),hT.1,hT.2.1,hT.2.2⟩
end
section
open Go Go.Eng
def kz{H:Prop}:F J->OCx H->OCx H
 |[],r=>r
 |k::l,r=>tn (k / 2) (kb (b:=k%2==1) (d:=k%2==1) rfl<|kz l r)
def roI(x:A):SV:=.av (.ro (Vaq x).cells 0)
def ifd_to{x:A}(h:WI x):Va1 Zc 77 [roI x] [] [] (jB K) [] []:=by
 have ceA:Va1 Zc 118 [.av (Vph ⟨⟨#[]⟩,[],[]⟩)] [] [] (jB K) [] []:=empA_to ⟨⟨#[]⟩,[],[]⟩ gj;cases h with
 |tx k t a b c=>
  rcases a with rfl|rfl|rfl
  ·refine bG Yh ?_;refine gO (kz [29,1,7,1,1,1,1,1,3,3,2,2,2,2,2,3,0,1,3,3,2,2,2,2,2,3,0,1,3,3,2,2,2,2,2]<|kc ceA<|kz [1,0,1,3,3,2,2,2,2,2,2,3,0,1,3,3,2,2,2,2,2,2,3,0,1,3,3,2,2,2,2,2,2,3,0,1] m5) ?_;exact eN
  ·refine bG Yh ?_;refine gO (kz [28,5,1,7,1,1,1,1,1,3,3,2,2,2,2,2,3,0,1,3,3,2,2,2,2,2,3,0,1,3,3,2,2,2,2,2]<|kc ceA<|kz [1,0,1,3,3,2,2,2,2,2,2,3,0,1,3,3,2,2,2,2,2,2,3,0,1,3,3,2,2,2,2,2,2,3,0,1] m5) ?_;exact eN
  ·refine bG Yh ?_;refine gO (kz [28,4,5,1,7,1,1,1,1,1,3,3,2,2,2,2,2,3,0,1,3,3,2,2,2,2,2,3,0,1,3,3,2,2,2,2,2]<|kc ceA<|kz [1,0,1,3,3,2,2,2,2,2,2,3,0,1,3,3,2,2,2,2,2,2,3,0,1,3,3,2,2,2,2,2,2,3,0,1] m5) ?_;exact eN
 |br k a=>
  rcases a with rfl|rfl
  ·refine bG Yh ?_;refine gO (kz [28,4,4,4,5,1,4,2,2,2,2,2,3,3,2,2,2,2,2,3,0,1,3,3,2,2,2,2,2,3,0,1,3,3,2,2,2,2,2]<|kc ceA<|kz [1,0,1,3,3,2,2,2,2,2,2,3,0,1,3,3,2,2,2,2,2,2,3,0,1,3,3,2,2,2,2,2,2,3,0,1] m5) ?_;exact eN
  ·refine bG Yh ?_;refine gO (kz [28,4,4,4,4,5,4,2,2,2,2,2,3,3,2,2,2,2,2,3,0,1,3,3,2,2,2,2,2,3,0,1,3,3,2,2,2,2,2]<|kc ceA<|kz [1,0,1,3,3,2,2,2,2,2,2,3,0,1,3,3,2,2,2,2,2,2,3,0,1,3,3,2,2,2,2,2,2,3,0,1] m5) ?_;exact eN
 |em k l a b=>
  rcases a with rfl|rfl|rfl
  ·refine bG Yh ?_;refine gO (kz [28,4,4,4,4,4,5,1,6,2,2,2,2,2,3,3,2,2,2,2,2,3,0,1,3,3,2,2,2,2,2,3,0,1,3,3,2,2,2,2,2]<|kc ceA<|kz [1,0,1,3,3,2,2,2,2,2,2,3,0,1,3,3,2,2,2,2,2,2,3,0,1,3,3,3,1,1,1,1,1,1,1,1] m5) ?_;exact eN
  ·refine bG Yh ?_;refine gO (kz [28,4,4,4,4,4,4,5,1,6,2,2,2,2,2,3,3,2,2,2,2,2,3,0,1,3,3,2,2,2,2,2,3,0,1,3,3,2,2,2,2,2]<|kc ceA<|kz [1,0,1,3,3,2,2,2,2,2,2,3,0,1,3,3,2,2,2,2,2,2,3,0,1,3,3,3,1,1,1,1,1,1,1,1] m5) ?_;exact eN
  ·refine bG Yh ?_;refine gO (kz [28,4,4,4,4,4,4,4,5,6,2,2,2,2,2,3,3,2,2,2,2,2,3,0,1,3,3,2,2,2,2,2,3,0,1,3,3,2,2,2,2,2]<|kc ceA<|kz [1,0,1,3,3,2,2,2,2,2,2,3,0,1,3,3,2,2,2,2,2,2,3,0,1,3,3,3,1,1,1,1,1,1,1,1] m5) ?_;exact eN
 |ln lab d ti l a=>
  refine bG Yh ?_;refine gO (kz [28,4,4,4,4,4,4,4,4,5,13,1,1,1,1,1,3,3,3,1,1,1,1,1,1,1,3,3,3,1,1,1,1,1,1,1,3,3,2,2,2,2,2]<|kc ceA<|kz [1,0,1,3,3,2,2,2,2,2,2,3,0,1,3,3,2,2,2,2,2,2,3,0,1,3,3,3,1,1,1,1,1,1,1,1] m5) ?_;exact eN
 |im lab d ti a l b c=>
  refine bG Yh ?_;refine gO (kz [28,4,4,4,4,4,4,4,4,4,5,15,1,1,1,1,1,3,3,3,1,1,1,1,1,1,1,3,3,3,1,1,1,1,1,1,1,3,3,3,1,1,1,1,1,1,1,3,3,2,2,2,2,2,2,3,0,1,3,3,2,2,2,2,2,2,3,0,1,3,3,3,1,1,1,1,1,1,1,1] m5) ?_;exact eN
 |sp a l b c=>
  refine bG Yh ?_;refine gO (kz [28,4,4,4,4,4,4,4,4,4,4,5,8,2,2,2,2,2,3,3,2,2,2,2,2,3,0,1,3,3,2,2,2,2,2,3,0,1,3,3,3,1,1,1,1,1,1,1,3,3,2,2,2,2,2,2,3,0,1,3,3,2,2,2,2,2,2,3,0,1,3,3,3,1,1,1,1,1,1,1,1] m5) ?_;exact eN
 |nr t a=>
  refine bG Yh ?_;refine gO (kz [28,4,4,5,7,1,1,1,1,1,3,3,2,2,2,2,2,3,0,1,3,3,2,2,2,2,2,3,0,1,3,3,2,2,2,2,2]<|kc ceA<|kz [1,0,1,3,3,2,2,2,2,2,2,3,0,1,3,3,2,2,2,2,2,2,3,0,1,3,3,2,2,2,2,2,2,3,0,1] m5) ?_;exact eN
 |ci l a b=>
  refine bG Yh ?_;refine gO (kz [28,4,4,4,4,4,4,4,4,4,4,4,5,6,2,2,2,2,2,3,3,2,2,2,2,2,3,0,1,3,3,2,2,2,2,2,3,0,1,3,3,2,2,2,2,2]<|kc ceA<|kz [1,0,1,3,3,2,2,2,2,2,2,3,0,1,3,3,3,1,1,1,1,1,1,1,1,3,3,2,2,2,2,2,2,3,0,1] m5) ?_;exact eN
 |rf t ti a b=>
  refine bG Yh ?_;refine gO (kz [28,4,4,4,4,4,4,4,4,4,4,4,4,5,9,1,1,1,1,1,3,3,2,2,2,2,2,3,0,1,3,3,3,1,1,1,1,1,1,1,3,3,2,2,2,2,2]<|kc ceA<|kz [1,0,1,3,3,2,2,2,2,2,2,3,0,1,3,3,2,2,2,2,2,2,3,0,1,3,3,2,2,2,2,2,2,3,0,1] m5) ?_;exact eN
 |us t l a b c=>
  refine bG Yh ?_;refine gO (kz [28,4,4,4,4,4,4,4,4,4,4,4,4,4,5,9,1,1,1,1,1,3,3,2,2,2,2,2,3,0,1,3,3,2,2,2,2,2,3,0,1,3,3,2,2,2,2,2]<|kc ceA<|kz [1,0,1,3,3,3,1,1,1,1,1,1,1,1,3,3,2,2,2,2,2,2,3,0,1,3,3,2,2,2,2,2,2,3,0,1] m5) ?_;exact eN
 |au d a=>
  refine bG Yh ?_;refine gO (kz [28,4,4,4,4,4,4,4,4,4,4,4,4,4,4,5,6,2,2,2,2,2,3,3,3,1,1,1,1,1,1,1,3,3,2,2,2,2,2,3,0,1,3,3,2,2,2,2,2]<|kc ceA<|kz [1,0,1,3,3,2,2,2,2,2,2,3,0,1,3,3,2,2,2,2,2,2,3,0,1,3,3,2,2,2,2,2,2,3,0,1] m5) ?_;exact eN
def eqs_ne{t:C}(h:0<t.size):eqs t ⟨#[]⟩=false:=by
 cases hx:eqs t ⟨#[]⟩with
 |false=>rfl
 |true=>have:=eqs_sz hx;omega
def oneR(k:I)(h:refB k=B):oneO k [9,16,12,14,13]=false:=by
 unfold refB at h;have e:oneO k [9,16,12,14,13]=Zp (k==9) K (Zp (k==16) K (Zp (k==12) K (Zp (k==14) K (k==13)))):=by
  show Zp (k==9) K (Zp (k==16) K (Zp (k==12) K (Zp (k==14) K (Zp (k==13) K B))))=_;cases(k==13) <;>rfl
 rw[e];cases h1:(k==9) <;>cases h2:(k==16) <;>cases h3:(k==12) <;>cases h4:(k==14) <;>simp_all
def any_to:∀(n:J)(l:F A),wl Va4 l<n->wl Va4 l<=1073741824->(∀x∈l,NR x)->Va1 Zc 173 [jL (l.map Va2),jL ([9,16,12,14,13].map vI)] [] [] (jB B) [] []
 |0,l,h,_,_=>by omega
 |n+1,l,h0,hl,hN=>by
  have hw:=Vb9 (w:=Va4) Vaw l;have hle:=Va6 Va2 l;refine bG Tryz.func173 ?_;refine gO i7 ?_;refine LP (n:=l.length+1) (λN M S=>∃ v:J,v<=l.length/\l.length-v<N/\M=()/\S=(sx 28 [(0,jL (l.map Va2)),(1,jL ([9,16,12,14,13].map vI)),(7,jI ((lenM Va2 l:J):I)),(8,jI ((v:J):I))] [] [])) kx ⟨0,kv,kv,rfl,rfl⟩ (WK kx) ?_;rintro n0 M S ⟨v,hv,hF0,rfl,rfl⟩;obtain⟨n0,rfl⟩:∃ k,n0=k+1:=⟨n0-1,kv⟩
  by_cases h1:v<l.length
  ·have hd:Zh (((v:J):I)<((lenM Va2 l:J):I))=true:=dT kv;have hev:=Vb0 l v h1;have hce:=Vpx (w:=Va4) (l:=l) (i:=v) h1;have hcw:=Vao (el l v);have hx:=Vad.1 (hN _ (Vbk h1));have ko:=Vox (el l v).fKind [9,16,12,14,13] gj;rw[oneR _ hx.1]at ko;have hk:=any_to n (el l v).fKids kv kv hx.2;have hwr:=wrE (((v:J):I)+1) ((v+1:J):I) kv;refine gO (m0 hd<|tn 4<|ke hev<|m8 ko<|kz [2,2,2]<|ke hev<|kz [0,2,2,2]<|kc hk<|kz [0,0]<|kn hwr m5) ?_;exact AG (m:=n0) ⟨v+1,kv,kv,rfl,rfl⟩ (WK kx) kx (Zl _)
  ·have hd:Zh (((v:J):I)<((lenM Va2 l:J):I))=false:=dF kv;refine gO (m0 hd z) ?_;refine Dr m5 kx ?_;exact eN
def chl_to{k:I}{lab d ti:C}{a:Yy}{l:F A}(hk:k=9/\a=aZ\/k=10)(h:LnOk lab d ti)(ha:AOk a)(hw:Va4 (mkI k lab d ti a l)<=1073741824)(hn:k=9->∀ z∈l,NR z):Va1 Zc 120 [roI (mkI k lab d ti a l)] [] [] (jI 0) [] []:=by
 have hwx:=Vao (mkI k lab d ti a l);simp only[mkI,wStr,w1]at hwx;unfold mkI at hw;have cl:∀ {u:C},CL u->u.size<=1073741824->Va1 Zc 119 [jS u] [] [] (jB K) [] []:=λ{u} hu hs=>by
  have:=clnT_to u hs;rwa[clnT_cl hu]at this
 have cd:=cl h.d kv;have ci:=cl h.ti kv;have ce:=cl CL.nil gj;have ca:=atc_to a ha kv;have cn:k=9->Va1 Zc 173 [jL (l.map Va2),jL ([9,16,12,14,13].map vI)] [] [] (jB B) [] []:=λe=>any_to _ l (Zl _) kv (hn e)
 have u5:Db 1 ([9,16,12,14,13].map vI):=by intro y hy;obtain⟨x,_,rfl⟩:=Yq.1 hy;exact⟨rfl,rfl⟩
 rcases hk with⟨rfl,rfl⟩|rfl
 ·have cn:=cn rfl;rcases h.lb with rfl|⟨h1,rfl,rfl⟩
  ·refine bG Ig ?_;refine gO (kz [14,0,0,0,0,0,0,0,0,12,0,0,0,0,0,0,0]<|cq cd<|kz [4,2,2,2,2]<|kc ci<|kz [0,2,0,10]<|z8 u5<|kc cn<|kz [0] m5) ?_;exact eN
  ·have ne:(!eqs lab ⟨#[]⟩)=true:=by rw[eqs_ne h1.1];rfl
   have cb:=tlb_to lab h1;refine bG Ig ?_;refine gO (xq ne<|m0 ne<|m0 ne<|m0 ne<|m0 ne<|m0 ne<|kz [2,2,2,2,2]<|m0 ne<|kz [0]<|kb ne<|kz [0]<|zq ne<|m0 ne<|m0 ne<|m0 ne<|m0 ne<|kc cb<|kb ne<|m0 ne<|kz [0]<|cq ce<|kz [4,2,2,2,2]<|kc ce<|kz [0,2,0,10]<|z8 u5<|kc cn<|kz [0] m5) ?_;exact eN
 ·rcases h.lb with rfl|⟨h1,rfl,rfl⟩
  ·refine bG Ig ?_;refine gO (kz [14,0,0,0,0,0,0,0,0,12,0,0,0,0,0,0,0]<|cq cd<|kz [4,2,2,2,2]<|kc ci<|kz [0,2,0,11]<|cq ca m5) ?_;exact eN
  ·have ne:(!eqs lab ⟨#[]⟩)=true:=by rw[eqs_ne h1.1];rfl
   have cb:=tlb_to lab h1;refine bG Ig ?_;refine gO (xq ne<|m0 ne<|m0 ne<|m0 ne<|m0 ne<|m0 ne<|kz [2,2,2,2,2]<|m0 ne<|kz [0]<|kb ne<|kz [0]<|zq ne<|m0 ne<|m0 ne<|m0 ne<|m0 ne<|kc cb<|kb ne<|m0 ne<|kz [0]<|cq ce<|kz [4,2,2,2,2]<|kc ce<|kz [0,2,0,11]<|cq ca m5) ?_;exact eN
def chn_to{k:I}{t ti:C}{l:F C}(ht:namA t=K)(h1:Zp (Zp (k==14) (!eqs ti ⟨#[]⟩) B) (!eqs ti PAG) B=B)(h2:l.length<=8)(h3:∀ a∈l,ArOk a)(hw:Va4 (Yc k t ⟨#[]⟩ ti ⟨⟨#[]⟩,[],[]⟩ l [] [])<=1073741824):Va1 Zc 122 [roI (Yc k t ⟨#[]⟩ ti ⟨⟨#[]⟩,[],[]⟩ l [] [])] [] [] (jI 0) [] []:=by
 have hwx:=Vao (Yc k t ⟨#[]⟩ ti ⟨⟨#[]⟩,[],[]⟩ l [] []);simp only[wStr,w1]at hwx;have hw0:=Vb9 (w:=wStr) Ves l;have hle:=Va6 Vak l;have kN:=Vdl t kv;rw[ht]at kN;have hg:Zp (k==15) (Zh (((lenM Vak l:J):I)>8)) B=false:=by
  rw[dF kv];cases(k==15) <;>rfl
 refine bG Tryz.func122 ?_;refine gO (vq kN<|kz [2]<|tn 6<|kj (k==14) n8 z<|m7 (Zp (k==14) (!eqs ti ⟨#[]⟩) B) n8 z<|kb h1<|tn 6<|kj (k==15) iq z<|kb hg iq) ?_;refine LP (n:=l.length+1) (λN M S=>∃ v:J,v<=l.length/\l.length-v<N/\M=()/\S=(sx 60 [(46,jL (l.map Vak)),(47,jI ((lenM Vak l:J):I)),(48,jI ((v:J):I))] [] [])) kx ⟨0,kv,kv,rfl,rfl⟩ (WK kx) ?_;rintro n0 M S ⟨v,hv,hF0,rfl,rfl⟩;obtain⟨n0,rfl⟩:∃ k,n0=k+1:=⟨n0-1,kv⟩
 by_cases h4:v<l.length
 ·have hd:Zh (((v:J):I)<((lenM Vak l:J):I))=true:=dT kv;have hev:=Vi3 l v h4;have hce:=Vpx (w:=wStr) (l:=l) (i:=v) h4;simp only[wStr]at hce;obtain⟨a1,a2⟩:=h3 _ (Vbk h4);have c1:=clnT_to (el l v) kv;rw[clnT_cl a1]at c1;have c2:=Vpe (el l v) BAR kv gj gj (A7.lit gj);rw[a2]at c2;have hwr:=wrE (((v:J):I)+1) ((v+1:J):I) kv;refine gO (m0 hd<|ke hev<|m8 c1<|kz [4,2]<|kc c2<|kz [0,0]<|kn hwr m5) ?_;exact AG (m:=n0) ⟨v+1,kv,kv,rfl,rfl⟩ (WK kx) kx (Zl _)
 ·have hd:Zh (((v:J):I)<((lenM Vak l:J):I))=false:=dF kv;refine gO (m0 hd z) ?_;refine Dr m5 kx ?_;exact eN
end
section
open Go Go.Eng
def Lf(s:C)(i:I)(r:A×I):Prop:=r.2<=0\/(WI r.1/\r.1.fKids=[]/\Bn s r.2/\(r.1.fKind=4->Y s i.toNat=96/\(r.2<s.size->Y s r.2.toNat≠96)))
section
variable {s:C} {i:I}
def Lf0(x:A):Lf s i (x,0):=.inl (Z2 _)
def Lf.mk{x:A}{e:I}(h:WI x)(hk:x.fKids=[])(hb:Bn s e)(h4:x.fKind≠4):Lf s i (x,e):=.inr ⟨h,hk,hb,λq=>Z1 q h4⟩
def cl_one{k:J}(hk:k<s.size)(h:32<=Y s k/\Y s k<127):CL (Zd s k (k+1)):=CL.as λj hj=>by
 rw[Ya,Y9 kv]at hj;obtain rfl:j=0:=kv;rw[Vd6 s kv kv];exact h
def ex_sz{a b:I}(h0:0<=a)(h1:a<b)(h2:b<=s.size):0<(Zd s a.toNat b.toNat).size:=by
 rw[Ya];omega
def pnc_a:∀ b:J,b<128->pncC (b:I)=K->33<=b/\b<127:=gj
def bslP_lf(h:Bn s i)(h1:i<s.size)(hc:Y s i.toNat=92):Lf s i (bslP s i):=by
 have h0:=h.1;have e1:(i+1).toNat=i.toNat+1:=kv;have b1:=(h.nx h1 kv).1;unfold bslP;refine Va5 (Lf s i) (λ_=>Lf0 _) (λq=>?_);have q:=Zk q;refine Va5 (Lf s i) (λq2=>?_) (λq2=>Va5 (Lf s i) (λq3=>?_) (λ_=>Lf0 _))
 ·have q2:=eq_of_beq q2;have b2:=(b1.nx kv kv).1;rw[show i+1+1=i+2 by omega]at b2;exact .mk (.br 3 (.inr rfl)) rfl (Vkw b2).2.1 (by show(3:I)≠4;decide)
 ·obtain⟨q3,q4⟩:=Va9 q3;have q3:=Zq q3;rw[wrb]at q4;have q5:=pnc_a _ kv q4;have b2:=(b1.nx kv kv).1;rw[show i+1+1=i+2 by omega]at b2;refine .mk (.tx 1 _ (.inl rfl) (ex_sz kv kv b2.2.1) ?_) rfl b2 (by show(1:I)≠4;decide);rw[show(i+2).toNat=(i+1).toNat+1 by omega];exact cl_one kv ⟨kv,q5.2⟩
def Bn.pfx{p:C}(h:Bn s i)(hp:hpxB (Zd s i.toNat s.size) p=K)(n:J)(hn:p.size=n+1)(ha:Y p n<128):Bn s (i+p.size)/\i+p.size<=s.size:=by
 obtain⟨a,b⟩:=hpx_b h.1 h.2.1 hp;have h0:=h.1;have:=b n kv;have:=h.hop (v:=i+n) kv kv (by rw[show(i+(n:I)).toNat=i.toNat+n by omega];omega);rw[hn];exact⟨by rw[show i+((n+1:J):I)=i+n+1 by omega];exact this,kv⟩
def enc_cl{c:J}(h:Yl (c:I)=K)(h1:32<=c)(h2:c≠127):0<(Qy (c:I)).size/\CL (Qy (c:I)):=by
 have hv:=h;unfold Yl at h;simp only[Yr,Zt,Zr]at h;have e:Qy (c:I)=if c<0x80 then⟨#[Zg c]⟩
  else if c<0x800 then⟨#[Zg (0xC0+c / 64),Zg (0x80+c%64)]⟩
  else if c<0x10000 then⟨#[Zg (0xE0+c / 4096),Zg (0x80+c / 64%64),Zg (0x80+c%64)]⟩
  else⟨#[Zg (0xF0+c / 262144),Zg (0x80+c / 4096%64),Zg (0x80+c / 64%64),Zg (0x80+c%64)]⟩:=by
  unfold Qy;rw[Zs hv];rfl
 rw[e];have b:∀ x:J,(Zg x).toNat=x%256:=λx=>by simp
 have one:∀ {t:C} {n:J},t.size=n->Sq (Y t) 0 n->(∀k,k<n->Y t k≠10)->0<t.size/\CL t:=λ{t n} hz hs hn=>by
  have:=hs.pos;refine⟨kv,?_,λk hk=>hn k kv⟩;unfold CT;rw[hz];exact .cons hs (by rw[Y1];exact .nil _)
 split
 ·have b0:Y ⟨#[Zg c]⟩ 0=c:=(b c).trans (Z4 kv);refine one (n:=1) rfl (.inl ⟨rfl,kv,kv⟩) (λk hk=>by have e:k=0:=kv;rw[e];omega)
 split
 ·have b0:Y ⟨#[Zg (0xC0+c / 64),Zg (0x80+c%64)]⟩ 0=192+c / 64:=(b _).trans (Z4 kv);have b1:Y ⟨#[Zg (0xC0+c / 64),Zg (0x80+c%64)]⟩ (0+1)=128+c%64:=(b _).trans (Z4 kv);have hs:Sq (Y ⟨#[Zg (0xC0+c / 64),Zg (0x80+c%64)]⟩) 0 2:=.inr (.inl ⟨rfl,kv,kv,kv,kv⟩)
  exact one (n:=2) rfl hs (λk hk=>by
   by_cases hz:k=0
   ·subst hz;omega
   ·have:=(hs.tl (k:=k) kv kv).1;omega)
 split
 ·have b0:Y ⟨#[Zg (0xE0+c / 4096),Zg (0x80+c / 64%64),Zg (0x80+c%64)]⟩ 0=224+c / 4096:=(b _).trans (Z4 kv);have b1:Y ⟨#[Zg (0xE0+c / 4096),Zg (0x80+c / 64%64),Zg (0x80+c%64)]⟩ (0+1)=128+c / 64%64:=(b _).trans (Z4 kv);have b2:Y ⟨#[Zg (0xE0+c / 4096),Zg (0x80+c / 64%64),Zg (0x80+c%64)]⟩ (0+2)=128+c%64:=(b _).trans (Z4 kv);have hs:Sq (Y ⟨#[Zg (0xE0+c / 4096),Zg (0x80+c / 64%64),Zg (0x80+c%64)]⟩) 0 3:=.inr (.inr (.inl ⟨rfl,kv,kv,kv,kv,kv,kv,kv,kv⟩))
  exact one (n:=3) rfl hs (λk hk=>by
   by_cases hz:k=0
   ·subst hz;omega
   ·have:=(hs.tl (k:=k) kv kv).1;omega)
 ·have b0:Y ⟨#[Zg (0xF0+c / 262144),Zg (0x80+c / 4096%64),Zg (0x80+c / 64%64),Zg (0x80+c%64)]⟩ 0=240+c / 262144:=(b _).trans (Z4 kv);have b1:Y ⟨#[Zg (0xF0+c / 262144),Zg (0x80+c / 4096%64),Zg (0x80+c / 64%64),Zg (0x80+c%64)]⟩ (0+1)=128+c / 4096%64:=(b _).trans (Z4 kv);have b2:Y ⟨#[Zg (0xF0+c / 262144),Zg (0x80+c / 4096%64),Zg (0x80+c / 64%64),Zg (0x80+c%64)]⟩ (0+2)=128+c / 64%64:=(b _).trans (Z4 kv);have b3:Y ⟨#[Zg (0xF0+c / 262144),Zg (0x80+c / 4096%64),Zg (0x80+c / 64%64),Zg (0x80+c%64)]⟩ (0+3)=128+c%64:=(b _).trans (Z4 kv);have hs:Sq (Y ⟨#[Zg (0xF0+c / 262144),Zg (0x80+c / 4096%64),Zg (0x80+c / 64%64),Zg (0x80+c%64)]⟩) 0 4:=.inr (.inr (.inr ⟨rfl,kv,kv,kv,kv,kv,kv,kv,kv,kv,kv⟩))
  exact one (n:=4) rfl hs (λk hk=>by
   by_cases hz:k=0
   ·subst hz;omega
   ·have:=(hs.tl (k:=k) kv kv).1;omega)
def refT_lf(h:Bn s i)(n:I)(k:J):Lf s i (refT (refR s i) i n k):=by
 have h0:=h.1;unfold refT;refine Va5 (Lf s i) (λ_=>Lf0 _) (λq=>Va5 (Lf s i) (λ_=>Lf0 _) (λq2=>?_));unfold rfcB at q;obtain⟨q,q3⟩:=Va8 q;obtain⟨_,q⟩:=Va8 q;have q:=Zk q;have q3:=Va7 q3;unfold refR at q q3;rw[Ya,Jn]at q;unfold D2 at q3;rw[Z9,Vd6 s kv (Zm _)]at q3;unfold refN at q2;obtain⟨q2,q4⟩:=Va8 q2;obtain⟨q2,q5⟩:=Va8 q2;obtain⟨q2,q6⟩:=Va8 q2;have q2:=Zk q2;have q5:=Zk q5;have q6:=Y2 q6;have q4':¬ (55296<=n/\n<=57343):=λ⟨a,b⟩=>by
  rw[Z8 (show n>=55296 from a),Z8 b]at q4;cases q4
 obtain⟨c,rfl⟩:∃ c:J,n=c:=⟨n.toNat,kv⟩
 have hv:Yl (c:I)=true:=by
  unfold Yl;simp only[Yr,Zt,Zr];omega
 have es:appS ⟨#[]⟩ (c:I)=Qy (c:I):=by
  unfold appS seqS;rw[nil_ba,Zo (show ¬(c:I)<0 by omega),Zo (show ¬(c:I)>1114111 by omega),show(Zp (Zh ((c:I)>=55296)) (Zh ((c:I)<=57343)) B)=B from q4];simp only[Za];rw[(wr_c (c:=c) kv).2]
 have he:=enc_cl hv kv kv;refine .mk (.tx 1 _ (.inl rfl) (by rw[es];exact he.1) (by rw[es];exact he.2)) rfl ?_ (by show(1:I)≠4;decide);exact h.hop (v:=i+k) kv kv (by rw[show(i+(k:I)).toNat=i.toNat+k by omega];omega)
def refL_lf(h:Bn s i):∀(m:J)(n:I)(k:J),Lf s i (refL (refR s i) i m n (k:I))
 |0,n,k=>.inl (Z2 _)
 |m+1,n,k=>by
  rw[refL];exact Va5 (Lf s i) (λ_=>refL_lf h m _ (k+1)) (λ_=>refT_lf h n k)
def cl_lit(b:Xg)(h:32<=b.toNat/\b.toNat<127):CL ⟨#[b]⟩:=CL.as λk hk=>by
 have hk:k<1:=hk;obtain rfl:k=0:=kv;exact h
def refP_lf(h:Bn s i):Lf s i (refP s i):=by
 unfold refP;have tx:∀(b:Xg)(p:C)(n:J),p.size=n+1->Y p n<128->32<=b.toNat/\b.toNat<127->hpxB (refR s i) p=K->Lf s i (txH ⟨#[b]⟩,i+p.size):=λb p n a c d e=>
  .mk (.tx 1 _ (.inl rfl) (by show 0<1;decide) (cl_lit b d)) rfl (h.pfx e n a c).1 (by show(1:I)≠4;decide)
 refine Va5 (Lf s i) (tx 38 rfN1 4 rfl gj gj) (λ_=>Va5 (Lf s i) (tx 60 rfN2 3 rfl gj gj) (λ_=>Va5 (Lf s i) (tx 62 rfN3 3 rfl gj gj) (λ_=>Va5 (Lf s i) (tx 34 rfN4 5 rfl gj gj) (λ_=>Va5 (Lf s i) (λ_=>Lf0 _) (λ_=>refL_lf h 8 0 2)))))
def dolG_lf(h:Bn s i)(h1:i<s.size)(hc:Y s i.toNat<128):Lf s i (dolG s i):=by
 have h0:=h.1;have b1:=(h.nx h1 hc).1;unfold dolG;have hq:=idxA_q (Zd s (i+1).toNat s.size) ⟨#[36,10]⟩;generalize idxA (Zd s (i+1).toNat s.size) ⟨#[36,10]⟩=m at hq;refine Va5 (Lf s i) (λ_=>Lf0 _) (λq=>Va5 (Lf s i) (λ_=>Lf0 _) (λq2=>Va5 (Lf s i) (λ_=>Lf0 _) (λ_=>?_)));have q:=Zk q;rcases hq with⟨e,_⟩|⟨n,rfl,a,_,hno⟩
 ·omega
 rw[Ya,Jn]at a;obtain⟨q2,_⟩:=Va8 q2;obtain⟨q2,_⟩:=Va8 q2;have q2:=Va7 q2;have hn:∀ k:J,i+1<=k->(k:I)<i+1+n->Y s k≠10:=λk k1 k2=>by
  have:=hno (k-(i+1).toNat) kv 1 gj;rw[Vd6 s kv (Zm _),show(i+1).toNat+(k-(i+1).toNat)=k by omega]at this;exact this
 exact .mk (.tx 5 _ (.inr (.inr rfl)) (ex_sz kv kv kv) (b1.cl kv kv (λ_=>by omega) hn)) rfl (b1.hop kv kv kv) (by show(5:I)≠4;decide)
end
end
section
open Go Go.Eng
section
variable {s:C} {i:I}
def aut1(b1:Bn s (i+1))(v6:I)(k0:I->A×I)(hv:i+1+2<=v6/\v6<=i+1+20/\v6<s.size)(hc:Y s v6.toNat=58)(hl:∀ k:J,i+1<=k->(k:I)<v6->letA ((Y s k:J):I)=K):∀(n:J)(w:I),v6<=w->(∀k:J,v6<=k->(k:I)<w->Y s k≠32/\Y s k≠10/\Y s k≠60/\Y s k≠62)->Lf s i (Dj s i v6 k0 n w)
 |0,w,_,_=>.inl (Z2 _)
 | n+1,w,hw,hn=>by
  have h0:=b1.1;rw[Dj];refine Va5 (Lf s i) (λq=>?_) (λ_=>Va5 (Lf s i) (λ_=>Lf0 _) (λq=>?_))
  ·obtain⟨q,q5⟩:=Va9 q;obtain⟨q,q4⟩:=Va9 q;obtain⟨q,q3⟩:=Va9 q;obtain⟨q1,q2⟩:=Va9 q;have q2:=Yt.1 q2;have q3:=Yt.1 q3;have q4:=Yt.1 q4;have q5:=Yt.1 q5;refine aut1 b1 v6 k0 hv hc hl n (w+1) kv (λk k1 k2=>?_)
   by_cases hk:(k:I)=w
   ·rw[show k=w.toNat by omega];omega
   ·exact hn k k1 kv
  ·obtain⟨q1,q2⟩:=Va8 q;have q1:=Zk q1;have q2:=Va7 q2;have hvw:v6<w:=by
    have:v6≠w:=λe=>by rw[e]at hc;omega
    omega
   have hb:∀ k:J,i+1<=k->(k:I)<w->Y s k≠32/\Y s k≠10/\Y s k≠60/\Y s k≠62:=λk k1 k2=>by
    by_cases hk:(k:I)<v6
    ·have:=letA_a (hl k k1 hk);omega
    ·exact hn k kv k2
   have hz:(Zd s (i+1).toNat w.toNat).size=w.toNat-(i+1).toNat:=by rw[Ya,Y9 kv]
   have hx:∀ k,k<w.toNat-(i+1).toNat->Y (Zd s (i+1).toNat w.toNat) k=Y s ((i+1).toNat+k):=λk hk=>Vd6 s hk kv
   refine .mk (.au _ ⟨⟨(v6-i-1).toNat,kv,kv,kv,?_,λk hk=>?_⟩,?_,λk hk=>?_⟩) rfl (b1.hop kv kv kv) (by show(16:I)≠4;decide)
   ·rw[hx _ kv,show(i+1).toNat+(v6-i-1).toNat=v6.toNat by omega];exact hc
   ·rw[hx _ kv];exact hl _ kv kv
   ·exact b1.cl kv kv (λ_=>by omega) (λk k1 k2=>(hb k k1 k2).2.1)
   ·rw[hx _ kv];have:=hb ((i+1).toNat+k) kv kv;exact⟨this.1,this.2.2⟩
def aut0(b1:Bn s (i+1)):∀(n:J)(v:I),i+1<=v->(∀k:J,i+1<=k->(k:I)<v->letA ((Y s k:J):I)=K)->Lf s i (Dk s i n v)
 |0,v,_,_=>.inl (Z2 _)
 | n+1,v,hv,hl=>by
  have h0:=b1.1;rw[Dk];refine Va5 (Lf s i) (λq=>?_) (λ_=>Va5 (Lf s i) (λ_=>Lf0 _) (λq=>?_))
  ·obtain⟨q1,q2⟩:=Va9 q;refine aut0 b1 n (v+1) kv (λk k1 k2=>?_)
   by_cases hk:(k:I)=v
   ·rw[show k=v.toNat by omega];exact q2
   ·exact hl k k1 kv
  ·obtain⟨q,q4⟩:=Va8 q;obtain⟨q,q3⟩:=Va8 q;obtain⟨q1,q2⟩:=Va8 q;have q1:=Zk q1;have q2:=Zk q2;have q3:=Zk q3;have q4:=Va7 q4;exact aut1 b1 v _ kv kv hl _ v (Z2 _) (λk k1 k2=>by omega)
def autP_lf(h:Bn s i)(h1:i<s.size)(hc:Y s i.toNat<128):Lf s i (autP s i):=aut0 (h.nx h1 hc).1 _ _ (Z2 _) (λk k1 k2=>by omega)
def nmdP_lf(h:Bn s i)(h1:i<s.size)(hc:Y s i.toNat<128):Lf s i (nmdP s i):=by
 have h0:=h.1;unfold nmdP;refine Va5 (Lf s i) (λ_=>Lf0 _) (λq=>Va5 (Lf s i) (λ_=>Lf0 _) (λq3=>?_));obtain⟨q1,q2⟩:=Va8 q;have q1:=Zk q1;have hb:Y s (i+1).toNat<128:=by
  cases hx:(((Y s (i+1).toNat:J):I) !=94)with
  |false=>have:=Va7 hx;omega
  |true=>rw[hx,Zf]at q2;have:=Va7 q2;omega
 have b2:=((h.nx h1 hc).1.nx kv hb).1;rw[show i+1+1=i+2 by omega]at b2;obtain⟨b3,b4⟩:=nmeS_bn b2;have hn:namA (Zd s (i+2).toNat (nmeS s (i+2)).toNat)=true:=by
  cases hq:namA (Zd s (i+2).toNat (nmeS s (i+2)).toNat)with
  |true=>rfl
  |false=>rw[hq]at q3;cases q3
 have px:∀(p:C)(n:J),p.size=n+1->Y p n<128->hpxB (Zd s (nmeS s (i+2)).toNat s.size) p=K->Bn s (nmeS s (i+2)+p.size):=λp n a b c=>(b4.pfx c n a b).1
 refine Va5 (Lf s i) (λq=>?_) (λ_=>Va5 (Lf s i) (λq=>?_) (λ_=>Va5 (Lf s i) (λq=>?_) (λ_=>Lf0 _)))
 ·exact .mk (.nr _ hn) rfl (px _ 0 rfl gj (Va9 q).2) (by show(12:I)≠4;decide)
 ·exact .mk (.rf _ _ hn (.inl rfl)) rfl (px _ 0 rfl gj (Va9 q).2) (by show(14:I)≠4;decide)
 ·exact .mk (.rf _ _ hn (.inr rfl)) rfl (px _ 5 rfl gj (Va9 q).2) (by show(14:I)≠4;decide)
def usE_bn{v:I}(h:Bn s v):v<=usE s v/\Bn s (usE s v)/\ArOk (Zd s v.toNat (usE s v).toNat):=by
 have h0:=h.1
 obtain⟨a,b,c,d⟩:=scan_q (s:=s) (Vmm s) (λk=>Y s k≠124/\Y s k≠123/\Y s k≠125/\Y s k≠10) (λv=>v<s.size->Y s v.toNat<128) (λn v h0 h1=>by
  rw[Vmm];cases hc:useC s v with
  |true=>
   unfold useC at hc;obtain⟨q,q5⟩:=Va9 hc;obtain⟨q,q4⟩:=Va9 q;obtain⟨q,q3⟩:=Va9 q;obtain⟨q1,q2⟩:=Va9 q;have q2:=Yt.1 q2;have q3:=Yt.1 q3;have q4:=Yt.1 q4;have q5:=Yt.1 q5;unfold D2 at q2 q3 q4 q5;exact .inr ⟨Zq q1,kv,rfl⟩
  |false=>
   refine .inl ⟨rfl,λq=>?_⟩;unfold useC at hc;rw[Z8 q,Zf]at hc;simp only[Z7]at hc;unfold D2 at hc;simp only[Bool.and_eq_false_iff]at hc
   rcases hc with((e|e)|e)|e <;>(have:=Va7 e;omega)) (s.size-v.toNat+1) v h0 h.2.1 kv
 have a:v<=usE s v:=a;have b:usE s v<=s.size:=b;have d:usE s v<s.size->Y s (usE s v).toNat<128:=d;have c:∀ k:J,v<=k->(k:I)<usE s v->Y s k≠124/\Y s k≠123/\Y s k≠125/\Y s k≠10:=c;refine⟨a,(h.to a b (λq=>.inl (d q))).2,h.cl a b d (λk k1 k2=>(c k k1 k2).2.2.2),ctn_no λk hk j hj=>?_⟩;rw[Ya,Y9 kv]at hk;rw[Vd6 s hk kv];have:=c (v.toNat+k) kv kv;have hj:j<3:=hj;have b0:Y BAR 0=124:=rfl;have b1:Y BAR 1=123:=rfl;have b2:Y BAR 2=125:=rfl;rcases(by omega:j=0\/j=1\/j=2)with rfl|rfl|rfl <;>omega
def usL_lf{t:C}(ht:namA t=K):∀(n:J)(v:I)(l:F C),Bn s v->l.length<=8->(∀a∈l,ArOk a)->Lf s i (usL s t n v l)
 |0,v,l,_,_,_=>.inl (Z2 _)
 | n+1,v,l,hb,hl,ha=>by
  rw[usL];refine Va5 (Lf s i) (λq=>Va5 (Lf s i) (λ_=>Lf0 _) (λq2=>?_)) (λ_=>Va5 (Lf s i) (λ_=>Lf0 _) (λq=>?_))
  ·obtain⟨q1,q3⟩:=Va9 q;have q1:=Zq q1;have q3:=eq_of_beq q3;unfold D2 at q3;have q2:=Y2 q2;rw[Yw]at q2;have b1:=(hb.nx q1 kv).1;obtain⟨c1,c2,c3⟩:=usE_bn b1;refine usL_lf ht n _ _ c2 (by rw[Zz,Yn];omega) (λa h=>?_);rcases Z0.1 h with h|h
   ·exact ha a h
   ·rw[Zv.1 h];exact c3
  ·have hp:hpxB (Zd s v.toNat s.size) bb2=true:=by
    cases hq:hpxB (Zd s v.toNat s.size) bb2 with
    |true=>rfl
    |false=>rw[hq]at q;cases q
   exact .mk (.us _ _ ht hl ha) rfl (hb.pfx hp 1 rfl gj).1 (by show(15:I)≠4;decide)
def useP_lf(h:Bn s i):Lf s i (useP s i):=by
 unfold useP;refine Va5 (Lf s i) (λ_=>Lf0 _) (λq=>Va5 (Lf s i) (λ_=>Lf0 _) (λq2=>?_));have hp:hpxB (Zd s i.toNat s.size) ob2=true:=by
  cases hq:hpxB (Zd s i.toNat s.size) ob2 with
  |true=>rfl
  |false=>rw[hq]at q;cases q
 have hn:namA (Zd s (i+2).toNat (nmeS s (i+2)).toNat)=true:=by
  cases hq:namA (Zd s (i+2).toNat (nmeS s (i+2)).toNat)with
  |true=>rfl
  |false=>rw[hq]at q2;cases q2
 have b2:Bn s (i+2):=(h.pfx hp 1 rfl gj).1;exact usL_lf hn _ _ [] (nmeS_bn b2).2 gj (λa h=>by cases h)
end
def mkB(l:F Xg):ByteArray:=⟨l.toArray⟩
def Vr1(l:F Xg):(mkB l).size=l.length:=by show l.toArray.size=_;simp
def mkB_l(s:C):mkB s.data.toList=s:=by apply Xf;simp[mkB]
def Via(l:F Xg)(k:J):Y (mkB l) k=(l.getD k 0).toNat:=by rw[Vib];rfl
def CT.tl{b:Xg}{l:F Xg}(h:CT (mkB (b::l)))(hb:b.toNat<128):CT (mkB l):=by
 unfold CT at h ⊢;rw[Vr1]at h ⊢;have:=(h.nx ku (by rw[Via];exact hb)).1;have:=this.sh (g:=Y (mkB l)) 0 (λk hk=>by rw[Via,Via,Y1,Y1,Nat.add_comm 1 k];rfl);simpa using this
def CT.ini{b:Xg}{l:F Xg}(h:CT (mkB (l++[b])))(hb:b.toNat<128):CT (mkB l):=by
 unfold CT at h ⊢;rw[Vr1,Zz,Yn]at h;have:=(h.cut (p:=l.length) kv kv (λ_=>.inl (by rw[Via];simpa using hb))).1;have:=this.sh (g:=Y (mkB l)) 0 (λk hk=>by rw[Via,Via,Y1,Ze,Ze,Yk kv]);rw[Vr1];simpa using this
def CT.dw{p:Xg->Yv}(hp:∀ b,p b=K->b.toNat<128):∀ l:F Xg,(CT (mkB l)->CT (mkB (l.dropWhile p)))/\(CT (mkB l.reverse)->CT (mkB (l.dropWhile p).reverse))
 |[]=>⟨λh=>h,λh=>h⟩
 | b::l=>by
  have ih:=CT.dw hp l;rw[Jd];cases hb:p b with
  |false=>exact⟨λh=>h,λh=>h⟩
  |true=>
   rw[Zs rfl];refine⟨λh=>ih.1 (h.tl (hp b hb)),λh=>ih.2 ?_⟩;rw[List.reverse_cons]at h;exact h.ini (hp b hb)
def dw_sub{p:Xg->Yv}{l:F Xg}{x:Xg}(h:x∈l.dropWhile p):x∈l:=(List.dropWhile_sublist p).subset h
def dw_hd{p:Xg->Yv}:∀(l:F Xg)(x:Xg),(l.dropWhile p).head? =O x->p x=B
 |[],x,h=>by cases h
 | b::l,x,h=>by
  rw[Jd]at h;cases hb:p b with
  |true=>rw[hb,Zs rfl]at h;exact dw_hd l x h
  |false=>
   rw[hb,Zy ku]at h;obtain rfl:b=x:=by simpa using h
   exact hb
def trm_ct{u p:C}(hp:∀ k,k<p.size->Y p k<128)(h:CT u):CT (trmB u p)/\∀ b∈(trmB u p).data.toList,b∈u.data.toList:=by
 have hq:∀ b:Xg,p.data.toList.contains b=K->b.toNat<128:=λb hb=>by
  obtain⟨j,hj,he⟩:=Qo (Iw.1 hb);have:=hp j (by rw[sz_l];exact hj);rw[Vib,Ze,Zi hj,he]at this;exact this
 have e:trmB u p=mkB ((u.data.toList.reverse.dropWhile (p.data.toList.contains ·)).reverse.dropWhile (p.data.toList.contains ·)):=by unfold trmB Dx De J9;rfl
 rw[e];refine⟨(CT.dw hq _).1 ((CT.dw hq _).2 (by rw[List.reverse_reverse,mkB_l];exact h)),λb hb=>?_⟩;have hb:=dw_sub (show b∈_ from by simpa[mkB]using hb);have hb:=dw_sub (Jt.1 hb);exact Jt.1 hb
def trm_tr(u:C):trmP (trmB u ⟨#[32]⟩)=true:=by
 obtain⟨p,hp⟩:∃ p:Xg->Yv,p=(λb=>[(32:Xg)].contains b):=⟨_,rfl⟩
 have e:trmB u ⟨#[32]⟩=mkB ((u.data.toList.reverse.dropWhile p).reverse.dropWhile p):=by rw[hp];unfold trmB Dx De J9;rfl
 have hne:∀ x:Xg,p x=B->¬ ((x.toNat:J):I)=32:=λx hx h=>by
  have:x=32:=Jz.1 (by show x.toNat=32;omega);rw[this,hp]at hx;cases hx
 rw[e];generalize hD:u.data.toList.reverse.dropWhile p=D;have hh:∀ x,D.head? =O x->p x=false:=λx hx=>dw_hd _ x (by rw[hD];exact hx)
 generalize ht:D.reverse.dropWhile p=t;have h1:∀ x,t.head? =O x->p x=false:=λx hx=>dw_hd _ x (by rw[ht];exact hx)
 have h2:∀ x,t.getLast? =O x->p x=false:=λx hx=>hh x (by
  have hw:=List.takeWhile_append_dropWhile (p:=p) (l:=D.reverse);rw[ht]at hw
  rw[<-List.getLast?_reverse, <-hw,List.getLast?_append,hx];rfl)
 unfold trmP;refine Va5 (λb:Yv=>b=K) (λ_=>rfl) (λq=>?_);cases t with
 |nil=>cases q
 | cons x r=>
  rw[Vr1,Via,Via];have k1:=hne x (h1 x rfl);have hl:(((((x::r).length:J):I)-1).toNat)=r.length:=ku;rw[hl];have hlast:(x::r).getLast? =O ((x::r).getD r.length 0):=by
   rw[Qu,Ze,Xu,Nat.add_sub_cancel,Zi ku];rfl
  have k2:=hne _ (h2 _ hlast);rw[show(((((x::r).getD 0 0).toNat:J):I) !=32)=K from Yt.2 k1,Zf];exact Yt.2 k2
end
end Go.Proofs.YthbpjmogdonlkaaGreatDoor
