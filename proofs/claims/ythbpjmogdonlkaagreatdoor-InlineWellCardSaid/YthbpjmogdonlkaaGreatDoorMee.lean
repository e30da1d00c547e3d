/- Texts joined by a program (merge.py). -/
import Derived.Test.YthbpjmogdonlkaaGreatDoorMed
import Derived.Test.YthbpjmogdonlkaaGreatDoorMec
import Derived.Shelf.Strconv.Itoa3
import Derived.Shelf.Strconv.Atoi
import Derived.Lib.AtoiErrMem
import Derived.OrdersIn
import Derived.AtR
import Derived.RangeFuncSeq
import Derived.RangeFuncNested
import Derived.RangeFuncBound
import Derived.RangeFuncCalls
import Derived.RangeFuncLeaves
import Derived.RangeFuncKeeps
import Derived.RangeFuncFrom
import Derived.Shelf.Abstract
import Derived.WalkKit
import Derived.OwnWalkIn
import Derived.TacticsInMore
import Derived.LoopNIn
import Derived.LoopIn
import Derived.KernelRfl
set_option linter.unusedSimpArgs false
set_option linter.unusedVariables false
set_option maxRecDepth 100000
set_option maxHeartbeats 4000000
set_option linter.defProp false
open ByteArray renaming extract->Za,size->Zd,size_extract->Yc,size_append->Yp,append_assoc->Xx,ext->I3,push->Jy
open Int renaming toNat->Zb,natCast_nonneg->Yi,le_refl->Ym
open _root_ renaming ByteArray->Zc,List->H,Int->F,of_decide_eq_false->Zh,cond_false->Zi,cond_true->Zj,Nat->E,trivial->Zm,of_decide_eq_true->Zo,cond->Zu,or_false->Z0,absurd->Yr,decide_eq_true->Xc,if_neg->Xv,if_pos->Qa,True->Qb,Bool->Qj,decide_eq_false->Qk,true_and->Qp,bne_iff_ne->Q6,ne_of_beq_false->Ii,beq_false_of_ne->Jn,Unit->Jt,Option->J2,Array->J9,False->De
open Bool renaming false->Ze,true->Zs,not_false->Yu,not_true->Y4,false_eq_true->I5
open Go.Proofs.YthbpjmogdonlkaaGreatDoor renaming DInline->Zf,BYi->Z2,DPiece->Z5,DAttr->Yn,skpS_L0->Qe,runE_L0->Q5,DCited->Ig,DElem->Ik,RingL->I9,size_push->Jd,DEm->Jl,nxtN_L0->Dc
open Go.Proofs.Tryz renaming prog->Zg,func90->Yg,f140->Yl,f138->Yx,f136->Y7,f94->Iq,func284->I6,func282->I7,func189->I8,func95->J4
open List renaming not_mem_nil->Zk,mem_cons->Zl,length_map->Zx,getElem?_cons_zero->Zz,getElem?_cons_succ->Z3,cons_append->Z4,getElem?_eq_getElem->Z6,append_assoc->Z9,nil_append->Ye,map_congr_left->Yf,length_cons->Yj,mem_map->Yk,drop_eq_getElem_cons->Yo,mem_append_left->Yt,nodup_append->Yy,mem_append->Yz,length_nil->Y0,dropLast_cons_of_ne_nil->Y1,append_toArray->Y2,all_eq_true->Y5,length_append->Y6,size_toArray->Y8,push_toArray->Y9,map_cons->Xa,filter_append->Xf,nodup_cons->Xh,sizeOf_lt_of_mem->Xj,pairwise_append->Xk,getD_eq_getElem?_getD->Xl,map_map->Xn,getElem?_eq_some_iff->Xo,map_append->Xu,take_append_drop->Xy,length_take->Qd,length->Qi,mem_filter->Ql,take_succ_cons->Qm,getElem?_take->Qr,getElem?_append_right->Qs,getElem?_append_left->Qt,lookup->Qu,getElem?_map->Qv,filter_congr->Qw,map_drop->Qz,pairwise_singleton->Q1,length_eq_zero_iff->Q3,filter_cons_of_pos->Q4,range->Ib,drop_eq_nil_of_le->Ic,singleton_append->Il,length_singleton->Im,getElem?_toArray->Ip,mem_of_mem_take->Iu,mem_of_getElem?->Iv,dropLast_concat->Iw,getElem_of_mem->I1,append_of_mem->I4,getElem_take->Jb,length_drop->Jh,getElem_mem->Ji,replicate->Ju,mem_range->Jv,drop_drop->Jw
open Decidable renaming decide->Zn
open Option renaming none->Zp,some->Zq,map_eq_some_iff->Q9,map_some->Jo
open Array renaming getElem?_eq_some_iff->Zr,replicate_zero->Yv,replicate_succ->Yw,getElem?_modify->Xz,getElem?_eq_none->Ih,toList_inj->Jj
open Nat renaming le_refl->Zt,lt_succ_self->Zv,le_trans->Yh,zero_le->Ys,lt_or_ge->Xe,reduceSub->Xq,reduceAdd->Xr,eq_zero_or_pos->Qq,le_add_right->Q0,succ_pos->Ia,pow_le_pow_right->Ir,not_lt_zero->Jq,add_assoc->J1,zero_add->J3
open Go renaming World->Zw,Value->Yb,Program->Xs,callsIn_wide->Xw,callsIn_of_wp->Qf,undef->Qo,KeepsOthers->Qy,CallsIn->I0,OwnFrom->Ja,run_takeDeferred->Je,TypeId->Jg,grownBy_putObj'->Jm,ownFrom_below->J0,FuncId->Db,Operand->Dd,Calls->Df
open Go.World renaming putObj_heap_other->Zy,cell?->Z7,alloc_heap_new->Ya,size_alloc->Xd,frozen?->Xi,setCell->Qg,putObj_heap_same->Q7
open Option.some renaming injEq->Z1,inj->Dh
open Go.RowKit.Below renaming heap_alloc->Z8,refl->Jz
open SizeOf renaming sizeOf->Yd
open Go.Eng.SV renaming keys->Yq
open Go.Lib renaming decDigits->Y3,size_eq->J5,atoi->J6
open Go.Fence renaming wide->Xb
open Go.Proofs.YthbpjmogdonlkaaGreatDoor.DInline.mk renaming sizeOf_spec->Xg
open Go.Proofs.YthbpjmogdonlkaaGreatDoor.DInline renaming mk->Xm
open Go.RowKit renaming Below->Xp
open Go.Oper renaming semAt_some->Xt
open Go.Eng renaming OkSV->Qc,Rep->I2,byt->Jc,ABox->Jk,OUT->Jp,ENb->J7,BEGb->J8,Uni->Da,Weak->Dg,NXW->Di
open Go.Value renaming slice->Qh,agg->Jf,ownBlock->Jr,bool->Js
open Go.KeepsOthers renaming setCell->Qn,alloc->Qx
open Go.Sem renaming run_bind->Q8
open False renaming elim->Ie
open Go.Value.agg renaming injEq->Ij
open Eq renaming trans->Iy
open Go.Obj renaming cells->Iz
namespace Go.Proofs.YthbpjmogdonlkaaGreatDoor
section
open Go Go.Eng
def isC(x:Zf):Bool:=x.fKind==4
def NB:H Qj->Prop
 |a::b::l=>¬ (a=Zs/\b=Zs)/\NB (b::l)
 |_=>Qb
def Veq:∀(X Y:H Qj),NB (X++Ze::Y) ↔ NB X/\NB Y
 |[],[]=>by simp[NB]
 |[],y::Y=>by simp[NB]
 |[a],Y=>by
  have:=Veq [] Y;simp only[Ye]at this;simp only[Z4,Ye];rw[NB,this];simp[NB]
 |a::b::X,Y=>by
  have:=Veq (b::X) Y;simp only[Z4]at this ⊢;rw[NB,this,NB,and_assoc]
def Vmi:∀(X Y:H Qj),NB (X++Y)->NB X
 |[],_,_=>trivial
 |[a],_,_=>trivial
 |a::b::X,Y,h=>⟨h.1,Vmi (b::X) Y h.2⟩
def NB_tt(X:H Qj)(h:NB (X++[Zs])):NB ((X++[Zs])++[Ze]):=by
 have:=(Veq (X++[Zs]) []).2 ⟨h,Zm⟩;exact this
def NC(l:H Zf):Prop:=NB (l.map isC)
def isCp(p:Z5):Bool:=Zu (isrP p) Ze (isC p.fInline)
structure PsN (ps:H Z5):Prop where
 kp:∀ v,v<ps.length->isrP (el ps v)=Zs\/Vf9 (el ps v)=Zs
 nb:∀ v,v+1<ps.length->¬ (isCp (el ps v)=Zs/\isCp (el ps (v+1))=Zs)
def nxC(ps:H Z5):E->Qj
 |0=>Zs
 |v+1=> !isCp (el ps v)
structure PT where
 f:Zf->E
 P:Zf->Prop
 N:Prop
 ft:∀ t,f (txI t)<=8+t.size
 fk:∀ k l,(k=6\/k=7\/k=8)->f (prI k l)<=9+(l.map f).sum
 pt:∀ c n,(c=⟨#[42]⟩\/c=⟨#[95]⟩\/c=⟨#[126]⟩)->0<n->P (txI (repB c n))
 pk:∀ k l,(k=6\/k=7\/k=8)->l≠[]->(N->NC l)->(∀x∈l,P x)->P (prI k l)
def pot(T:PT)(e:Jl):Nat:=Zu e.frun (20*e.fleft.toNat) (T.f e.fin)
def ppP(T:PT)(p:Z5):Nat:=Zu (isrP p) (20*p.fN.toNat) (Zu (Vf9 p) (T.f p.fInline) 0)
def ppS(T:PT)(ps:H Z5):E->E
 |0=>0
 |v+1=>ppS T ps v+ppP T (el ps v)
def ppS_mono(T:PT)(ps:H Z5){v w:E}(h:v<=w):ppS T ps v<=ppS T ps w:=by
 induction h with
 |refl=>exact Zt _
 |step _ ih=>exact Yh ih (Q0 _ _)
def eqs_eq{s t:Zc}(h:eqs s t=Zs):s=t:=by
 unfold eqs at h;exact I3 (Array.ext' (eq_of_beq h))
def isr_c{p:Z5}(h:isrP p=Zs):p.fChar=⟨#[42]⟩\/p.fChar=⟨#[95]⟩\/p.fChar=⟨#[126]⟩:=by
 unfold isrP at h;cases h1:eqs p.fChar ⟨#[42]⟩with
 |true=>exact .inl (eqs_eq h1)
 | false=>
  cases h2:eqs p.fChar ⟨#[95]⟩with
  |true=>exact .inr (.inl (eqs_eq h2))
  |false=>
   cases h3:eqs p.fChar ⟨#[126]⟩with
   |true=>exact .inr (.inr (eqs_eq h3))
   |false=>rw[h1,h2,h3]at h;cases hk:((p.fKind:F) !=1) <;>rw[hk]at h <;>cases h
def runT_pot{ps:H Z5}(T:PT){e:Jl}(h:e.frun=Zs->RunI ps e):T.f (runT ps e)<=pot T e:=by
 unfold runT pot;cases hr:e.frun with
 |false=>exact Zt _
 |true=>
  have h1:=(h hr).lf;have h2:=T.ft (repB (runC ps e) e.fleft.toNat);have h3:=(isr_n (h hr).is).2.2;rw[repB_sz,show(runC ps e).size=1 from h3]at h2;simp only[Zj];omega
def runT_prd{ps:H Z5}(T:PT){e:Jl}(h:e.frun=Zs->RunI ps e)(hp:e.frun=Ze->T.P e.fin):T.P (runT ps e):=by
 unfold runT;cases hr:e.frun with
 |false=>exact hp hr
 |true=>
  have h1:=(h hr).lf;exact T.pt _ _ (isr_c (h hr).is) kv
def smL(g:Jl->E)(els:H Jl)(R:H E):Nat:=(R.map (λx=>g (el els x))).sum
def Vfv(g:Jl->E)(els:H Jl)(X Y:H E):smL g els (X++Y)=smL g els X+smL g els Y:=by simp[smL]
def Vd7(g:Jl->E)(els:H Jl)(x:E)(Y:H E):smL g els (x::Y)=g (el els x)+smL g els Y:=by simp[smL]
def Vk3{g:Jl->E}{els els':H Jl}{X:H E}(h:∀ x∈X,g (el els' x)=g (el els x)):smL g els' X=smL g els X:=by
 unfold smL;congr 1;exact Yf h
def lfN(e:Jl):Nat:=e.fleft.toNat
def isR(els:H Jl)(x:E):Bool:=(el els x).frun
def kdC(els:H Jl)(x:E):Bool:=Zu (el els x).frun Ze (isC (el els x).fin)
def kdC_runT(ps:H Z5)(els:H Jl)(x:E):isC (runT ps (el els x))=kdC els x:=by
 unfold runT kdC;cases(el els x).frun <;>rfl
def kdC_same{els els':H Jl}{x:E}(h1:(el els' x).frun=(el els x).frun)(h2:(el els' x).fin=(el els x).fin):kdC els' x=kdC els x:=by unfold kdC;rw[h1,h2]
structure EI (T:PT) (ps:H Z5) (s:ES) (R:H E) (v:E):Prop where
 ring:I9 s.els (0::(R++[0]))
 run:∀ x∈R,(el s.els x).frun=Zs->RunI ps (el s.els x)
 srt:(R.filter (isR s.els)).Pairwise (· < ·)
 asc:∀ i,(s.O i).Pairwise (· < ·)
 mem:∀ i,∀x∈s.O i,∃r∈R,x=((r:E):F)/\(el s.els r).frun=Zs
 sum:s.prs.length+smL lfN s.els R<=262144*v
 len:s.els.length<=1+v+s.prs.length
 wgt:smL (pot T) s.els R<=ppS T ps v
 prd:∀ x∈R,(el s.els x).frun=Ze->T.P (el s.els x).fin
 nc:T.N->NB (R.map (kdC s.els)++[nxC ps v])
section
variable {T:PT}
def EI.mono{ps:H Z5}{s:ES}{R:H E}{v w:E}(h:EI T ps s R v)(hw:v<=w)(hn:T.N->De):EI T ps s R w:=⟨h.ring,h.run,h.srt,h.asc,h.mem,Yh h.sum (Nat.mul_le_mul_left _ hw),by have:=h.len;omega,Yh h.wgt (ppS_mono T ps hw),h.prd,λq=>(hn q).elim⟩
def EI.pos{ps:H Z5}{s:ES}{R:H E}{v:E}(h:EI T ps s R v):0<s.els.length:=h.ring.lt 0 ku
def EI.lt{ps:H Z5}{s:ES}{R:H E}{v:E}(h:EI T ps s R v){x:E}(hx:x∈R):x<s.els.length:=h.ring.lt x (by simp[hx])
def EI.size{ps:H Z5}{s:ES}{R:H E}{v:E}(h:EI T ps s R v)(hv:v<=2048):s.els.length<=600000000/\s.prs.length<=600000000:=by
 have h1:=h.sum;have h2:=h.len;omega
def asc_len{n:E}{l:H F}(ha:l.Pairwise (· < ·))(hb:∀ x∈l,∃r:E,x=((r:E):F)/\r<n):l.length<=n:=by
 have h1:(l.map Zb).length<=n:=by
  refine Vqz n _ ?_ (λy hy=>?_)
  ·rw[List.Nodup,List.pairwise_map];refine List.Pairwise.imp_of_mem (λ{x y} hx hy hxy=>?_) ha;obtain⟨r,rfl,_⟩:=hb x hx;obtain⟨q,rfl,_⟩:=hb y hy;omega
  ·obtain⟨x,hx,rfl⟩:=Yk.1 hy;obtain⟨r,rfl,h⟩:=hb x hx;exact h
 simpa using h1
def EI.olen{ps:H Z5}{s:ES}{R:H E}{v:E}(h:EI T ps s R v)(i:E):(s.O i).length<=s.els.length:=
 asc_len (h.asc i) (λx hx=>by obtain⟨r,h1,h2,_⟩:=h.mem i x hx;exact⟨r,h2,h.lt h1⟩)
end
def exN_last(last:F)(l:H F):∀ r,0<exN last l r->el l (exN last l r-1)<=last
 |0,h=>Yr h (by simp[exN])
 | r+1,h=>by
  rw[exN_s]at h ⊢;cases hx:Zn (el l r>last)with
  |true=>
   rw[hx,Zj]at h;exact exN_last last l r h
  |false=>
   have:=Zh hx;simp only[Zi,Nat.add_sub_cancel];omega
def exL_mem{last:F}{l:H F}(ha:l.Pairwise (· < ·)){x:F}(hx:x∈exL last l):x∈l/\x<=last:=by
 have hm:x∈l:=Iu hx;refine⟨hm,?_⟩;unfold exL at hx;obtain⟨j,hj,rfl⟩:=I1 hx;have hj2:j<exN last l l.length/\j<l.length:=by
  have h0:=hj;rw[Qd]at h0;exact⟨kv,kv⟩
 have hk:0<exN last l l.length:=kv;have h1:=exN_last last l l.length hk;have hle:=exN_le last l l.length;have hlt:exN last l l.length-1<l.length:=kv;rw[show el l (exN last l l.length-1)=l[exN last l l.length-1] by simp[el,hlt]]at h1;rw[Jb]
 by_cases he:j=exN last l l.length-1
 ·subst he;exact h1
 ·have:=List.pairwise_iff_getElem.1 ha j (exN last l l.length-1) hj2.2 hlt (by have:=hj2.1;omega);omega
def opS_mem(bef near:F):∀ l:H F,opS bef near l=near\/(opS bef near l∈l/\opS bef near l≠bef)
 |[]=>.inl rfl
 | x::r=>by
  unfold opS;cases Zn (x<=near)with
  |true=>exact .inl rfl
  | false=>
   cases hb:(bef !=x)with
   |true=>exact .inr ⟨ku,by simpa using λe:x=bef=>(Q6.1 hb) e.symm⟩
   |false=>
    rcases opS_mem bef near r with h|h
    ·exact .inl h
    ·exact .inr ⟨List.mem_cons_of_mem _ h.1,h.2⟩
def opF_mem(O:Ops)(cl:Z5)(bef:F):∀(n v:E)(near:F),(near=0\/((∃i,near∈O i)/\near≠bef))->(opF O cl bef n v near=0\/((∃i,opF O cl bef n v near∈O i)/\opF O cl bef n v near≠bef))
 |0,_,_,h=>h
 | n+1,v,near,h=>by
  refine opF_mem O cl bef n (v+1) _ ?_;unfold opK;cases(Zu (opA cl v) (opC cl v) Ze)with
  |true=>exact h
  |false=>
   rcases opS_mem bef near (O (chrN cl.fChar*6+v)).reverse with q|q
   ·simp only[Zi];rw[q];exact h
   ·exact .inr ⟨⟨_,by simpa using q.1⟩,q.2⟩
def opM_mem{O:Ops}{cl:Z5}{bef:F}(h:opM O cl bef>0):(∃i,opM O cl bef∈O i)/\opM O cl bef≠bef:=by
 rcases opF_mem O cl bef 6 0 0 (.inl rfl)with q|q
 ·have:opM O cl bef=0:=q;omega
 ·exact q
def split_oc{els:H Jl}{R:H E}{o c:E}(hs:(R.filter (isR els)).Pairwise (· < ·))(ho:o∈R)(hc:c∈R)(h:o<c)(ro:isR els o=Zs)(rc:isR els c=Zs):∃ A M D,R=A++o::(M++c::D):=by
 obtain⟨A,T,rfl⟩:=I4 ho;rcases Yz.1 hc with q|q
 ·rw[Xf,Q4 ro,Xk]at hs;have:=hs.2.2 c (Ql.2 ⟨q,rc⟩) o ku;omega
 ·rcases Zl.1 q with rfl|q
  ·omega
  ·obtain⟨M,D,rfl⟩:=I4 q;exact⟨A,M,D,rfl⟩
end
section
open Go Go.Eng
section
variable {T:PT} {ps:H Z5} {s:ES} {A M D:H E} {o c v:E}
def ll_eq(A M D:H E)(o c:E):0::((A++o::(M++c::D))++[0])=LL A M D o c:=by simp[LL]
def pr7_el{els:H Jl}(h:I9 els (LL A M D o c))(m:E){j:E}(hj:j≠els.length):(el (pr7 ps els o c m) j).frun=(el els j).frun/\(el (pr7 ps els o c m) j).fpiece=(el els j).fpiece/\(el (pr7 ps els o c m) j).fleft=(if j=o\/j=c then lf els j-prN els o c else(el els j).fleft)/\(el (pr7 ps els o c m) j).fin=(el els j).fin:=by
 have h7:=(Vou (ps:=ps) h m).2 j;have h5:=pr5_el (ps:=ps) h m j;have h3:=pr3_sm (ps:=ps) h m hj;refine⟨h7.2.1.trans ?_,h7.2.2.1.trans ?_,h7.2.2.2.trans ?_,h7.1.trans ?_⟩
 ·rw[h5];exact h3.2.1
 ·rw[h5];exact h3.2.2.1
 ·rw[h5,h3.2.2.2]
 ·rw[h5];exact h3.1
def pr7_new{els:H Jl}(h:I9 els (LL A M D o c))(m:E):(el (pr7 ps els o c m) els.length).frun=Ze/\(el (pr7 ps els o c m) els.length).fleft=0/\(el (pr7 ps els o c m) els.length).fin=prI (prK ps els c (prN els o c)) (btM ps els c m (nx els o)):=by
 have h7:=(Vou (ps:=ps) h m).2 els.length;have h5:=pr5_el (ps:=ps) h m els.length;have h3:=pr3_new (ps:=ps) h m;have hlt:=Vqw h;refine⟨h7.2.1.trans ?_,h7.2.2.2.trans ?_,h7.1.trans ?_⟩
 ·rw[h5];exact h3.2.1
 ·rw[h5]
  show(if els.length=o\/els.length=c then _ else _)=_;rw[Xv kv];exact h3.2.2.2
 ·rw[h5];exact h3.1
def pr_left{els:H Jl}(h:I9 els (LL A M D o c))(m:E):lf (pr5 ps els o c m) o=lf els o-prN els o c/\lf (pr6 ps els o c m) c=lf els c-prN els o c:=by
 refine⟨?_,?_⟩
 ·show(el (pr5 ps els o c m) o).fleft=_;rw[pr5_el h]
  show(if o=o\/o=c then _ else _)=_;rw[Qa (.inl rfl)]
 ·refine((Vov (ps:=ps) h m).2 c).2.2.2.trans ?_;rw[pr5_el h]
  show(if c=o\/c=c then _ else _)=_;rw[Qa (.inr rfl)]
def A1_mem{els5:H Jl}{x:E}(hx:x∈A1 els5 A o):x∈A\/(x=o/\lf els5 o≠0):=by
 unfold A1 at hx;cases hz:(lf els5 o==0)with
 |true=>rw[hz]at hx;exact .inl hx
 |false=>
  rw[hz]at hx;rcases Yz.1 hx with q|q
  ·exact .inl q
  ·exact .inr ⟨by simpa using q,by simpa using hz⟩
def D1_mem{els6:H Jl}{x:E}(hx:x∈D1 els6 D c):x∈D\/(x=c/\lf els6 c≠0):=by
 unfold D1 at hx;cases hz:(lf els6 c==0)with
 |true=>rw[hz]at hx;exact .inl hx
 |false=>
  rw[hz]at hx;rcases Zl.1 hx with q|q
  ·exact .inr ⟨q,by simpa using hz⟩
  ·exact .inl q
def nR(ps:H Z5)(s:ES)(A D:H E)(o c:E):H Nat:=A1 (pr5 ps s.els o c s.els.length) A o++s.els.length::D1 (pr6 ps s.els o c s.els.length) D c
def prK_k(ps:H Z5)(els:H Jl)(c n:F):prK ps els c n=6\/prK ps els c n=7\/prK ps els c n=8:=by
 unfold prK;cases eqs (el ps (pc els c).toNat).fChar ⟨#[126]⟩with
 |true=>exact .inr (.inr rfl)
 |false=>
  cases(n==2)with
  |true=>exact .inr (.inl rfl)
  |false=>exact .inl rfl
def wLf(e:Jl)(v:F):DEm:={e with fleft:=v}
def sum_le{α:Type}{f g:α->E}:∀ {l:H α},(∀x∈l,f x<=g x)->(l.map f).sum<=(l.map g).sum
 |[],_=>Zt _
 |x::l,h=>by
  have h1:=h x ku;have h2:=sum_le (f:=f) (g:=g) (l:=l) (λy hy=>h y (by simp[hy]));simp only[Xa,List.sum_cons];omega
def nR_sum(hL:I9 s.els (LL A M D o c))(g:Jl->E)(hg:∀ x y:Jl,x.frun=y.frun->x.fin=y.fin->x.fleft=y.fleft->g x=g y):
  smL g (pr7 ps s.els o c s.els.length) (nR ps s A D o c)<=smL g s.els A+g (wLf (el s.els o) (lf s.els o-prN s.els o c))+g (el (pr7 ps s.els o c s.els.length) s.els.length)+smL g s.els D+g (wLf (el s.els c) (lf s.els c-prN s.els o c)):=by
 have hlt:=Vqw hL;have hel:=λ(j:E)(hj:j≠s.els.length)=>pr7_el (ps:=ps) hL s.els.length hj
 have hlA:∀ x∈A,x<s.els.length:=λx hx=>hL.lt x (by simp[LL,hx])
 have hlD:∀ x∈D,x<s.els.length:=λx hx=>hL.lt x (by simp[LL,hx])
 have hA:smL g (pr7 ps s.els o c s.els.length) (A1 (pr5 ps s.els o c s.els.length) A o)<=smL g s.els A+g (wLf (el s.els o) (lf s.els o-prN s.els o c)):=by
  have hAs:smL g (pr7 ps s.els o c s.els.length) A=smL g s.els A:=Vk3 (λx hx=>by
   have h0:=hel x (by have:=hlA x hx;omega);have h1:=h0.2.2.1;rw[Xv]at h1
   ·exact hg _ _ h0.1 h0.2.2.2 h1
   ·rintro(rfl|rfl)
    ·have h3:=hL.hs;unfold LL at h3;rw[Z4,Y1 ku,Xh,Vea,Yy]at h3;exact Yr rfl (h3.2.2.2 x hx x (by rw[Y1 ku];simp))
    ·have h3:=hL.ht;unfold LL at h3;rw[Vev,Yy]at h3
     exact Yr rfl (h3.2.2 x (by simp[hx]) x ku))
  unfold A1;cases(lf (pr5 ps s.els o c s.els.length) o==0)with
  |true=>simp only[Zj];omega
  |false=>
   simp only[Zi];have h0:=hel o kv;have h1:=h0.2.2.1;rw[Qa (.inl rfl)]at h1;rw[Vfv,hAs,Vd7,hg (el (pr7 ps s.els o c s.els.length) o) (wLf (el s.els o) (lf s.els o-prN s.els o c)) h0.1 h0.2.2.2 h1];simp[smL]
 have hD:smL g (pr7 ps s.els o c s.els.length) (D1 (pr6 ps s.els o c s.els.length) D c)<=smL g s.els D+g (wLf (el s.els c) (lf s.els c-prN s.els o c)):=by
  have hDs:smL g (pr7 ps s.els o c s.els.length) D=smL g s.els D:=Vk3 (λx hx=>by
   have h0:=hel x (by have:=hlD x hx;omega);have h1:=h0.2.2.1;rw[Xv]at h1
   ·exact hg _ _ h0.1 h0.2.2.2 h1
   ·have h3:=hL.ht;unfold LL at h3;rw[Vev,Yy]at h3;obtain⟨_,n2,n3⟩:=h3;rintro(rfl|rfl)
    ·exact Yr rfl (n3 x ku x (by simp[hx]))
    ·rw[Yy,Xh]at n2
     exact n2.2.1.1 (by simp[hx]))
  unfold D1;cases(lf (pr6 ps s.els o c s.els.length) c==0)with
  |true=>simp only[Zj];omega
  |false=>
   simp only[Zi];have h0:=hel c kv;have h1:=h0.2.2.1;rw[Qa (.inr rfl)]at h1;rw[Vd7,hDs,hg (el (pr7 ps s.els o c s.els.length) c) (wLf (el s.els c) (lf s.els c-prN s.els o c)) h0.1 h0.2.2.2 h1];omega
 unfold nR;rw[Vfv,Vd7];omega
def esP_ei(h:EI T ps s (A++o::(M++c::D)) v)(ho:(el s.els o).frun=Zs)(hc:(el s.els c).frun=Zs)(hoc:∀ i,∀x∈s.O i,x<((c:E):F))(hM0:M≠[]):EI T ps (esP ps s o c) (nR ps s A D o c) v/\(lf (esP ps s o c).els c>0->c∈nR ps s A D o c/\(el (esP ps s o c).els c).frun=Zs)/\(∀i,∀x∈(esP ps s o c).O i,x<((c:E):F))/\lf (esP ps s o c).els c=lf s.els c-prN s.els o c/\(esP ps s o c).els.length=s.els.length+1:=by
 have hL:I9 s.els (LL A M D o c):=by have:=h.ring;rw[ll_eq]at this;exact this
 have hlt:=Vqw hL;have hne:=oc_ne hL;have h7:=(Vou (ps:=ps) hL s.els.length).1;have hel:=λ(j:E)(hj:j≠s.els.length)=>pr7_el (ps:=ps) hL s.els.length hj
 have hnew:=pr7_new (ps:=ps) hL s.els.length;have hleft:=pr_left (ps:=ps) hL s.els.length;have ro:=(h.run o ku ho).lf;have rc:=(h.run c ku hc).lf;have hN:=prN_bd s.els o c;have lo:(el s.els o).fleft=lf s.els o:=rfl;have lc:(el s.els c).fleft=lf s.els c:=rfl;rw[lo]at ro;rw[lc]at rc;have hN1:=hN.2.1 ro.1;have hN2:=hN.2.2 rc.1;have hM:btM ps s.els c s.els.length (nx s.els o)=M.map (λx=>runT ps (el s.els x)):=by
  obtain⟨h1,h2,h3⟩:=ll_path hL;exact bt_map M o c s.els.length h1 h2 h3
 have hlen7:(pr7 ps s.els o c s.els.length).length=s.els.length+1:=by rw[pr7,pr6,Vot,Vot,pr5_len]
 have hlt2:∀ x∈A++o::(M++c::D),x≠s.els.length:=λx hx e=>by have:=h.lt hx;omega
 -- the old members
 have hmem:∀ x∈nR ps s A D o c,x=s.els.length\/(x∈A++o::(M++c::D)/\x ∉ M/\(x=o->lf s.els o-prN s.els o c≠0)/\(x=c->lf s.els c-prN s.els o c≠0)):=by
  intro x hx;have hnd:=hL.ht;unfold LL at hnd;rw[Vev,Yy]at hnd;obtain⟨n1,n2,n3⟩:=hnd;rw[Yy]at n2;obtain⟨m1,m2,m3⟩:=n2;rw[Xh]at m2;rcases Yz.1 hx with q|q
  ·rcases A1_mem q with u|⟨rfl,u⟩
   ·clear q;refine .inr ⟨by simp[u],λhm=>n3 x (by simp[u]) x (by simp[hm]) rfl,λe=>?_,λe=>?_⟩
    ·subst e;have h2:=hL.hs;unfold LL at h2;rw[Z4,Y1 ku,Xh,Vea,Yy]at h2;exact Yr rfl (h2.2.2.2 x u x (by rw[Y1 ku];simp))
    ·subst e;exact Yr rfl (n3 x (by simp[u]) x ku)
   ·exact .inr ⟨ku,λhm=>n3 x ku x (by simp[hm]) rfl,λ_=>by rw[<-hleft.1];exact u,λe=>Yr e hne⟩
  ·rcases Zl.1 q with q|q
   ·exact .inl q
   ·rcases D1_mem q with u|⟨rfl,u⟩
    ·clear q;refine .inr ⟨by simp[u],λhm=>m3 x hm x (by simp[u]) rfl,λe=>?_,λe=>?_⟩
     ·subst e;exact Yr rfl (n3 x ku x (by simp[u]))
     ·subst e;exact Yr (Yt _ u) m2.1
    ·exact .inr ⟨ku,λhm=>m3 x hm x ku rfl,λe=>Yr e.symm hne,λ_=>by rw[<-hleft.2];exact u⟩
 have hlf:lf (pr7 ps s.els o c s.els.length) c=lf s.els c-prN s.els o c:=by
  have:=(hel c kv).2.2.1;rw[Qa (.inr rfl)]at this;exact this
 have hko:kdC s.els o=false:=by unfold kdC;rw[ho];rfl
 have hkc:kdC s.els c=false:=by unfold kdC;rw[hc];rfl
 have hnc:T.N->NB (A.map (kdC s.els))/\NB (M.map (kdC s.els))/\NB (D.map (kdC s.els)++[nxC ps v]):=λq=>by
  have:=h.nc q;rw[Xu,Xa,Xu,Xa,hko,hkc,Z9,Z4,Z9,Z4,Veq,Veq]at this;exact this
 refine⟨⟨h7,λx hx hr=>?_,?_,λi=>?_,λi x hx=>?_,?_,?_,?_,λx hx hr=>?_,λq=>?_⟩,λhpos=>?_,λi x hx=>hoc i x (Iu hx),hlf,hlen7⟩
 ·-- runs
  rcases hmem x hx with rfl|⟨q1,q2,q3,q4⟩
  ·have e:(el (esP ps s o c).els s.els.length).frun=false:=hnew.1;rw[e]at hr;cases hr
  ·obtain⟨e1,e2,e3,_⟩:=hel x (hlt2 x q1);have hr0:=h.run x q1 (by rw[<-e1];exact hr);have hl0:=hr0.lf;have lx:(el s.els x).fleft=lf s.els x:=rfl;rw[lx]at hl0;have e4:(el (esP ps s o c).els x).fpiece=(el s.els x).fpiece:=e2;refine⟨by rw[e4];exact hr0.pc,by rw[e4];exact hr0.is,?_⟩;have e3':(el (pr7 ps s.els o c s.els.length) x).fleft=_:=e3
   show 1<=(el (pr7 ps s.els o c s.els.length) x).fleft/\(el (pr7 ps s.els o c s.els.length) x).fleft<=262144;rw[e3']
   by_cases hx2:x=o\/x=c
   ·rw[Qa hx2];rcases hx2 with rfl|rfl
    ·have:=q3 rfl;omega
    ·have:=q4 rfl;omega
   ·rw[Xv hx2];exact hl0
 ·-- they ascend
  have hs:=h.srt;have e1:∀ x∈A++o::(M++c::D),isR (pr7 ps s.els o c s.els.length) x=isR s.els x:=λx hx=>(hel x (hlt2 x hx)).1
  refine hs.sublist ?_
  show((A1 _ A o++s.els.length::D1 _ D c).filter (isR (pr7 ps s.els o c s.els.length))).Sublist _;rw[Xf,List.filter_cons_of_neg (by show ¬(el (pr7 ps s.els o c s.els.length) s.els.length).frun=Zs;rw[hnew.1];simp)];rw[show A++o::(M++c::D)=(A++[o])++(M++c::D) by simp,Xf];refine List.Sublist.append ?_ ?_
  ·rw[Qw (q:=isR s.els) (λx hx=>e1 x (by rcases A1_mem hx with q|⟨q,_⟩ <;>simp[q]))];refine List.Sublist.filter _ ?_;unfold A1;cases(lf (pr5 ps s.els o c s.els.length) o==0)with
   |true=>exact List.sublist_append_left A [o]
   |false=>exact List.Sublist.refl _
  ·rw[Qw (q:=isR s.els) (λx hx=>e1 x (by rcases D1_mem hx with q|⟨q,_⟩ <;>simp[q]))];refine List.Sublist.filter _ (List.Sublist.trans (?_:(D1 (pr6 ps s.els o c s.els.length) D c).Sublist (c::D)) (List.sublist_append_right _ _));unfold D1;cases(lf (pr6 ps s.els o c s.els.length) c==0)with
   |true=>exact List.sublist_cons_self c D
   |false=>exact List.Sublist.refl _
 ·exact(h.asc i).sublist (List.take_sublist _ _)
 ·-- openers
  obtain⟨q1,q2⟩:=exL_mem (h.asc i) hx;obtain⟨r,r1,rfl,r3⟩:=h.mem i x q1;have hlast:prL ps s.els o c s.els.length<=o/\(prL ps s.els o c s.els.length=o->lf (pr5 ps s.els o c s.els.length) o≠0):=by
   unfold prL;cases hz:(lf (pr5 ps s.els o c s.els.length) o==0)with
   |true=>simp only[Zj];exact⟨kv,λe=>by omega⟩
   |false=>simp only[Zi];exact⟨Ym _,λ_=>by simpa using hz⟩
  have hrk:=hlt2 r r1;have hfr:(el (esP ps s o c).els r).frun=true:=by
   have:=(hel r hrk).1;exact this.trans r3
  refine⟨r,?_,rfl,hfr⟩;rcases Yz.1 r1 with q|q
  ·refine Yt _ ?_;unfold A1;cases(lf (pr5 ps s.els o c s.els.length) o==0)with
   |true=>exact q
   |false=>exact Yt _ q
  ·rcases Zl.1 q with rfl|q
   ·refine Yt _ ?_;have hnz:=hlast.2 kv;unfold A1;rw[show(lf (pr5 ps s.els r c s.els.length) r==0)=Ze by simpa using hnz];simp
   ·exfalso;have hs:=h.srt;rw[Xf,Q4 (show isR s.els o=Zs from ho),Xk]at hs;have:=(List.pairwise_cons.1 hs.2.1).1 r (Ql.2 ⟨q,r3⟩);omega
 ·-- the sum
  have hs:=h.sum;rw[Vfv,Vd7,Vfv,Vd7,show lfN (el s.els o)=(lf s.els o).toNat from rfl,show lfN (el s.els c)=(lf s.els c).toNat from rfl]at hs
  show(s.prs++[prP s.els o c]).length+smL lfN (pr7 ps s.els o c s.els.length) (nR ps s A D o c)<=_;have hg:=nR_sum (ps:=ps) hL lfN (λx y _ _ e=>by unfold lfN;rw[e]);rw[show lfN (el (pr7 ps s.els o c s.els.length) s.els.length)=0 by unfold lfN;rw[hnew.2.1];rfl]at hg;rw[show lfN (wLf (el s.els o) (lf s.els o-prN s.els o c))=(lf s.els o-prN s.els o c).toNat from rfl,show lfN (wLf (el s.els c) (lf s.els c-prN s.els o c))=(lf s.els c-prN s.els o c).toNat from rfl]at hg;rw[Y6,Im];omega
 ·show(pr7 ps s.els o c s.els.length).length<=1+v+(s.prs++[prP s.els o c]).length;rw[hlen7,Y6,Im];have:=h.len;omega
 ·-- the weight
  have hs:=h.wgt;rw[Vfv,Vd7,Vfv,Vd7]at hs
  show smL (pot T) (pr7 ps s.els o c s.els.length) (nR ps s A D o c)<=_;have hg:=nR_sum (ps:=ps) hL (pot T) (λx y e1 e2 e3=>by unfold pot;rw[e1,e2,e3]);have hnp:pot T (el (pr7 ps s.els o c s.els.length) s.els.length)<=9+smL (pot T) s.els M:=by
   unfold pot;rw[hnew.1,Zi,hnew.2.2,hM];refine Yh (T.fk _ _ (prK_k _ _ _ _)) (Nat.add_le_add_left ?_ 9);rw[Xn];exact sum_le (λx hx=>runT_pot T (h.run x (by simp[hx])))
  have po:pot T (wLf (el s.els o) (lf s.els o-prN s.els o c))=20*(lf s.els o-prN s.els o c).toNat:=by unfold pot;rw[show(wLf (el s.els o) (lf s.els o-prN s.els o c)).frun=(el s.els o).frun from rfl,ho];rfl
  have pc:pot T (wLf (el s.els c) (lf s.els c-prN s.els o c))=20*(lf s.els c-prN s.els o c).toNat:=by unfold pot;rw[show(wLf (el s.els c) (lf s.els c-prN s.els o c)).frun=(el s.els c).frun from rfl,hc];rfl
  have qo:pot T (el s.els o)=20*(lf s.els o).toNat:=by unfold pot;rw[ho,Zj,lo]
  have qc:pot T (el s.els c)=20*(lf s.els c).toNat:=by unfold pot;rw[hc,Zj,lc]
  rw[po,pc]at hg;rw[qo,qc]at hs;omega
 ·-- what holds
  rcases hmem x hx with rfl|⟨q1,q2,q3,q4⟩
  ·show T.P (el (pr7 ps s.els o c s.els.length) s.els.length).fin;rw[hnew.2.2,hM];refine T.pk _ _ (prK_k _ _ _ _) (by simpa using hM0) (λq=>?_) (λy hy=>?_)
   ·unfold NC;rw[Xn,show M.map (isC ∘ λx=>runT ps (el s.els x))=M.map (kdC s.els)from Yf (λx _=>kdC_runT ps s.els x)];exact(hnc q).2.1
   obtain⟨z,hz,rfl⟩:=Yk.1 hy;exact runT_prd T (h.run z (by simp[hz])) (h.prd z (by simp[hz]))
  ·have e:=hel x (hlt2 x q1)
   show T.P (el (pr7 ps s.els o c s.els.length) x).fin;rw[e.2.2.2];exact h.prd x q1 (by rw[<-e.1];exact hr)
 ·-- no neighbours
  obtain⟨n1,n2,n3⟩:=hnc q;have hk:∀ x∈A++o::(M++c::D),kdC (esP ps s o c).els x=kdC s.els x:=λx hx=>kdC_same (hel x (hlt2 x hx)).1 (hel x (hlt2 x hx)).2.2.2
  have hkn:kdC (esP ps s o c).els s.els.length=false:=by
   unfold kdC;rw[show(el (esP ps s o c).els s.els.length).frun=Ze from hnew.1,show(el (esP ps s o c).els s.els.length).fin=_ from hnew.2.2];rcases prK_k ps s.els c (prN s.els o c)with e|e|e <;>rw[e] <;>rfl
  have hA:A.map (kdC (esP ps s o c).els)=A.map (kdC s.els):=Yf (λx hx=>hk x (by simp[hx]));have hD:D.map (kdC (esP ps s o c).els)=D.map (kdC s.els):=Yf (λx hx=>hk x (by simp[hx]));unfold nR;rw[Xu,Xa,hkn,Z9,Z4,Veq];refine⟨?_,?_⟩
  ·unfold A1;cases(lf (pr5 ps s.els o c s.els.length) o==0)with
   |true=>rw[Zj,hA];exact n1
   |false=>
    rw[Zi,Xu,hA]
    show NB (_++[kdC (esP ps s o c).els o]);rw[hk o ku,hko];exact(Veq _ []).2 ⟨n1,Zm⟩
  ·unfold D1;cases(lf (pr6 ps s.els o c s.els.length) c==0)with
   |true=>rw[Zj,hD];exact n3
   |false=>
    rw[Zi,Xa,hD,hk c ku,hkc];exact(Veq [] _).2 ⟨Zm,n3⟩
 ·-- the closer
  have hz:lf (pr6 ps s.els o c s.els.length) c≠0:=by
   rw[hleft.2];have hp:lf (pr7 ps s.els o c s.els.length) c>0:=hpos;rw[hlf]at hp;omega
  refine⟨?_,(hel c kv).1.trans hc⟩;unfold nR D1;rw[show(lf (pr6 ps s.els o c s.els.length) c==0)=Ze by simpa using hz];simp
end
end
section
open Go Go.Eng
structure ClI (s:ES) (R:H E) (c:E):Prop where
 lt:c<s.els.length
 mem:lf s.els c>0->c∈R/\(el s.els c).frun=Zs
 ops:∀ i,∀x∈s.O i,x<((c:E):F)
def clo_ei{T:PT}{ps:H Z5}{v c:E}(hv:v<=2048):∀(n:E)(s:ES)(R:H E),EI T ps s R v->ClI s R c->lf s.els c<=n->ClOk ps c n s/\∃ R',EI T ps (clM ps c n s) R' v/\ClI (clM ps c n s) R' c
 |0,s,R,h,hc,hl=>⟨⟨⟨kv,by have:=hc.lt;omega⟩,kv⟩,R,h,hc⟩
 | n+1,s,R,h,hc,hl=>by
  have hix:Ix s.els c:=⟨kv,by have:=hc.lt;omega⟩
  by_cases hp:lf s.els c>0
  ·obtain⟨hm,hr⟩:=hc.mem hp;have hrc:=h.run c hm hr;have hn:=isr_n hrc.is;have hsz:=h.size hv;have hol:∀ i,(s.O i).length<=1073741824:=λi=>by have:=h.olen i;omega
   by_cases ho:esO ps s c>0
   ·obtain⟨⟨i,hi⟩,hbf⟩:=opM_mem (show opM s.O _ _>0 from ho);have hi:esO ps s c∈s.O i:=hi;obtain⟨o,r1,r2,r3⟩:=h.mem i _ hi;have hlt:=hc.ops i _ hi;rw[r2]at hlt;obtain⟨A,M,D,rfl⟩:=split_oc h.srt r1 hm kv r3 hr;have hL:I9 s.els (LL A M D o c):=by have:=h.ring;rw[ll_eq]at this;exact this
    have hpr:=pr_ok hL h.run r3 hr kv;have hM0:M≠[]:=λe=>by
     subst e;have hq:=(RingL.at (X:=0::A) (a:=o) (b:=c) (Y:=D++[0]) (by simpa[LL]using hL)).2;exact hbf (r2.trans hq.symm)
    obtain⟨e1,e2,e3,e4,e5⟩:=esP_ei h r3 hr hc.ops hM0;have hN:=prN_bd s.els o c;have ih:=clo_ei hv n (esP ps s o c) _ e1 ⟨by rw[e5];have:=hc.lt;omega,e2,e3⟩ (by rw[e4];omega);refine⟨⟨hix,λ_=>⟨⟨hrc.pc,⟨by have:=hn.1;show 0<=(el ps (el s.els c).fpiece.toNat).fN;omega,by have:=hn.2.1;show(el ps (el s.els c).fpiece.toNat).fN<=_;omega⟩,hol⟩,λ_=>⟨⟨by rw[r2];exact hpr,kv,kv⟩,by rw[r2];exact ih.1⟩⟩⟩,?_⟩;have e:clM ps c (n+1) s=clM ps c n (esP ps s o c):=by
     conv=>lhs;unfold clM
     rw[Xc hp,Xc ho,Zj,Zj,r2]
    rw[e];exact ih.2
   ·have e:clM ps c (n+1) s=s:=by
     conv=>lhs;unfold clM
     rw[Xc hp,Qk ho,Zj,Zi]
    rw[e];exact⟨⟨hix,λ_=>⟨⟨hrc.pc,⟨by have:=hn.1;show 0<=(el ps (el s.els c).fpiece.toNat).fN;omega,by have:=hn.2.1;show(el ps (el s.els c).fpiece.toNat).fN<=_;omega⟩,hol⟩,λq=>Yr q ho⟩⟩,R,h,hc⟩
  ·have e:clM ps c (n+1) s=s:=by
    conv=>lhs;unfold clM
    rw[Qk hp,Zi]
   rw[e];exact⟨⟨hix,λq=>Yr q hp⟩,R,h,hc⟩
def EI.bef{T:PT}{ps:H Z5}{s:ES}{R:H E}{v:E}(h:EI T ps s R v):Ix s.els (bf s.els 0):=by
 obtain⟨X,q,hX⟩:=last_of R;have hr:I9 s.els (X++q::0::[]):=by
  have:=h.ring;rw[show 0::(R++[0])=(0::R)++[0]from rfl,hX,Z9]at this;exact this
 have hq:q<s.els.length:=hr.lt q ku;have hb:=hr.at.2;exact⟨by show 0<=(el s.els 0).fbefore;rw[hb];omega,by show(el s.els 0).fbefore<_;rw[hb];omega⟩
def ins_ei{T:PT}{ps:H Z5}{s:ES}{R:H E}{v:E}(h:EI T ps s R v)(e:Jl)(he:e.frun=Zs->RunI ps e)(hl:e.fleft.toNat<=262144)(hw:pot T e<=ppP T (el ps v))(hq2:e.frun=Ze->T.P e.fin)(hcn:T.N->e.frun=Ze->isC e.fin=Zs->nxC ps v=Zs/\nxC ps (v+1)=Ze):EI T ps (insS s e) (R++[s.els.length]) (v+1)/\Sm (el (insS s e).els s.els.length) e:=by
 obtain⟨X,q,hX⟩:=last_of R;have hr:I9 s.els (X++q::0::[]):=by
  have:=h.ring;rw[show 0::(R++[0])=(0::R)++[0]from rfl,hX,Z9]at this;exact this
 have hq:q<s.els.length:=hr.lt q ku;have h0:=h.pos;have hb:=hr.at.2;have hrn:I9 (insS s e).els (0::((R++[s.els.length])++[0])):=by
  have:=hr.ins e;rw[show 0::((R++[s.els.length])++[0])=(0::R)++s.els.length::0::[] by simp,hX,Z9];exact this
 have hsm:∀ j,j≠s.els.length->Sm (el (insS s e).els j) (el s.els j):=λj hj=>insM_sm hq h0 hb hj
 have hnew:Sm (el (insS s e).els s.els.length) e:=insM_new hq h0 hb;have hne:∀ x∈R,x≠s.els.length:=λx hx q=>by have:=h.lt hx;omega
 refine⟨⟨hrn,λx hx hf=>?_,?_,h.asc,λi x hx=>?_,?_,?_,?_,λx hx hf=>?_,λq=>?_⟩,hnew⟩
 ·rcases Yz.1 hx with q1|q1
  ·have hs:=hsm x (hne x q1);have:=h.run x q1 (by rw[<-hs.2.1];exact hf);exact⟨by rw[hs.2.2.1];exact this.pc,by rw[hs.2.2.1];exact this.is,by rw[hs.2.2.2];exact this.lf⟩
  ·have q1:x=s.els.length:=by simpa using q1
   subst q1;have:=he (by rw[<-hnew.2.1];exact hf);exact⟨by rw[hnew.2.2.1];exact this.pc,by rw[hnew.2.2.1];exact this.is,by rw[hnew.2.2.2];exact this.lf⟩
 ·rw[Xf,Qw (p:=isR (insS s e).els) (q:=isR s.els) (λx hx=>(hsm x (hne x hx)).2.1),Xk];refine⟨h.srt,?_,λx hx y hy=>?_⟩
  ·exact List.Pairwise.sublist (List.filter_sublist ..) (Q1 _ _)
  ·have:=h.lt ((Ql.1 hx).1);have hy:=(Ql.1 hy).1;simp only[Zl,Zk,Z0]at hy;omega
 ·obtain⟨r,r1,r2,r3⟩:=h.mem i x hx;exact⟨r,Yt _ r1,r2,(hsm r (hne r r1)).2.1.trans r3⟩
 ·rw[Vfv,Vk3 (els:=s.els) (λx hx=>by unfold lfN;rw[(hsm x (hne x hx)).2.2.2]),Vd7,show lfN (el (insS s e).els s.els.length)=e.fleft.toNat by unfold lfN;rw[hnew.2.2.2]];have:=h.sum;have e0:smL lfN (insS s e).els []=0:=rfl;rw[e0]
  show s.prs.length+_<=_;omega
 ·show(insM s.els e 0).length<=1+(v+1)+s.prs.length;rw[Vhz];have:=h.len;omega
 ·rw[Vfv,Vk3 (els:=s.els) (λx hx=>by unfold pot;rw[(hsm x (hne x hx)).2.1,(hsm x (hne x hx)).2.2.2,(hsm x (hne x hx)).1]),Vd7,show pot T (el (insS s e).els s.els.length)=pot T e by unfold pot;rw[hnew.1,hnew.2.1,hnew.2.2.2]];have:=h.wgt;have e0:smL (pot T) (insS s e).els []=0:=rfl;rw[e0]
  show _<=ppS T ps v+ppP T (el ps v);omega
 ·rcases Yz.1 hx with q1|q1
  ·have hs:=hsm x (hne x q1);rw[hs.1];exact h.prd x q1 (by rw[<-hs.2.1];exact hf)
  ·have q1:x=s.els.length:=by simpa using q1
   subst q1;rw[hnew.1];exact hq2 (by rw[<-hnew.2.1];exact hf)
 ·have hn:=h.nc q;rw[Xu,Yf (g:=kdC s.els) (λx hx=>kdC_same (hsm x (hne x hx)).2.1 (hsm x (hne x hx)).1)]
  show NB (_++[kdC (insS s e).els s.els.length]++_);have hke:kdC (insS s e).els s.els.length=Zu e.frun Ze (isC e.fin):=by unfold kdC;rw[hnew.2.1,hnew.1]
  rw[hke];cases hk:Zu e.frun Ze (isC e.fin)with
  |false=>rw[Z9];exact(Veq _ _).2 ⟨Vmi _ _ hn,Zm⟩
  | true=>
   have hr:e.frun=false:=by cases hr:e.frun with
    |false=>rfl
    |true=>rw[hr]at hk;cases hk
   rw[hr,Zi]at hk;obtain⟨u1,u2⟩:=hcn q hr hk;rw[u1]at hn;rw[u2];exact NB_tt _ hn
def opI_lt(p:Z5)(h:0<=p.fN):I18 (opI p):=by
 have h1:=chrN_lt p.fChar;have h2:0<=p.fN.tmod 3/\p.fN.tmod 3<3:=⟨Int.tmod_nonneg _ h,Int.tmod_lt_of_pos _ gj⟩
 have h3:(Zu p.fClose 1 0:F)=0\/(Zu p.fClose 1 0:F)=1:=by cases p.fClose <;>simp
 unfold opI;have:chrN p.fChar*6+(p.fN.tmod 3).toNat*2+(Zu p.fClose 1 0:F).toNat*1<18:=kv;generalize chrN p.fChar*6+(p.fN.tmod 3).toNat*2+(Zu p.fClose 1 0:F).toNat*1=i at this;unfold I18;omega
def mt_ei{T:PT}{ps:H Z5}(hP:∀ v,v<ps.length->isrP (el ps v)=Ze->Vf9 (el ps v)=Zs->T.P (el ps v).fInline)(hN:T.N->PsN ps){s:ES}{R:H E}{v:E}(hv:v<ps.length)(hv2:v<2048)(h:EI T ps s R v):MtOk ps v (el ps v) s/\∃ R',EI T ps (mtS ps v (el ps v) s) R' (v+1):=by
 have hsz:=h.size kv;have hPv:=hP v hv;have hNk:T.N->isrP (el ps v)=Zs\/Vf9 (el ps v)=true:=λq=>(hN q).kp v hv
 have hNc:T.N->isrP (el ps v)=Ze->isC (el ps v).fInline=Zs->nxC ps v=Zs/\nxC ps (v+1)=false:=λq e1 e2=>by
  have e3:isCp (el ps v)=true:=by unfold isCp;rw[e1];exact e2
  refine⟨?_,by show(!isCp (el ps v))=Ze;rw[e3];rfl⟩;cases v with
  |zero=>rfl
  |succ w=>
   show(!isCp (el ps w))=Zs;cases e4:isCp (el ps w)with
   |false=>rfl
   |true=>exact Yr ⟨e4,e3⟩ ((hN q).nb w hv)
 obtain⟨p,hp⟩:∃ p,p=el ps v:=⟨_,rfl⟩
 rw[<-hp]at hPv hNk hNc ⊢;have hb:=h.bef;cases hr:isrP p with
 |false=>
  refine⟨⟨kv,h.pos,hb,(λq=>by rw[hr]at q;cases q),(λq=>by rw[hr]at q;cases q),(λq=>by rw[hr]at q;cases q),(λq=>by rw[hr]at q;cases q)⟩,?_⟩;unfold mtS;rw[hr,Zi];cases hkp:Vf9 p with
  |true=>exact⟨_,(ins_ei h (mkE p.fInline) (λq=>by cases q) (Ys _) (by rw[<-hp];unfold ppP;rw[hr,hkp];exact Zt _) (λ_=>hPv hr hkp) (λq _ e=>hNc q hr e)).1⟩
  |false=>exact⟨R,h.mono (Nat.le_succ _) (λq=>by rcases hNk q with e|e;(rw[hr]at e;cases e);(rw[hkp]at e;cases e))⟩
 | true=>
  have hn:=isr_n hr;have hrun:RunI ps (rnEm v p.fN):=⟨⟨by show 0<=((v:E):F);omega,by show((v:E):F)<_;omega⟩,by show isrP (el ps ((v:E):F).toNat)=Zs;rw[show((v:E):F).toNat=v from rfl, <-hp];exact hr,⟨hn.1,hn.2.1⟩⟩
  obtain⟨h1,h3⟩:=ins_ei h (rnEm v p.fN) (λ_=>hrun) (by show p.fN.toNat<=_;have:=hn.2.1;omega) (by rw[<-hp];unfold ppP;rw[hr];exact Zt _) (λq=>by cases q) (λ_ q=>by cases q);have hlen1:(insS s (rnEm v p.fN)).els.length=s.els.length+1:=Vhz _ _ _;have hlf:lf (insS s (rnEm v p.fN)).els s.els.length=p.fN:=h3.2.2.2
  have hcl:ClI (insS s (rnEm v p.fN)) (R++[s.els.length]) s.els.length:=⟨kv,λ_=>⟨ku,h3.2.1⟩,λi x hx=>by
   obtain⟨r,r1,r2,_⟩:=h.mem i x hx;have:=h.lt r1
   omega⟩
  have hclo:=clo_ei kv p.fN.toNat _ _ h1 hcl (by rw[hlf];have:=hn.1;omega);have hA:∃ R',EI T ps (mtA ps v p s) R' (v+1)/\ClI (mtA ps v p s) R' s.els.length:=by
   unfold mtA;cases p.fClose with
   |true=>exact hclo.2
   |false=>exact⟨_,h1,hcl⟩
  obtain⟨R',a1,a2⟩:=hA;have asz:=a1.size kv;have ao:=a1.olen (opI p);have hN0:0<=p.fN:=by have:=hn.1;omega
  refine⟨⟨kv,h.pos,hb,λ_ _=>hclo.1,λ_=>⟨by show 0<=((s.els.length:E):F);omega,by show((s.els.length:E):F)<_;have:=a2.lt;omega⟩,λ_=>hN0,λ_=>⟨kv,opI_lt p hN0⟩⟩,?_⟩;unfold mtS;rw[hr,Zj];cases hmo:mtO p (mtA ps v p s) (lenS s)with
  |false=>exact⟨R',a1⟩
  | true=>
   have hpos:lf (mtA ps v p s).els s.els.length>0:=by
    unfold mtO at hmo;cases ho:p.fOpen with
    |false=>rw[ho]at hmo;cases hmo
    |true=>rw[ho,Zj]at hmo;exact Zo hmo
   obtain⟨m1,m2⟩:=a2.mem hpos;refine⟨R',a1.ring,a1.run,a1.srt,λi=>?_,λi x hx=>?_,a1.sum,a1.len,a1.wgt,a1.prd,a1.nc⟩
   ·show(updO (mtA ps v p s).O (opI p) ((mtA ps v p s).O (opI p)++[lenS s]) i).Pairwise _;unfold updO;cases Nat.beq i (opI p)with
    |false=>exact a1.asc i
    |true=>
     simp only[Zj];rw[Xk];refine⟨a1.asc _,Q1 _ _,λx hx y hy=>?_⟩;simp only[Zl,Zk,Z0]at hy;subst hy;exact a2.ops _ x hx
   ·have hx:x∈updO (mtA ps v p s).O (opI p) ((mtA ps v p s).O (opI p)++[lenS s]) i:=hx;unfold updO at hx;cases hq:Nat.beq i (opI p)with
    |false=>rw[hq]at hx;exact a1.mem i x hx
    |true=>
     rw[hq,Zj]at hx;rcases Yz.1 hx with q|q
     ·exact a1.mem _ x q
     ·simp only[Zl,Zk,Z0]at q;subst q;exact⟨s.els.length,m1,rfl,m2⟩
def mtI_ei(T:PT)(ps:H Z5):EI T ps mtI [] 0:=by
 refine⟨⟨⟨⟨rfl,rfl⟩,Zm⟩,ku,ku,λx hx=>?_⟩,(λx hx=>by cases hx),ku,(λi=>by simp[mtI]),(λi x hx=>by simp[mtI]at hx),gj,gj,Zt _,(λx hx=>by cases hx),λ_=>trivial⟩;simp at hx;subst hx;decide
def mtR_ei{T:PT}(ps:H Z5)(hP:∀ v,v<ps.length->isrP (el ps v)=Ze->Vf9 (el ps v)=Zs->T.P (el ps v).fInline)(hN:T.N->PsN ps)(hn:ps.length<=2048):∀ v,v<=ps.length->∃ R,EI T ps (mtR ps v) R v
 |0,_=>⟨[],mtI_ei T ps⟩
 |v+1,h=>by
  obtain⟨R,hR⟩:=mtR_ei ps hP hN hn v kv;exact(mt_ei hP hN kv kv hR).2
def T0:PT:=⟨λ_=>0,λ_=>Qb,De,λ_=>Ys _,λ_ _ _=>Ys _,λ_ _ _ _=>trivial,λ_ _ _ _ _ _=>trivial⟩
def mtR_ok(ps:H Z5)(hn:ps.length<=2048)(v:E)(hv:v<ps.length):MtOk ps v (el ps v) (mtR ps v):=by
 obtain⟨R,hR⟩:=mtR_ei (T:=T0) ps (λ_ _ _ _=>trivial) Ie hn v kv;exact(mt_ei (T:=T0) (λ_ _ _ _=>trivial) Ie hv kv hR).1
def mtR_bt(ps:H Z5)(hn:ps.length<=2048):BtOk ps (mtR ps ps.length).els 0 (mtR ps ps.length).els.length (nx (mtR ps ps.length).els 0)/\(mtR ps ps.length).els.length<=600000000/\0<(mtR ps ps.length).els.length:=by
 obtain⟨R,hR⟩:=mtR_ei (T:=T0) ps (λ_ _ _ _=>trivial) Ie hn ps.length (Zt _);have hsz:=hR.size hn;have hnd:=hR.ring.hs;rw[show 0::(R++[0])=(0::R)++[0]from rfl,Iw,Xh]at hnd;refine⟨bt_path R 0 0 _ hR.ring.lk hnd.1 (λx hx=>⟨hR.lt hx,RunI.ok (hR.run x hx)⟩) (Vqz _ R hnd.2 (λx hx=>hR.lt hx)),hsz.1,hR.pos⟩
def mtR_R(T:PT)(ps:H Z5)(hn:ps.length<=2048)(hP:∀ v,v<ps.length->isrP (el ps v)=Ze->Vf9 (el ps v)=Zs->T.P (el ps v).fInline)(hN:T.N->PsN ps):
  ∃R,EI T ps (mtR ps ps.length) R ps.length/\btM ps (mtR ps ps.length).els 0 (mtR ps ps.length).els.length (nx (mtR ps ps.length).els 0)=R.map (λx=>runT ps (el (mtR ps ps.length).els x)):=by
 obtain⟨R,hR⟩:=mtR_ei ps hP hN hn ps.length (Zt _);have hnd:=hR.ring.hs;rw[show 0::(R++[0])=(0::R)++[0]from rfl,Iw,Xh]at hnd;exact⟨R,hR,bt_map R 0 0 _ hR.ring.lk hnd.1 (Vqz _ R hnd.2 (λx hx=>hR.lt hx))⟩
def mtR_pt(T:PT)(ps:H Z5)(hn:ps.length<=2048)(hP:∀ v,v<ps.length->isrP (el ps v)=Ze->Vf9 (el ps v)=Zs->T.P (el ps v).fInline)(hN:T.N->PsN ps):
  ((btM ps (mtR ps ps.length).els 0 (mtR ps ps.length).els.length (nx (mtR ps ps.length).els 0)).map T.f).sum<=ppS T ps ps.length/\∀ x∈btM ps (mtR ps ps.length).els 0 (mtR ps ps.length).els.length (nx (mtR ps ps.length).els 0),T.P x:=by
 obtain⟨R,hR,hb⟩:=mtR_R T ps hn hP hN;rw[hb,Xn];refine⟨Yh (sum_le (λx hx=>runT_pot T (hR.run x hx))) hR.wgt,λx hx=>?_⟩;obtain⟨y,hy,rfl⟩:=Yk.1 hx;exact runT_prd T (hR.run y hy) (hR.prd y hy)
def mtR_nc(T:PT)(q:T.N)(ps:H Z5)(hn:ps.length<=2048)(hP:∀ v,v<ps.length->isrP (el ps v)=Ze->Vf9 (el ps v)=Zs->T.P (el ps v).fInline)(hN:T.N->PsN ps):NC (btM ps (mtR ps ps.length).els 0 (mtR ps ps.length).els.length (nx (mtR ps ps.length).els 0)):=by
 obtain⟨R,hR,hb⟩:=mtR_R T ps hn hP hN;have:=Vmi _ _ (hR.nc q);unfold NC;rw[hb,Xn,show R.map (isC ∘ λx=>runT ps (el (mtR ps ps.length).els x))=R.map (kdC (mtR ps ps.length).els)from Yf (λx _=>kdC_runT ps _ x)];exact this
def bytes_cat1(s t:Zc):Vab (s++t)=Vab s++Vab t:=by simp[Vab]
def bytes_uni1(s:Zc):Da 1 (Vab s):=by
 intro y hy;simp only[Vab,Yk]at hy;obtain⟨b,_,rfl⟩:=hy;exact⟨rfl,rfl⟩
def Vmy(t s:Zc)(g:E)(hsz:t.size+s.size<=3000000000):Va1 Zg 43 [.ptr 1000 0,jS s] [(1000,bldA t g)] (bldG g) (.av (.tup [.val (.int .i64 ((Zd s:E):F)),.val .nilIface])) [(1000,bldA (t++s) (g+1))] (bldG (g+1)):=by
 refine J8 (λ_:Jt=>.av (.tup [.val (.int .i64 ((Zd s:E):F)),.val .nilIface])) () Tryz.func43 kx ku (by simp[bldG]) (by simp[Qc,Yq]) (Vqv t g g rfl) (by simp[Qc,Yq]) (Vqv _ _ _ rfl) rfl rfl ?_;have hap:(g:E)=g/\Da 1 (Vab s)/\((Vab t:H AV).length+(Vab s:H AV).length)*1<=140737488355328:=⟨rfl,bytes_uni1 s,by rw[Vbv,Vbv];omega⟩
 refine GO (tn 3<|kg (Vfc (.own (1300,6) g 1 (Vab t)) rfl) Zm<|nq hap<|kw (show(Vab t++Vab s:H AV)=Vab (t++s)from(bytes_cat1 t s).symm) lq) kx ?_;refine J7 kx ?_ ?_
 ·intro p hp;simp only[Zl,Zk,Z0]at hp;subst hp;kernel_rfl
 ·intro p hp;simp only[bldG,Zl,Zk,Z0]at hp;subst hp;kernel_rfl
end
end Go.Proofs.YthbpjmogdonlkaaGreatDoor
namespace Go.Eng
section
open Go
section
variable {P:Xs} {α:Type}
def KZ(P:Xs)(fn:Func)(N t:E)(enc:α->H AV)(bx:H (E×Jk))(M:α):Exit->St->Prop:=EndsG P fn bx [] (.av (.fs N t (enc M))) bx []
def BEGz(N t:E)(enc:α->H AV)(M:α){f:Db}{fn:Func}{args:H SV}{bx:H (E×Jk)}(hf:P.funcs[f]? =Zq fn)(hok:Vl7 fn args bx [] (.av (.fs N t (enc M))) bx []=Zs)
  (h:Nx P (KZ P fn N t enc bx) M (start (Vbf fn) ⟨args++Ju (fn.ntmps-args.length) .junk,bx,[]⟩)):Va1 P f args bx [] (.av (.fs N t (enc M))) bx []:=by
 simp only[Vl7,Bool.and_eq_true,decide_eq_true_eq,Bool.not_eq_true',beq_iff_eq]at hok;obtain⟨⟨⟨⟨⟨⟨⟨⟨⟨⟨⟨h1,h2⟩,h3⟩,h4⟩,h5⟩,h6⟩,h7⟩,h8⟩,h9⟩,h10⟩,h11⟩,h12⟩:=hok;obtain⟨c,hb⟩:=Option.isSome_iff_exists.1 h1;have e:Vbf fn=c:=by simp[Vbf,hb]
 refine Vbt (bx1:=bx) hf hb h2 rfl h3 (λp hp=>?_) (λp hp=>?_) (λs hs=>Vd1 (Y5.1 h6 s hs)) (Vgv h7) (Vd1 h8) (Vgv h9) rfl rfl ?_ (λp hp=>?_) (λp hp=>⟨p.2,hp,λ_ _ h=>h⟩)
 ·have:=Y5.1 h4 p hp;simpa using this
 ·cases hp
 ·rw[<-e];exact h.x
 ·have:=Y5.1 h12 p hp;simpa using this
def ENz{fn:Func}{N t:E}{enc:α->H AV}{bx:H (E×Jk)}{M:α}{X:Cf}(id:E){k:Key}{g sz:E}(he:Vp7 X=Zq .ret)(h:aRes P fn (stOf X) Zs=Zq (.own k g sz (enc M)))(hk:k.2=t+1)(hg:(stOf X).gen k=g)(hid:(id,ABox.ge N)∈bx)(hlt:bx.all (λp=>decide (p.1<2000))=Zs)
  (hb:bx.map (λp=>(stOf X).bx.lookup p.1)=bx.map (λp=>Zq p.2)):Nx P (KZ P fn N t enc bx) M X:=by
 have hb':∀ p∈bx,(stOf X).bx.lookup p.1=Zq p.2:=λp hp=>List.map_inj_left.1 hb p hp
 have hl:∀ p∈bx,p.1<2000:=λp hp=>by simpa using Y5.1 hlt p hp
 have fs:FsOk bx [] (stOf X) (.own k g sz (enc M)) (.av (.fs N t (enc M))):=⟨k,g,sz,enc M,N,id,rfl,by rw[hk];rfl,hid,hl,rfl,kv,hg⟩
 unfold Vp7 at he
 split at he
 ·simp only[Z1]at he;subst he;exact⟨⟨⟨Zs,_,h,.inr fs⟩,hb',ku⟩⟩
 ·simp at he
end
end
section
variable {P:Xs}
def Vm1(N:E){f:Db}{fn:Func}{t e:Jg}{sz bt:E}{z:Yb}{i0 i1 i2 i3:E}{a0 b0 b1 c0 d0 d1 d2 d3:Oper}{t':Jg}(hf:P.funcs[f]? =Zq fn)
  (hb:fn.body=Zq (.seq (.region i0 #[a0] Ze) (.seq (.seq (.region i1 #[b0,b1] Ze) (.cond (.tmp 4) (.seq (.region i2 #[c0] Ze) .ret) .skip)) (.seq (.region i3 #[d0,d1,d2,d3] Ze) .ret))))
  (hname : (fn.name == "runtime.NumGoroutine") = false) (hn : fn.ntmps = 8) (hres : fn.results.toList = [.tmp 2])
  (ha0:a0.op=.assign (.const (.slice Zp 0 0))/\a0.dst=Zq 2/\a0.guard=Zp) (hb0:b0.op=.move (.tmp 0)/\b0.dst=Zq 3/\b0.guard=Zp) (hb1:b1.op=.binOp .eql t (.tmp 3) (.const (.slice Zp 0 0)) t'/\b1.dst=Zq 4/\b1.guard=Zp)
  (hc0:c0.op=.assign (.const (.slice Zp 0 0))/\c0.dst=Zq 2/\c0.guard=Zp) (hd0:d0.op=.buildSlice t 0 #[]/\d0.dst=Zq 5/\d0.guard=Zp) (hd1:d1.op=.move (.tmp 0)/\d1.dst=Zq 6/\d1.guard=Zp)
  (hd2:d2.op=.call {callee:=.builtin .append,args:=#[.tmp 5,.tmp 6],argTypes:=#[t,t]}/\d2.dst=Zq 7/\d2.guard=Zp) (hd3:d3.op=.assign (.tmp 7)/\d3.dst=Zq 2/\d3.guard=Zp)
  (ht:Vbe P t=Zq e) (hi:Van P e=Zq (sz,bt,Zq z)) (hz:z.cells.size=sz) (hbt:0<bt) (l:H AV) (hu:Da sz l) (hl:l.length*bt<=140737488355328):
  Va1 P f [.av (.sl l)] [(1500,.ge N)] [] (.av (.fs N e l)) [(1500,.ge N)] []:=by
 have ht':P.underlying t=Zq (.slice e):=by
  unfold Vbe at ht;split at ht
  ·rename_i hh;simp at ht;subst ht;exact hh
  ·simp at ht
 have h2:Ve1 P t=true:=by unfold Ve1;rw[ht']
 have hone:∀ p∈([(1500,ABox.ge N)]:H (E×Jk)),p=(1500,.ge N):=λp hp=>by simpa using hp
 refine Vbt (bx1:=[(1500,.ge N)]) hf hb hname hn ku (λp hp=>by rw[hone p hp];exact(by decide:(1000:E)<=1500)) ku (by intro s hs;simp at hs;subst hs;exact ok_av rfl _ _) (λp hp s hs=>by rw[hone p hp]at hs;cases hs) (ok_av rfl _ _) (λp hp s hs=>by rw[hone p hp]at hs;cases hs) rfl rfl ?_ (λp hp=>by rw[hone p hp];exact .inl (by decide:(1500:E)<2000)) (λp hp=>⟨p.2,hp,λ_ _ h=>h⟩);have hend:∀(S:St)(g:E),S.fr[2]? =Zq (.own (5,e+1) g sz l)->S.gen (5,e+1)=g->S.bx=[(1500,.ge N)]->EndsG P fn [(1500,.ge N)] [] (.av (.fs N e l)) [(1500,.ge N)] [] .ret S:=by
  intro S g h1 h3 h4;refine⟨⟨Zs,.own (5,e+1) g sz l,?_,.inr ⟨(5,e+1),g,sz,l,N,1500,rfl,rfl,ku,λp hp=>by rw[hone p hp];exact(by decide:(1500:E)<2000),rfl,Ia e,h3⟩⟩,λp hp=>by rw[hone p hp,h4];rfl,ku⟩;unfold aRes;rw[hres];simp[Vs4,h1,SV.normK]
 refine Vpn (Vam ?_);refine Vc3 ha0.2.2 (Vcn (.inr ha0.1)) Zm ?_;rw[ha0.2.1];refine Vbl rfl ?_;refine Vpn (Vpn (Vam ?_));refine Vc3 hb0.2.2 (Vcn (.inl hb0.1)) Zm ?_;rw[hb0.2.1];refine WO_isnil (l:=l) hb1.1 hb1.2.2 ht' rfl (λb hb=>?_);rw[hb1.2.1];refine Vbl rfl ?_;refine W_cond (b:=b) rfl ?_;cases b with
 | true=>
  have hl0:=hb rfl;subst hl0;simp only[if_true];refine Vpn (Vam ?_);refine Vc3 hc0.2.2 (Vcn (.inr hc0.1)) Zm ?_;rw[hc0.2.1];refine Vbl rfl ?_;refine Vaj (S':=⟨[.av (.sl []),.junk,.own (5,e+1) 0 sz [],.junk,.junk,.junk,.junk,.junk],[(1500,.ge N)],[]⟩) ?_ (W_ret (hend _ 0 rfl rfl rfl));intro G w a hr;refine⟨hr.wf,hr.size,λt s hs=>?_,hr.bx,hr.gn,hr.defers⟩
  match t,hs with
  |0,hs=>exact hr.fr 0 s hs
  |2,hs=>
   simp only[Z3,Zz,Z1]at hs;subst hs;have h2:RepS G w .nil _:=hr.fr 2 .nil rfl;have h2:a.tmps.getD 2 Qo=.slice Zp 0 0:=h2;refine⟨Ia e,Ys _,Zp,0,[],h2,rfl,ku,Zt _,λ_=>rfl,ku,.inl rfl,λ_=>.inl ⟨rfl,.inl rfl⟩⟩
  |1,hs=>simp only[Z3,Zz,Z1]at hs;subst hs;trivial
  |3,hs=>simp only[Z3,Zz,Z1]at hs;subst hs;trivial
  |4,hs=>simp only[Z3,Zz,Z1]at hs;subst hs;trivial
  |5,hs=>simp only[Z3,Zz,Z1]at hs;subst hs;trivial
  |6,hs=>simp only[Z3,Zz,Z1]at hs;subst hs;trivial
  |7,hs=>simp only[Z3,Zz,Z1]at hs;subst hs;trivial
  |t+8,hs=>simp at hs
 |false=>
  simp only[I5,if_false];refine W_skip ?_;refine Vpn (Vam ?_);refine Vc3 hd0.2.2 (Vqa 5 hd0.1 ht hi) Zm ?_;rw[hd0.2.1];refine Vc3 hd1.2.2 (Vcn (.inl hd1.1)) Zm ?_;rw[hd1.2.1]
  show WO P _ [d2,d3] _ ⟨[.av (.sl l),.junk,.nil,.av (.sl l),.av (.val (.bool Ze)),.own (5,e+1) 1 sz [],.av (.sl l),.junk],[(1500,.ge N)],[((5,e+1),1)]⟩;refine Vc3 hd2.2.2 (Vay (Vge hd2.1 hd2.2.1 rfl rfl rfl ht hi hz hbt h2)) ⟨by simp[St.gen],hu,by simpa using hl⟩ ?_;rw[hd2.2.1];refine Vc3 hd3.2.2 (Vcn (.inr hd3.1)) Zm ?_;rw[hd3.2.1];refine Vbl rfl ?_;exact W_ret (hend _ 2 rfl (by simp[St.gen,St.next,St.put,Qu]) rfl)
end
end Go.Eng
namespace Go.Proofs.YthbpjmogdonlkaaGreatDoor
section
open Go Go.Eng
def gxB(N:E):H (E×Jk):=[(1500,.ge N)]
def fsS(N:E)(l:H Zc):AV:=.fs N 9 (l.map Vak)
def fsP(N:E)(l:H DPair):AV:=.fs N 168 (l.map Vaz)
def fsC(N:E)(l:H Ig):AV:=.fs N 77 (l.map Vap)
def r3{a b c:Prop}(x:a)(y:b)(z:c):a/\b/\c:=⟨x,y,z⟩
def clnS_to(N:E)(l:H Zc)(h:l.length<=1073741824):Va1 Zg 81 [jL (l.map Vak)] (gxB N) [] (.av (fsS N l)) (gxB N) []:=
 Vm1 N (t:=29) (e:=9) (sz:=1) (bt:=16) (z:=.string ⟨#[]⟩) Tryz.func81 (Eq.refl Tryz.f81.body) kx kx kx (r3 rfl rfl rfl) (r3 rfl rfl rfl) (r3 rfl rfl rfl) (r3 rfl rfl rfl) (r3 rfl rfl rfl) (r3 rfl rfl rfl) (r3 rfl rfl rfl) (r3 rfl rfl rfl) kx kx kx gj (l.map Vak) (uni_strAV l) (by rw[Zx];omega)
def clnC_to(N:E)(l:H Ig)(h:l.length<=1073741824):Va1 Zg 82 [jL (l.map Vap)] (gxB N) [] (.av (fsC N l)) (gxB N) []:=
 Vm1 N (t:=40) (e:=77) (sz:=4) (bt:=56) (z:=.agg #[.string ⟨#[]⟩,.string ⟨#[]⟩,.string ⟨#[]⟩,.bool Ze]) Tryz.func82 (Eq.refl Tryz.f82.body) kx kx kx (r3 rfl rfl rfl) (r3 rfl rfl rfl) (r3 rfl rfl rfl) (r3 rfl rfl rfl) (r3 rfl rfl rfl) (r3 rfl rfl rfl) (r3 rfl rfl rfl) (r3 rfl rfl rfl) kx kx kx gj (l.map Vap) (uni_aCited l) (by rw[Zx];omega)
def clnP_to(N:E)(l:H DPair)(h:l.length<=1073741824):Va1 Zg 125 [jL (l.map Vaz)] (gxB N) [] (.av (fsP N l)) (gxB N) []:=
 Vm1 N (t:=37) (e:=168) (sz:=2) (bt:=32) (z:=.agg #[.string ⟨#[]⟩,.string ⟨#[]⟩]) Tryz.func125 (Eq.refl Tryz.f125.body) kx kx kx (r3 rfl rfl rfl) (r3 rfl rfl rfl) (r3 rfl rfl rfl) (r3 rfl rfl rfl) (r3 rfl rfl rfl) (r3 rfl rfl rfl) (r3 rfl rfl rfl) (r3 rfl rfl rfl) kx kx kx gj (l.map Vaz) (uni_aPair l) (by rw[Zx];omega)
def agA(N:E)(a:Yn):AV:=.agg [vS a.fID,fsS N a.fClasses,fsP N a.fPairs]
def cpyT_to(N:E)(a:Yn)(ha:Vfq a<=1073741824):Va1 Zg 80 [.av (Vph a)] (gxB N) [] (.av (agA N a)) (gxB N) []:=by
 have hwa:=Vcv a;have hw_0:=Vb9 (w:=wStr) (λ_=>Ia _) a.fClasses;have hw_1:=Vb9 (w:=Vhi) Vfp a.fPairs;have c1:=clnS_to N a.fClasses kv;have c2:=clnP_to N a.fPairs kv;refine bGs Tryz.func80 ?_;refine gO (tn 4<|kg c1 Zm<|tn 4<|kg c2 Zm i7) ?_;exact eNs
def agI(N:E)(x:Zf)(ks:H AV):AV:=.agg [(vI x.fKind),(vS x.fText),(vS x.fDest),(vS x.fTitle),(vS ((x.fAttr).fID)),fsS N x.fAttr.fClasses,fsP N x.fAttr.fPairs,fsS N x.fArgs,fsC N x.fCites,(.fs N 42 ks)]
mutual
def gI(N:E):Zf->AV
 |⟨y0,y1,y2,y3,y4,y5,y6,y7⟩=>agI N ⟨y0,y1,y2,y3,y4,y5,y6,y7⟩ (gIs N y7)
def gIs(N:E):H Zf->H AV
 |[]=>[]
 |x::l=>gI N x::gIs N l
end
def gIs_map(N:E):∀ l,gIs N l=l.map (gI N)
 |[]=>rfl
 |x::l=>by rw[gIs,gIs_map N l];rfl
def gI_eq(N:E)(x:Zf):gI N x=agI N x (x.fKids.map (gI N)):=by cases x;rw[gI,gIs_map]
def uniG(N:E)(x:Zf)(ks:H AV):Da 10 [agI N x ks]:=by
 intro y hy;simp only[List.mem_singleton]at hy;subst hy;exact⟨rfl,rfl⟩
def uniGL(N:E)(l:H Zf):Da 10 (l.map (gI N)):=by
 intro y hy;simp only[Yk]at hy;obtain⟨x,_,rfl⟩:=hy;rw[gI_eq];exact⟨rfl,rfl⟩
def mgI_to(N:E)(x:Zf)(ks:H AV)(ha:Vfq x.fAttr<=1073741824)(h1:x.fArgs.length<=1073741824)(h2:x.fCites.length<=1073741824)
  (c4:Va1 Zg 21 [jL (x.fKids.map Va2)] (gxB N) [] (.av (.fs N 42 ks)) (gxB N) []):Va1 Zg 42 [.av (Vaq x)] (gxB N) [] (.av (agI N x ks)) (gxB N) []:=by
 have c1:=cpyT_to N x.fAttr ha;have c2:=clnS_to N x.fArgs h1;have c3:=clnC_to N x.fCites h2;obtain⟨k,t,d,ti,at',ar,ci,ki⟩:=x;refine bGs Tryz.func42 ?_;refine gO (tn 4<|kg c1 Zm<|tn 4<|kg c2 Zm<|tn 4<|kg c3 Zm<|tn 4<|kg c4 Zm i7) ?_;exact eNs
def mgc(x:Zf)(r:H Zf):H DInline:=match r with
 |[]=>[x]
 |y::q=>if x.fKind=1/\y.fKind=1 then{x with fText:=x.fText++y.fText}::q else x::y::q
def mgL:H Zf->H Zf
 |[]=>[]
 |x::l=>mgc x (mgL l)
def ba_nil(s:Zc):s++(⟨#[]⟩:Zc)=s:=by apply I3;simp
def nil_ba(s:Zc):(⟨#[]⟩:Zc)++s=s:=by apply I3;simp
def sz0:Zd (⟨#[]⟩:Zc)=0:=rfl
def catT:H Zf->Zc
 |[]=>⟨#[]⟩
 |x::l=>x.fText++catT l
def catT_snoc(l:H Zf)(x:Zf):catT (l++[x])=catT l++x.fText:=by
 induction l with
 |nil=>simp only[Ye,catT];rw[ba_nil,nil_ba]
 |cons y l ih=>simp[catT,ih,Xx]
def mgc_n{x:Zf}{r:H Zf}(h:x.fKind≠1):mgc x r=x::r:=by
 unfold mgc;cases r with
 |nil=>rfl
 |cons y q=>simp only;rw[Xv (λe=>h e.1)]
def mg_run(rest:H Zf)(hr:∀ y q,rest=y::q->y.fKind≠1):∀(l:H Zf)(x:Zf),x.fKind=1->(∀y∈l,y.fKind=1)->mgL (x::(l++rest))={x with fText:=x.fText++catT l}::mgL rest:=by
 intro l
 induction l with
 | nil=>
  intro x hx _;simp only[Ye,catT];rw[ba_nil];cases rest with
  |nil=>cases x;rfl
  | cons y q=>
   have hy:=hr y q rfl;have e:mgL (x::y::q)=x::mgL (y::q):=by
    show mgc x (mgc y (mgL q))=x::mgc y (mgL q);rw[mgc_n hy];unfold mgc;simp only;rw[Xv (λe=>hy e.2)]
   rw[e];cases x;rfl
 |cons y l ih=>
  intro x hx hl;have hy:=hl y ku;have:=ih y hy (λw hw=>hl w (by simp[hw]))
  show mgc x (mgL (y::(l++rest)))=_;rw[this];unfold mgc;simp only;rw[Qa ⟨hx,hy⟩, <-Xx];simp[catT,Xx]
def eqs_sz{s:Zc}(h:eqs s ⟨#[]⟩=Zs):s.size=0:=by
 unfold eqs at h;have:=eq_of_beq h;have h2:=congrArg Qi this;simpa using h2
def catT_le(a b:H Zf):(catT (a++b)).size=(catT a).size+(catT b).size:=by
 induction a with
 |nil=>simp only[Ye,catT,sz0];omega
 |cons x a ih=>simp only[Z4,catT,Yp,ih];omega
def kG:Key:=(3,43)
def KBb:Key:=(1300,6)
def mgS(N:E)(xs:H Zf)(v g h:E)(os:H AV):St:=sx 73 [(0,jL (xs.map Va2)),(3,.own kG g 10 os),(4,jI ((v:E):F))] (gxB N) [(kG,g),(KBb,h)]
def mgT(N:E)(xs:H Zf)(j g h:E)(os:H AV)(f:F)(t:Zc):St:=sx 73 [(0,jL (xs.map Va2)),(3,.own kG g 10 os),(4,jI ((j:E):F)),(5,jI f),(6,.ptr 6 0)] (gxB N++[(6,.cells 80 [.son 6,.own KBb h 1 (Vab t)])]) [(kG,g),(KBb,h)]
def mgX(K:H Zf->H Zf)(x:Zf):DInline:={x with fKids:=K x.fKids}
structure MgO (xs:H Zf):Prop where
 len:xs.length<=1073741824
 tot:(catT xs).size<=1073741824
 one:∀ x∈xs,Vfq x.fAttr<=1073741824/\x.fArgs.length<=1073741824/\x.fCites.length<=1073741824/\(x.fKind=1->0<x.fText.size)
def mg_runX(K:H Zf->H Zf)(l:H Zf):catT (l.map (mgX K))=catT l:=by
 induction l with
 |nil=>rfl
 |cons x l ih=>simp only[Xa,catT,ih];rfl
def gos_push(N:E){os:H AV}{out:H Zf}(ho:os=out.map (gI N))(y:Zf):os++[gI N y]=(out++[y]).map (gI N):=by
 rw[ho];simp
def mgx_el(K:H Zf->H Zf)(xs:H Zf)(v:E)(h:v<xs.length):(xs.map (mgX K)).drop v=mgX K (el xs v)::(xs.map (mgX K)).drop (v+1):=by
 rw[Yo (by simpa using h)];simp[el,h]
def mg_run2(ys:H Zf)(v j:E)(hvj:v<j)(hj:j<=ys.length)(hall:∀ k,v<=k->k<j->(el ys k).fKind=1)(h3:¬ (j<ys.length/\(el ys j).fKind=1)):mgL (ys.drop v)={el ys v with fText:=catT ((ys.drop v).take (j-v))}::mgL (ys.drop j):=by
 have h1:v<ys.length:=kv;have hdr:ys.drop v=el ys v::ys.drop (v+1):=by
  rw[Yo h1];simp[el,h1]
 have h2:=hall v (Zt _) hvj;have e1:ys.drop v=el ys v::(((ys.drop v).take (j-v)).drop 1++ys.drop j):=by
  have:((ys.drop v).take (j-v))=el ys v::((ys.drop v).take (j-v)).drop 1:=by
   rw[hdr,show j-v=(j-v-1)+1 by omega,Qm];rfl
  rw[<-Z4, <-this]
  conv=>lhs;rw[<-Xy (j-v) (ys.drop v)]
  rw[Jw,show v+(j-v)=j by omega]
 have e2:catT ((ys.drop v).take (j-v))=(el ys v).fText++catT (((ys.drop v).take (j-v)).drop 1):=by
  rw[hdr,show j-v=(j-v-1)+1 by omega,Qm];simp[catT]
 rw[e2]
 conv=>lhs;rw[e1]
 refine mg_run _ ?_ _ _ h2 ?_
 ·intro w q hw;rcases Xe j ys.length with h4|h4
  ·intro e;refine h3 ⟨h4,?_⟩;rw[Yo h4]at hw;have:=(List.cons.inj hw).1;rw[<-e, <-this];simp[el,h4]
  ·rw[Ic h4]at hw;cases hw
 ·intro w hw;have hw2:=List.mem_of_mem_drop hw;obtain⟨k,hk,e⟩:=I1 hw2;rw[Qd,Jh]at hk;rw[Jb,List.getElem_drop]at e;have:=hall (v+k) kv kv;rw[<-e];simpa[el,show v+k<ys.length by omega]using this
def el_mgX(K:H Zf->H Zf)(xs:H Zf)(k:E)(h:k<xs.length):el (xs.map (mgX K)) k=mgX K (el xs k):=by simp[el,h]
def mg_to(N:E)(K:H Zf->H Zf)(xs:H Zf)(hX:MgO xs)(hI:∀ x∈xs,Va1 Zg 42 [.av (Vaq x)] (gxB N) [] (.av (gI N (mgX K x))) (gxB N) []):Va1 Zg 21 [jL (xs.map Va2)] (gxB N) [] (.av (.fs N 42 ((mgL (xs.map (mgX K))).map (gI N)))) (gxB N) []:=by
 have hlq:=Va6 Va2 xs;have hlen:=hX.len;refine BEGz N 42 (λ_:Jt=>(mgL (xs.map (mgX K))).map (gI N)) () Tryz.func21 kx ?_;refine gO i6 ?_;refine LP (n:=xs.length+1) (λn9 M S=>∃(v g h:E)(os:H AV)(out:H Zf),v<=xs.length/\os=out.map (gI N)/\out.length<=v/\out++mgL ((xs.map (mgX K)).drop v)=mgL (xs.map (mgX K))/\xs.length-v<n9/\M=()/\S=mgS N xs v g h os) kx ⟨0,0,0,[],[],kv,rfl,ku,rfl,kv,rfl,rfl⟩ (WKf [(3,.own kG 0 10 [])] (ac (show([]:H AV)=[]/\0<43/\(0:E)=0 from⟨rfl,gj,rfl⟩) an) kx) ?_;rintro n0 M S ⟨v,g,h,os,out,hv,ho,hol,hm,hF0,rfl,rfl⟩;obtain⟨n0,rfl⟩:∃ k,n0=k+1:=⟨n0-1,kv⟩
 have hos:os.length=out.length:=by rw[ho,Zx]
 by_cases h1:v<xs.length
 ·have hd:Zn (((v:E):F)<((lenM Va2 xs:E):F))=true:=dT kv;have hev:=Vb0 xs v h1;have hxm:el xs v∈xs:=Vbk (l:=xs) (i:=v) h1;obtain⟨q2,q3,q4,q5⟩:=hX.one _ hxm;have hIv:=hI _ hxm;have hdr:=mgx_el K xs v h1
  by_cases h2:(el xs v).fKind=1
  ·-- a run of texts
   have hk:(((el xs v).fKind:F) !=1)=false:=by rw[h2];rfl
   refine gO (i8 hd<|tn 2<|ke hev<|w7 hk j6) ?_;refine RT [(6,0,.son 6),(6,1,.own KBb h 1 (Vab ⟨#[]⟩))] (ac (show(AV.val (.pointer Zp))=.val (.pointer Zp)from rfl) (ac (show(Vab ⟨#[]⟩:H AV)=[]/\0<6/\h=h from⟨rfl,gj,rfl⟩) an)) kx ?_;refine LP (n:=xs.length+1) (λn9 M S=>∃(j h:E)(f:F)(t:Zc),v<=j/\j<=xs.length/\(∀k,v<=k->k<j->(el xs k).fKind=1)/\t=catT ((xs.drop v).take (j-v))/\f=(if j=v then -1 else((v:E):F))/\xs.length-j<n9/\M=()/\S=mgT N xs j g h os f t) kx ⟨v,h, -1,⟨#[]⟩,kv,kv,λk _ _=>by omega,by simp[catT],ku,kv,rfl,rfl⟩ (WK kx) ?_;rintro n1 M S ⟨j,h,f,t,hj,hj2,hall,ht,hf,hF1,rfl,rfl⟩;obtain⟨n1,rfl⟩:∃ k,n1=k+1:=⟨n1-1,kv⟩
   have htz:t.size+(catT (xs.drop j)).size<=1073741824:=by
    have e1:=catT_le ((xs.drop v).take (j-v)) ((xs.drop v).drop (j-v));rw[Xy,Jw]at e1;have e2:=catT_le (xs.take v) (xs.drop v);rw[Xy]at e2;have:=hX.tot;rw[ht];rw[show v+(j-v)=j by omega]at e1;omega
   by_cases h3:j<xs.length/\(el xs j).fKind=1
   ·obtain⟨h3,h4⟩:=h3;have hdj:Zn (((j:E):F)<((lenM Va2 xs:E):F))=true:=dT kv;have hej:=Vb0 xs j h3;have hc1:Zu (Zn (((j:E):F)<((lenM Va2 xs:E):F))) (((el xs j).fKind:F)==1) Ze=true:=by rw[hdj,h4];rfl
    obtain⟨p2,p3,p4,p5⟩:=hX.one _ (Vbk (l:=xs) (i:=j) h3);have hdj2:xs.drop j=el xs j::xs.drop (j+1):=by
     rw[Yo h3];simp[el,h3]
    have hsz:t.size+(el xs j).fText.size<=3000000000:=by
     rw[hdj2]at htz;simp only[catT,Yp]at htz;omega
    have hcw:Va1 Zg 43 [.ptr 6 0,jS (el xs j).fText] [(6,.cells 80 [.son 6,.own KBb h 1 (Vab t)])] [(KBb,h)] (.av (.tup [.val (.int .i64 ((Zd (el xs j).fText:E):F)),.val .nilIface])) [(6,.cells 80 [.son 6,.own KBb (h+1) 1 (Vab (t++(el xs j).fText))])] [(KBb,h+1)]:=Vcz kx (Vac (Vah (6,0) (1000,0) rfl) (Vmy t (el xs j).fText h hsz));have hwr:=wrE (((j:E):F)+1) ((j+1:E):F) kv;have htn:t++(el xs j).fText=catT ((xs.drop v).take (j+1-v)):=by
     rw[ht, <-catT_snoc];congr 1;rw[show j+1-v=(j-v)+1 by omega,List.take_succ_eq_append_getElem (by rw[Jh];omega)];congr 1;simp[el,h3,show v+(j-v)=j by omega]
    have hall2:∀ k,v<=k->k<j+1->(el xs k).fKind=1:=λk hk1 hk2=>by
     by_cases e:k=j
     ·rw[e];exact h4
     ·exact hall k hk1 kv
    by_cases h5:j=v
    ·have hf1:Zn (f<0)=true:=dT (by rw[hf,Qa h5];decide);have hc2:Zu (Zn (f<0)) (!eqs (el xs j).fText ⟨#[]⟩) Ze=true:=by
      rw[hf1];have:=p5 h4;cases hb:eqs (el xs j).fText ⟨#[]⟩with
      |false=>rfl
      |true=>
       have:=eqs_sz hb;omega
     refine gO (jq (Zn (((j:E):F)<((lenM Va2 xs:E):F))) (tn 2<|he (λ_=>hej) i6) z<|kb hc1<|t7 (Zn (f<0)) (tn 2<|he (λ_=>hej) i6) z<|kb hc2<|tn 4<|ke hej<|o8 hcw (show h=h/\Qb from⟨rfl,Zm⟩)<|m6 hwr m5) ?_;exact AG (m:=n1) ⟨j+1,h+1,((j:E):F),_,kv,kv,hall2,htn,by rw[Xv kv,h5],kv,rfl,rfl⟩ (WK kx) kx (Zv _)
    ·have hf1:Zn (f<0)=false:=dF (by rw[hf,Xv h5];omega);have hc2:Zu (Zn (f<0)) (!eqs (el xs j).fText ⟨#[]⟩) Ze=false:=by rw[hf1];rfl
     refine gO (jq (Zn (((j:E):F)<((lenM Va2 xs:E):F))) (tn 2<|he (λ_=>hej) i6) z<|kb hc1<|t7 (Zn (f<0)) (tn 2<|he (λ_=>hej) i6) z<|kb hc2<|tn 2<|ke hej<|o8 hcw (show h=h/\Qb from⟨rfl,Zm⟩)<|m6 hwr m5) ?_;exact AG (m:=n1) ⟨j+1,h+1,f,_,kv,kv,hall2,htn,by rw[hf,Xv h5,Xv kv],kv,rfl,rfl⟩ (WK kx) kx (Zv _)
   ·have hc1:Zu (Zn (((j:E):F)<((lenM Va2 xs:E):F))) (((el xs j).fKind:F)==1) Ze=false:=by
     by_cases h4:j<xs.length
     ·rw[dT kv];exact Jn (λe=>h3 ⟨h4,e⟩)
     ·rw[dF kv];rfl
    have hjv:j≠v:=λe=>h3 ⟨kv,by rw[e];exact h2⟩
    have hf2:f=((v:E):F):=by rw[hf,Xv hjv]
    subst hf2;have hf3:Zn (((v:E):F)>=0)=true:=dT kv;have hdx:xs.drop v=el xs v::xs.drop (v+1):=by
     rw[Yo h1];simp[el,h1]
    have htp:0<t.size:=by
     rw[ht,hdx,show j-v=(j-v-1)+1 by omega,Qm];simp only[catT,Yp];have:=q5 h2;omega
    have hcs:Va1 Zg 38 [.ptr 6 0] [(6,.cells 80 [.son 6,.own KBb h 1 (Vab t)])] [(KBb,h)] (.av (.val (.string t))) [(6,.cells 80 [.son 6,.av (.sl (Vab t))])] [(KBb,h+1)]:=Vcz kx (Vac (Vah (6,0) (1000,0) rfl) (Vmc (.son 1000) 1300 h t htp kv))
    have hyy:=mg_run2 (xs.map (mgX K)) v j kv (by rw[Zx];exact hj2) (λk k1 k2=>by rw[el_mgX K xs k kv];exact hall k k1 k2) (λe=>h3 (by
     obtain⟨e1,e2⟩:=e;rw[Zx]at e1;rw[el_mgX K xs j e1]at e2
     exact⟨e1,e2⟩))
    rw[el_mgX K xs v h1, <-Qz, <-List.map_take,mg_runX, <-ht, <-Qz]at hyy;rw[<-Qz]at hm;have hun:Da 10 [gI N {mgX K (el xs v)with fText:=t}]:=by rw[gI_eq];exact uniG N _ _
    have hap:g=g/\Da 10 [gI N {mgX K (el xs v)with fText:=t}]/\(os.length+1)*192<=140737488355328:=⟨rfl,hun,kv⟩
    refine gO (jq (Zn (((j:E):F)<((lenM Va2 xs:E):F))) (tn 2<|he (λh=>Vb0 xs j (by have:=Zo h.2;omega)) i6) z<|kb hc1 z) ?_;refine Jp (z6 hf3<|tn 2<|ke hev<|tn 1<|kg hIv Zm<|o8 hcs (show h=h/\Qb from⟨rfl,Zm⟩)<|z8 hun<|kp hap<|kw (gos_push N ho {mgX K (el xs v)with fText:=t}) m5) kx ?_;exact AG (m:=n0) ⟨j,g+1,h+1,(out++[{mgX K (el xs v)with fText:=t}]).map (gI N),out++[{mgX K (el xs v)with fText:=t}],hj2,rfl,by simp;omega,by rw[Z9,Il, <-Qz, <-hyy];exact hm,kv,rfl,rfl⟩ (WK kx) kx (Zv _)
  ·-- no text
   have hk:(((el xs v).fKind:F) !=1)=true:=by rw[Q6];exact h2
   have hwr:=wrE (((v:E):F)+1) ((v+1:E):F) kv;have hGe:=gI_eq N (mgX K (el xs v));refine gO (i8 hd<|tn 2<|ke hev<|w7 hk<|tn 3<|ke hev<|tn 1<|kg hIv Zm<|kp (show Da 10 [gI N (mgX K (el xs v))]from by rw[hGe];exact uniG N _ _)<|kp (show g=g/\Da 10 [gI N (mgX K (el xs v))]/\(os.length+1)*192<=140737488355328 from⟨rfl,by rw[hGe];exact uniG N _ _,kv⟩)<|kw (gos_push N ho (mgX K (el xs v)))<|p8 hwr m5) ?_;exact AG (m:=n0) ⟨v+1,g+1,h,(out++[mgX K (el xs v)]).map (gI N),out++[mgX K (el xs v)],kv,rfl,by simp;omega,by rw[Z9,Il, <-hm,hdr];congr 1;exact(mgc_n (by exact h2)).symm,kv,rfl,rfl⟩ (WK kx) kx (Zv _)
 ·have hd:Zn (((v:E):F)<((lenM Va2 xs:E):F))=false:=dF kv;have hm2:out=mgL (xs.map (mgX K)):=by
   rw[Ic (by rw[Zx];omega)]at hm;simpa[mgL]using hm
  subst ho;rw[hm2];refine gO (i8 hd z) ?_;refine Jp j6 kx ?_;exact ENz 1500 (k:=kG) (g:=g) (sz:=10) kx kx rfl kx (by simp[gxB]) kx kx
mutual
def mgI:Zf->Zf
 |⟨y0,y1,y2,y3,y4,y5,y6,y7⟩=>⟨y0,y1,y2,y3,y4,y5,y6,mgL (mgIs y7)⟩
def mgIs:H Zf->H Zf
 |[]=>[]
 |x::l=>mgI x::mgIs l
end
def mgIs_map:∀ l,mgIs l=l.map mgI
 |[]=>rfl
 |x::l=>by rw[mgIs,mgIs_map l];rfl
def mgD(l:H Zf):H DInline:=mgL (l.map mgI)
def Vng(x:Zf):mgI x=mgX mgD x:=by cases x;simp only[mgI,mgX,mgD,mgIs_map]
def mgD_eq(l:H Zf):mgD l=mgL (l.map (mgX mgD)):=by
 unfold mgD;congr 1;exact Yf (λx _=>Vng x)
mutual
def OkI:Zf->Prop
 |⟨y0,y1,y2,y3,y4,y5,y6,y7⟩=>(Vfq y4<=1073741824/\y5.length<=1073741824/\y6.length<=1073741824/\(y0=1->0<y1.size))/\y7.length<=1073741824/\(catT y7).size<=1073741824/\OkIs y7
def OkIs:H Zf->Prop
 |[]=>Qb
 |x::l=>OkI x/\OkIs l
end
def Vkd:∀ {l:H Zf},OkIs l->∀ x∈l,OkI x
 |[],_,x,hx=>by cases hx
 |y::l,h,x,hx=>by
  rw[OkIs]at h;rcases Zl.1 hx with rfl|hx
  ·exact h.1
  ·exact Vkd h.2 x hx
def Vpv{x:Zf}(h:OkI x):Vfq x.fAttr<=1073741824/\x.fArgs.length<=1073741824/\x.fCites.length<=1073741824/\(x.fKind=1->0<x.fText.size):=by
 cases x;rw[OkI]at h;exact h.1
def OkI_kids{x:Zf}(h:OkI x):MgO x.fKids/\OkIs x.fKids:=by
 cases x;rw[OkI]at h;exact⟨⟨h.2.1,h.2.2.1,λy hy=>Vpv (Vkd h.2.2.2 y hy)⟩,h.2.2.2⟩
def Vr8(x:Zf)(y:Zf)(hy:y∈x.fKids):Yd y<Yd x:=by
 cases x;have:=Xj hy;simp only[Xg];simp only at this;omega
def mgdI_to(N:E):∀(n:E)(x:Zf),Yd x<n->OkI x->Va1 Zg 42 [.av (Vaq x)] (gxB N) [] (.av (gI N (mgX mgD x))) (gxB N) []:=by
 intro n
 induction n with
 |zero=>intro x h;omega
 |succ n ih=>
  intro x hs hx;obtain⟨h1,h2,h3,h4⟩:=Vpv hx;obtain⟨k1,k2⟩:=OkI_kids hx;have hm:=mg_to N mgD x.fKids k1 (λy hy=>ih y (by have:=Vr8 x y hy;omega) (Vkd k2 y hy));rw[<-mgD_eq]at hm;have:=mgI_to N x _ h1 h2 h3 hm;rw[gI_eq];exact this
def mgd_to(N:E)(xs:H Zf)(h1:MgO xs)(h2:OkIs xs):Va1 Zg 21 [jL (xs.map Va2)] (gxB N) [] (.av (.fs N 42 ((mgD xs).map (gI N)))) (gxB N) []:=by
 have:=mg_to N mgD xs h1 (λy hy=>mgdI_to N (Yd y+1) y kv (Vkd h2 y hy));rwa[<-mgD_eq]at this
def nsX(ps:H Z5):H DInline:=btM ps (mtR ps ps.length).els 0 (mtR ps ps.length).els.length (nx (mtR ps ps.length).els 0)
def nsB(N:E)(ps:H Z5):H (E×Jk):=esM ps (mtR ps ps.length)++gxB N
def nsw_to(ps:H Z5)(hn:ps.length<=2048):Va1 Zg 148 [.ptr 14 0,jI 0,jI 0] (esM ps (mtR ps ps.length)) [] (jL ((nsX ps).map Va2)) (esM ps (mtR ps ps.length)) []:=by
 obtain⟨h1,h2,h3⟩:=mtR_bt ps hn;exact Vcz kx (Vac (Vah (14,0) (1000,0) rfl) (Vac (Vah (12,0) (2001,0) rfl) (bw_to ps (mtR ps ps.length).els (mtR ps ps.length).O (mtR ps ps.length).prs 0 0 (mtR ps ps.length).els.length ⟨Ym _,kv⟩ h1 kv)))
def nsS(N:E)(ps:H Z5):St:=sx 9 [(3,.ptr 14 0)] (nsB N ps) []
def ns1(N:E)(ps:H Z5)(hn:ps.length<=2048):W Zg (.region 1 (Vaa 1 Iq) Ze) (λe S1=>e=.normal/\Dg S1 (nsS N ps)) (sx 9 [(0,jL (ps.map Vb7))] (gxB N) []):=by
 refine Vam ?_;rw[show(Vaa 1 Iq).toList=[regO 1 Iq 0,regO 1 Iq 1,regO 1 Iq 2] by kernel_rfl];refine Vas (jL (ps.map Vb7)) 4 kx kx ?_;refine WO_new (nb:=esM ps (mtR ps ps.length)) (res:=.ptr 14 0) (f:=147) (x:=.func 147) (args:=#[.tmp 4]) (tys:=#[62]) (fs:=[]) (cs:=[]) 5 kx kx rfl (Vcz kx (mtc_to ps kv (λv hv=>mtR_ok ps hn v hv))) kx kx ?_;refine Vas (.ptr 14 0) 3 kx kx ?_;exact Vbl rfl ⟨rfl,WK kx⟩
def nsG_to(N:E)(ps:H Z5)(hn:ps.length<=2048)(h1:MgO (nsX ps))(h2:OkIs (nsX ps)):Va1 Zg 94 [jL (ps.map Vb7)] (gxB N) [] (.av (.fs N 42 ((mgD (nsX ps)).map (gI N)))) (gxB N) []:=by
 have hc:=nsw_to ps hn;have hm:=mgd_to N (nsX ps) h1 h2;refine bGs Tryz.func94 ?_;refine gO (tn 1<|kq 1 z) ?_;refine Di (nsS N ps) (tn 1<|kg hc Zm<|kg hm Zm m5) kx ?_ kx ?_
 ·refine Vaj (S':=sx 9 [(0,jL (ps.map Vb7))] (gxB N) []) (WK kx) ?_;exact Val (c':=.region 1 (Vaa 1 Iq) Ze) kx (ns1 N ps hn)
 exact eNs
end
section
open Go Go.Eng Go.RowKit
def itoa(k:E):ByteArray:=⟨(Y3 k).toArray⟩
def argsI{G:Gh}{w:Zw}{c:F}{us:H Yb}(h:RepSs G w [jI c] us):us.toArray=#[.int .i64 c]:=by
 obtain⟨u,l,rfl,h1,h2⟩:=h;have h3:l=[]:=h2;subst h3;rw[h1.1]
end
section
open Go Go.Eng
mutual
def AllI(p:Zf->Prop):Zf->Prop
 |⟨y0,y1,y2,y3,y4,y5,y6,y7⟩=>p ⟨y0,y1,y2,y3,y4,y5,y6,y7⟩/\AllIs p y7
def AllIs(p:Zf->Prop):H Zf->Prop
 |[]=>Qb
 |x::l=>AllI p x/\AllIs p l
end
def Vsc{p:Zf->Prop}:∀ {l:H Zf},AllIs p l ↔ ∀x∈l,AllI p x
 |[]=>by simp[AllIs]
 |y::l=>by rw[AllIs,Vsc (l:=l)];simp
def Vad{p:Zf->Prop}{x:Zf}:AllI p x ↔ p x/\∀ y∈x.fKids,AllI p y:=by cases x;rw[AllI,Vsc]
def Vbn{p:Zf->Prop}(h:∀ x,(∀y∈x.fKids,p y)->p x):∀ x,p x:=by
 have:∀ n x,Yd x<n->p x:=by
  intro n
  induction n with
  |zero=>intro x h;omega
  |succ n ih=>exact λx hx=>h x (λy hy=>ih y (by have:=Vr8 x y hy;omega))
 exact λx=>this _ x (Zv _)
def Vl9{p:Zf->Prop}(hp:∀ x y,x.fKind=1->y.fKind=1->p x->p y->p {x with fText:=x.fText++y.fText}):∀ l:H Zf,(∀x∈l,AllI p x)->∀ x∈mgL l,AllI p x
 |[],_,x,hx=>by cases hx
 | a::l,h,x,hx=>by
  have ha:=h a ku;have ih:=Vl9 hp l (λy hy=>h y (by simp[hy]));have hx:x∈mgc a (mgL l):=hx;cases hm:mgL l with
  |nil=>
   rw[hm]at hx;have:x=a:=by simpa[mgc]using hx
   rw[this];exact ha
  | cons b q=>
   rw[hm]at hx ih;unfold mgc at hx;simp only at hx
   split at hx
   ·rename_i hk;rcases Zl.1 hx with rfl|hx
    ·have hb:=ih b ku;rw[Vad]at ha hb ⊢;exact⟨hp _ _ hk.1 hk.2 ha.1 hb.1,ha.2⟩
    ·exact ih x (by simp[hx])
   ·rcases Zl.1 hx with rfl|hx
    ·exact ha
    ·exact ih x hx
def mgI_all{p:Zf->Prop}(hp:∀ x y,x.fKind=1->y.fKind=1->p x->p y->p {x with fText:=x.fText++y.fText})(hk:∀ x,p x->p (mgX mgD x)):∀ x,AllI p x->AllI p (mgI x):=Vbn λx ih hx=>by
 rw[Vng];rw[Vad]at hx ⊢;refine⟨hk _ hx.1,λy hy=>?_⟩;refine Vl9 hp (x.fKids.map mgI) (λy hy=>?_) y hy;obtain⟨w,hw,rfl⟩:=Yk.1 hy;exact ih w hw (hx.2 w hw)
def Voz{p:Zf->Prop}(hp:∀ x y,x.fKind=1->y.fKind=1->p x->p y->p {x with fText:=x.fText++y.fText})(hk:∀ x,p x->p (mgX mgD x))(l:H Zf)(h:∀ x∈l,AllI p x):∀ x∈mgD l,AllI p x:=by
 refine Vl9 hp (l.map mgI) (λy hy=>?_);obtain⟨w,hw,rfl⟩:=Yk.1 hy;exact mgI_all hp hk w (h w hw)
def itoN(t:Zc):Nat:=((J6 t.data.toList).getD 0).toNat
section
variable (V:E->Zf)
mutual
def rsT:Zf->Zf
 |⟨y0,y1,y2,y3,y4,y5,y6,y7⟩=>Zu (y0== -1) (V (itoN y1)) ⟨y0,y1,y2,y3,y4,y5,y6,rsTs y7⟩
def rsTs:H Zf->H Zf
 |[]=>[]
 |x::l=>rsT x::rsTs l
end
def rsTs_map:∀ l,rsTs V l=l.map (rsT V)
 |[]=>rfl
 |x::l=>by rw[rsTs,rsTs_map l];rfl
def rsT_eq(x:Zf):rsT V x=Zu (x.fKind== -1) (V (itoN x.fText)) {x with fKids:=x.fKids.map (rsT V)}:=by cases x;rw[rsT,rsTs_map]
def Vqj{x:Zf}(h:x.fKind= -1):rsT V x=V (itoN x.fText):=by rw[rsT_eq,h];rfl
def Vqk{x:Zf}(h:x.fKind≠ -1):rsT V x={x with fKids:=x.fKids.map (rsT V)}:=by rw[rsT_eq,Jn h];rfl
def wT(x:Zf):Nat:=Va4 (rsT V x)
def wT'(l:H Zf):Nat:=(l.map (wT V)).sum
def wl_sum{α:Type}(f:α->E)(l:H α):wl f l=(l.map f).sum:=by
 induction l with
 |nil=>rfl
 |cons x l ih=>simp[wl,ih]
def Vfo{x:Zf}(h:x.fKind≠ -1):wT V x=Va4 {x with fKids:=[]}+wT' V x.fKids:=by
 have e:wl Va4 (x.fKids.map (rsT V))=wT' V x.fKids:=by rw[wl_sum,Xn];rfl
 have e0:wl Va4 []=0:=rfl;unfold wT;rw[Vqk V h,Vao,Vao];simp only[e,e0];omega
def wt_app(s t:Zc):wStr (s++t)+1=wStr s+wStr t:=by unfold wStr;rw[Yp];omega
def mgL_wT:∀ l:H Zf,wT' V (mgL l)<=wT' V l
 |[]=>Zt _
 | a::l=>by
  have ih:=mgL_wT l;have e:wT' V (a::l)=wT V a+wT' V l:=by simp[wT']
  rw[e]
  show wT' V (mgc a (mgL l))<=_;cases hm:mgL l with
  |nil=>simp[mgc,wT']
  | cons b q=>
   rw[hm]at ih;have e2:wT' V (b::q)=wT V b+wT' V q:=by simp[wT']
   unfold mgc;simp only
   split
   ·rename_i hk;have e3:wT' V ({a with fText:=a.fText++b.fText}::q)=wT V {a with fText:=a.fText++b.fText}+wT' V q:=by simp[wT']
    have h1:=Vfo V (x:=a) (by rw[hk.1];decide);have h2:=Vfo V (x:=b) (by rw[hk.2];decide);have h3:=Vfo V (x:={a with fText:=a.fText++b.fText}) (by show a.fKind≠ -1;rw[hk.1];decide);have h4:=wt_app a.fText b.fText;rw[Vao]at h1 h2 h3;simp only at h1 h2 h3;rw[e3];omega
   ·have e3:wT' V (a::b::q)=wT V a+(wT V b+wT' V q):=by simp[wT']
    rw[e3];omega
def wT'_le{f:Zf->Zf}{l:H Zf}(h:∀ x∈l,wT V (f x)<=wT V x):wT' V (l.map f)<=wT' V l:=by
 unfold wT';rw[Xn];exact sum_le h
def mgI_wT:∀ x,wT V (mgI x)<=wT V x:=Vbn λx ih=>by
 rw[Vng]
 by_cases hk:x.fKind= -1
 ·unfold wT;rw[Vqj V hk,Vqj V (x:=mgX mgD x) hk];exact Zt _
 ·rw[Vfo V hk,Vfo V (x:=mgX mgD x) hk];have h1:=mgL_wT V (x.fKids.map mgI);have h2:=wT'_le V ih;have e:Va4 {mgX mgD x with fKids:=[]}=Va4 {x with fKids:=[]}:=rfl;have e2:(mgX mgD x).fKids=mgL (x.fKids.map mgI):=rfl;rw[e,e2];omega
def mgD_wT(l:H Zf):wT' V (mgD l)<=wT' V l:=Yh (mgL_wT V _) (wT'_le V (λx _=>mgI_wT V x))
def wI0(k:F)(t:Zc):Va4 (Xm k t ⟨#[]⟩ ⟨#[]⟩ ⟨⟨#[]⟩,[],[]⟩ [] [] [])=t.size+7:=by
 rw[Vao,Vcv];simp only[wl,w1,wStr,show Zd (⟨#[]⟩:Zc)=0 from rfl];omega
def rep_pos{c:Zc}{n:E}(hc:(c=⟨#[42]⟩\/c=⟨#[95]⟩\/c=⟨#[126]⟩))(hn:0<n):0<(repB c n).size:=by
 rw[repB_sz];rcases hc with rfl|rfl|rfl <;>exact Nat.mul_pos hn gj
def PTw(p:Zf->Prop)(h1:∀ t,0<t.size->p (txI t))(h2:∀ k l,(k=6\/k=7\/k=8)->p (prI k l)):PT where
 f:=wT V
 P:=AllI p
 N:=De
 ft:=λt=>by
  have h:=Vfo V (x:=txI t) (by show(1:F)≠ -1;decide);rw[h,show Va4 {txI t with fKids:=[]}=t.size+7 from wI0 1 t,show wT' V (txI t).fKids=0 from rfl];omega
 fk:=λk l hk=>by
  have h:=Vfo V (x:=prI k l) (by show k≠ -1;omega);rw[h,show Va4 {prI k l with fKids:=[]}=Zd (⟨#[]⟩:Zc)+7 from wI0 k ⟨#[]⟩,show Zd (⟨#[]⟩:Zc)=0 from rfl]
  show 0+7+wT' V l<=_;unfold wT';omega
 pt:=λc n hc hn=>Vad.2 ⟨h1 _ (rep_pos hc hn),λy hy=>by cases hy⟩
 pk:=λk l hk _ _ hl=>Vad.2 ⟨h2 k l hk,hl⟩
end
def PTi(p:Zf->Prop)(Nn:Prop)(h1:∀ c n,(c=⟨#[42]⟩\/c=⟨#[95]⟩\/c=⟨#[126]⟩)->0<n->p (txI (repB c n)))(h2:∀ k l,(k=6\/k=7\/k=8)->l≠[]->(Nn->NC l)->p (prI k l)):PT where
 f:=Va4
 P:=AllI p
 N:=Nn
 ft:=λt=>by rw[show Va4 (txI t)=t.size+7 from wI0 1 t];omega
 fk:=λk l hk=>by
  have h:Va4 (prI k l)=Va4 (prI k [])+wl Va4 l:=by
   rw[Vao,Vao];simp only[prI,show wl Va4 []=0 from rfl];omega
  rw[h,show Va4 (prI k [])=Zd (⟨#[]⟩:Zc)+7 from wI0 k ⟨#[]⟩,show Zd (⟨#[]⟩:Zc)=0 from rfl,wl_sum];omega
 pt:=λc n hc hn=>Vad.2 ⟨h1 c n hc hn,λy hy=>by cases hy⟩
 pk:=λk l hk hz hc hl=>Vad.2 ⟨h2 k l hk hz hc,hl⟩
end
section
open Go Go.Eng Go.RowKit
def Vpj:∀ k,k<2048->J6 (Y3 k)=Zq ((k:E):F)/\(Y3 k).length<=18:=by
 have:(Ib 2048).all (λk=>decide (J6 (Y3 k)=Zq ((k:E):F))&&Zn ((Y3 k).length<=18))=true:=kx;intro k hk;have:=Y5.1 this k (Jv.2 hk);simpa using this
def Vbr{k:E}(h:k<2048):itoN (itoa k)=k:=by
 unfold itoN;rw[show(itoa k).data.toList=Y3 k from rfl,(Vpj k h).1];rfl
def itoa_inj{k j:E}(hk:k<2048)(hj:j<2048)(h:itoa k=itoa j):k=j:=by rw[<-Vbr hk, <-Vbr hj,h]
def atoi_raw(k:E)(h:k<2048)(w:Zw):Df Zg 149 #[.string (itoa k)] w λe w'=>e=.returned (.tuple #[.int .i64 ((k:E):F),.nilIface])/\Xp w.heap.size w w':=by
 obtain⟨h1,h2⟩:=Vpj k h;have e:(itoa k).data.toList=Y3 k:=rfl;have hz:(itoa k).size=(Y3 k).length:=by rw[J5,e]
 refine(Any.strconv_Atoi Tryz.lays172 (itoa k) ((k:E):F) kv (by rw[e];exact h1) w).mono ?_;rintro e w' ⟨he,t,hw⟩;exact⟨he,by rw[hw];exact Lib.bytesWorld_below _ _ _⟩
def Cln(l:H Zf):Prop:=∀ x∈l,AllI (λy=>y.fKind≠ -1) x
def Vik{x:Zf}:wl Va4 x.fKids<=Va4 x:=by rw[Vao];omega
def rstC_to:∀(n:E)(l:H Zf),Yd l<n->Cln l->wl Va4 l<=1073741824->Va1 Zg 95 [jL (l.map Va2),.junk] [] [] Vav [] []:=by
 intro n
 induction n with
 |zero=>intro l h;omega
 | succ n ih=>
  intro l hn hc hw;have hlq:=Va6 Va2 l;have hl:=Vb9 (w:=Va4) Vaw l;refine bGs J4 ?_;refine gO i6 ?_;refine LP (n:=l.length+1) (λN M S=>∃(v:E),v<=l.length/\l.length-v<N/\M=()/\S=sx 46 [(0,jL (l.map Va2)),(8,jI ((lenM Va2 l:E):F)),(9,jI ((v:E):F))] [] []) kx ⟨0,kv,kv,rfl,rfl⟩ (WK kx) ?_;rintro n0 M S ⟨v,hv,hF0,rfl,rfl⟩;obtain⟨n0,rfl⟩:∃ k,n0=k+1:=⟨n0-1,kv⟩
  by_cases h1:v<l.length
  ·have hd:Zn (((v:E):F)<((lenM Va2 l:E):F))=true:=dT kv;have hx:=Vbk (l:=l) (i:=v) h1;have ha:=Vad.1 (hc _ hx);have hq:((el l v).fKind != -1)=true:=by rw[Q6];exact ha.1
   have he:=Vb0 l v h1;have hwr:=wrE (((v:E):F)+1) ((v+1:E):F) kv;have hs1:=Xj hx;have hs2:Yd (el l v).fKids<Yd (el l v):=by
    cases(el l v);simp only[Xg];omega
   have hr:=ih (el l v).fKids kv ha.2 (by have:=Vgr (w:=Va4) hx;have:=Vik (x:=el l v);omega);refine gO (m0 hd<|tn 4<|ke he<|w7 hq<|tn 2<|ke he<|m8 hr<|kn hwr m5) ?_;exact AG (m:=n0) (S'':=sx 46 [(0,jL (l.map Va2)),(8,jI ((lenM Va2 l:E):F)),(9,jI ((v+1:E):F))] [] []) ⟨v+1,kv,kv,rfl,rfl⟩ (WK kx) kx (Zv _)
  ·have hd:Zn (((v:E):F)<((lenM Va2 l:E):F))=false:=dF kv;refine gO (m0 hd z) ?_;refine Jp z kx ?_;exact eNs
end
section
open Go Go.Eng
def phI(k:E):DInline:=Xm (-1) (itoa k) ⟨#[]⟩ ⟨#[]⟩ ⟨⟨#[]⟩,[],[]⟩ [] [] []
def pIn(p:Z5)(x:Zf):DPiece:={p with fInline:=x}
def isPh(e:Ik):Bool:=Zu ((e.fkind:F)==0) (Zn (((e.fpiece.fInline.fKids.length:E):F)>0)) Ze
def pcG(k:E)(e:Ik):DPiece:=Zu (isPh e) (pIn e.fpiece (phI k)) e.fpiece
def pcsG(els:H Ik)(o n:E):H DPiece:=(Ib n).map (λv=>pcG v (el els (o+v)))
def Vqs(els:H Ik)(o n:E):pcsG els o (n+1)=pcsG els o n++[pcG n (el els (o+n))]:=by simp[pcsG,List.range_succ]
def Vhv(els:H Ik)(o n:E):(pcsG els o n).length=n:=by simp[pcsG]
def Vj2(els:H Ik)(o n v:E)(h:v<n):el (pcsG els o n) v=pcG v (el els (o+v)):=by simp[el,pcsG,h]
def VE(els:H Ik)(o k:E):DInline:=(el els (o+k)).fpiece.fInline
def nstG(els:H Ik)(o m:E):H DInline:=(mgD (nsX (pcsG els o m))).map (rsT (VE els o))
def wE(e:Ik):Nat:=Zu (isrP e.fpiece) (20*e.fpiece.fN.toNat) (Va4 e.fpiece.fInline)
def ClnI(x:Zf):Prop:=AllI (λy=>y.fKind≠ -1) x
def wEs(els:H Ik)(o:E):E->E
 |0=>0
 |v+1=>wEs els o v+wE (el els (o+v))
structure NsG (els:H Ik) (o m:E):Prop where
 mm:m<=2048
 cl:∀ k,k<m->ClnI (VE els o k)
 kz:∀ k,k<m->(el els (o+k)).fkind≠0->(VE els o k).fKids=[]
 wt:wEs els o m<=1073000000
def Vp5(k:E)(e:Ik):isrP (pcG k e)=isrP e.fpiece:=by unfold pcG;cases isPh e <;>rfl
def rsT_cln(V:E->Zf):∀ x,ClnI x->rsT V x=x:=Vbn λx ih hx=>by
 have h:=Vad.1 hx;rw[Vqk V h.1];have:x.fKids.map (rsT V)=x.fKids:=by
  conv=>rhs;rw[<-List.map_id x.fKids]
  exact Yf (λy hy=>ih y hy (h.2 y hy))
 rw[this];cases x;rfl
def Vpu:∀ {l:H Zf},(∀x∈l,OkI x)->OkIs l
 |[],_=>trivial
 |x::l,h=>⟨h x ku,Vpu (λy hy=>h y (by simp[hy]))⟩
def PhP(m:E)(x:Zf):Prop:=(x.fKind= -1->∃ k,k<m/\x.fText=itoa k)/\x.fKids.length<=1073741824
def PhX(m:E)(x:Zf):Prop:=(x.fKind= -1->(∃k,k<m/\x.fText=itoa k)/\x.fKids=[])/\(x.fKind=1->0<x.fText.size)
def PhX_t(m:E)(t:Zc)(h:0<t.size):PhX m (txI t):=⟨λe=>Yr e (by show(1:F)≠ -1;decide),λ_=>h⟩
def PhX_k(m:E)(k:F)(l:H Zf)(h:k=6\/k=7\/k=8):PhX m (prI k l):=⟨λe=>by have e:k= -1:=e;omega,λe=>by have e:k=1:=e;omega⟩
def PhX_m(m:E)(x y:Zf)(h1:x.fKind=1)(_:y.fKind=1)(hx:PhX m x)(_:PhX m y):PhX m {x with fText:=x.fText++y.fText}:=
 ⟨λe=>by have e:x.fKind= -1:=e;omega,λ_=>by have:=hx.2 h1;show 0<(x.fText++y.fText).size;rw[Yp];omega⟩
def PhX_g(m:E)(x:Zf)(hx:PhX m x):PhX m (mgX mgD x):=
 ⟨λe=>⟨(hx.1 e).1,by show mgD x.fKids=[];rw[(hx.1 e).2];rfl⟩,hx.2⟩
def tW(V:E->Zf)(m:E):PT:=PTw V (PhX m) (PhX_t m) (PhX_k m)
def tI(m:E):PT:=PTi (PhX m) De (λc n hc hn=>PhX_t m _ (rep_pos hc hn)) (λk l hk _ _=>PhX_k m k l hk)
def wPh(k:E)(h:k<2048):Va4 (phI k)<=25:=by
 have h1:=(Vpj k h).2;have h2:(itoa k).size=(Y3 k).length:=by rw[J5];rfl
 rw[show Va4 (phI k)=(itoa k).size+7 from wI0 (-1) (itoa k)];omega
section
variable {els:H Ik} {o m:E}
def Vl8(h:NsG els o m){v:E}(hv:v<m)(hp:isPh (el els (o+v))=Ze):(VE els o v).fKids=[]:=by
 by_cases hk:(el els (o+v)).fkind=0
 ·unfold isPh at hp;rw[hk]at hp;have hp:Zn ((((el els (o+v)).fpiece.fInline.fKids.length:E):F)>0)=false:=hp;have:=Zh hp;exact Q3.1 (by show(el els (o+v)).fpiece.fInline.fKids.length=0;omega)
 ·exact h.kz v hv hk
def keep_x(h:NsG els o m){v:E}(hv:v<m)(hk:Vf9 (pcG v (el els (o+v)))=Zs):AllI (PhX m) (pcG v (el els (o+v))).fInline:=by
 cases hp:isPh (el els (o+v))with
 |true=>
  have e:(pcG v (el els (o+v))).fInline=phI v:=by unfold pcG;rw[hp];rfl
  rw[e,Vad];exact⟨⟨λ_=>⟨⟨v,hv,rfl⟩,rfl⟩,λe=>Yr e (by show(-1:F)≠1;decide)⟩,λy hy=>by cases hy⟩
 | false=>
  have e:pcG v (el els (o+v))=(el els (o+v)).fpiece:=by unfold pcG;rw[hp];rfl
  rw[e]at hk ⊢;have hc:=Vad.1 (h.cl v hv);have hz:=Vl8 h hv hp;have hc1:(el els (o+v)).fpiece.fInline.fKind≠ -1:=hc.1;have hz1:(el els (o+v)).fpiece.fInline.fKids=[]:=hz;rw[Vad,hz1];refine⟨⟨λe=>Yr e hc1,λe=>?_⟩,λy hy=>by cases hy⟩;unfold Vf9 at hk;cases h0:(((el els (o+v)).fpiece.fKind:F)==0)with
  |false=>rw[h0]at hk;cases hk
  |true=>
   rw[h0,e]at hk;exact size_neqs_t hk
def pp_w(h:NsG els o m){v:E}(hv:v<m):ppP (tW (VE els o) m) (pcG v (el els (o+v)))<=wE (el els (o+v))/\ppP (tI m) (pcG v (el els (o+v)))<=wE (el els (o+v))+25:=by
 have hm:=h.mm;unfold ppP wE;rw[Vp5];cases isrP (el els (o+v)).fpiece with
 |true=>
  have e:(pcG v (el els (o+v))).fN=(el els (o+v)).fpiece.fN:=by unfold pcG;cases isPh (el els (o+v)) <;>rfl
  rw[e];exact⟨Zt _,Q0 _ _⟩
 | false=>
  simp only[Zi];cases Vf9 (pcG v (el els (o+v)))with
  |false=>exact⟨Ys _,Ys _⟩
  | true=>
   simp only[Zj]
   show wT (VE els o) (pcG v (el els (o+v))).fInline<=Va4 (VE els o v)/\Va4 (pcG v (el els (o+v))).fInline<=Va4 (VE els o v)+25;cases hp:isPh (el els (o+v))with
   |true=>
    have e:(pcG v (el els (o+v))).fInline=phI v:=by unfold pcG;rw[hp];rfl
    rw[e];have h1:=wPh v kv;refine⟨?_,kv⟩;unfold wT;rw[Vqj (VE els o) (x:=phI v) rfl,show itoN (phI v).fText=v from Vbr kv];exact Zt _
   |false=>
    have e:(pcG v (el els (o+v))).fInline=VE els o v:=by unfold pcG;rw[hp];rfl
    rw[e];refine⟨?_,Q0 _ _⟩;unfold wT;rw[rsT_cln _ _ (h.cl v hv)];exact Zt _
def pps_w(h:NsG els o m):∀ v,v<=m->ppS (tW (VE els o) m) (pcsG els o m) v<=wEs els o v/\ppS (tI m) (pcsG els o m) v<=wEs els o v+25*v
 |0,_=>⟨Zt _,Zt _⟩
 | v+1,hv=>by
  have ih:=pps_w h v kv;have h1:=pp_w h (v:=v) kv;have e:∀ T,ppS T (pcsG els o m) (v+1)=ppS T (pcsG els o m) v+ppP T (pcG v (el els (o+v))):=λT=>by
   show ppS T (pcsG els o m) v+ppP T (el (pcsG els o m) v)=_;rw[Vj2 els o m v kv]
  rw[e,e]
  show _<=wEs els o v+wE (el els (o+v))/\_<=wEs els o v+wE (el els (o+v))+25*(v+1)
  omega
def nsX_w(h:NsG els o m):wT' (VE els o) (nsX (pcsG els o m))<=wEs els o m/\wl Va4 (nsX (pcsG els o m))<=1073741824/\∀ x∈nsX (pcsG els o m),AllI (PhX m) x:=by
 have hm:=h.mm;have hl:=Vhv els o m;have hP:∀(v:E),v<(pcsG els o m).length->isrP (el (pcsG els o m) v)=Ze->Vf9 (el (pcsG els o m) v)=Zs->AllI (PhX m) (el (pcsG els o m) v).fInline:=λv hv _ hk=>by
  rw[Vj2 els o m v kv]at hk ⊢;exact keep_x h kv hk
 have h1:=mtR_pt (tW (VE els o) m) (pcsG els o m) kv hP Ie;have h2:=mtR_pt (tI m) (pcsG els o m) kv hP Ie;have h3:=pps_w h m (Zt _);have h4:=h.wt;refine⟨Yh h1.1 (by rw[hl];exact h3.1),?_,h1.2⟩;rw[wl_sum];refine Yh h2.1 ?_;rw[hl];omega
def Vpg:∀ l:H Zf,(catT l).size<=wl Va4 l
 |[]=>Zt _
 |x::l=>by
  have:=Vpg l
  show(x.fText++catT l).size<=Va4 x+wl Va4 l;rw[Yp,Vao,wStr];omega
def OkI_of:∀ x,AllI (PhX m) x->Va4 x<=1073741824->OkI x:=Vbn λx ih hx hw=>by
 have h:=Vad.1 hx;have h2:=Vik (x:=x);have h3:=Vpg x.fKids;have h4:=Vb9 (w:=Va4) Vaw x.fKids;have hk:OkIs x.fKids:=Vpu (λy hy=>ih y hy (h.2 y hy) (by have:=Vgr (w:=Va4) hy;omega));rw[Vao]at hw;have h5:=Vb9 (w:=wStr) (λ_=>Ia _) x.fArgs;have h6:=Vb9 (w:=Vc8) Vgj x.fCites;cases x;rw[OkI];simp only at hw h2 h3 h4 h5 h6 hk h;exact⟨⟨kv,kv,kv,h.1.2⟩,kv,kv,hk⟩
def nsX_ok(h:NsG els o m):MgO (nsX (pcsG els o m))/\OkIs (nsX (pcsG els o m)):=by
 obtain⟨h1,h2,h3⟩:=nsX_w h;have hk:∀ x∈nsX (pcsG els o m),OkI x:=λx hx=>OkI_of x (h3 x hx) (by have:=Vgr (w:=Va4) hx;omega)
 refine⟨⟨?_,?_,λx hx=>Vpv (hk x hx)⟩,Vpu hk⟩
 ·have:=Vb9 (w:=Va4) Vaw (nsX (pcsG els o m));omega
 ·have:=Vpg (nsX (pcsG els o m));omega
def wT_pos(V:E->Zf)(x:Zf):1<=wT V x:=Vaw _
def len_wT(V:E->Zf):∀ l:H Zf,l.length<=wT' V l
 |[]=>Ys _
 |x::l=>by
  have:=len_wT V l;have:=wT_pos V x;have e:wT' V (x::l)=wT V x+wT' V l:=by simp[wT']
  rw[e,Yj];omega
def wT_mem(V:E->Zf):∀ {l:H Zf} {x:Zf},x∈l->wT V x<=wT' V l
 |y::l,x,h=>by
  have e:wT' V (y::l)=wT V y+wT' V l:=by simp[wT']
  rw[e];rcases Zl.1 h with rfl|h
  ·omega
  ·have:=wT_mem V h;omega
def PhP_of(V:E->Zf):∀ x,AllI (PhX m) x->wT V x<=1073741824->AllI (PhP m) x:=Vbn λx ih hx hw=>by
 have h:=Vad.1 hx;rw[Vad]
 by_cases hk:x.fKind= -1
 ·obtain⟨h1,h2⟩:=h.1.1 hk;exact⟨⟨λ_=>h1,by rw[h2];exact Ys _⟩,λy hy=>by rw[h2]at hy;cases hy⟩
 ·have e:=Vfo V hk;have h2:=len_wT V x.fKids;exact⟨⟨λq=>Yr q hk,kv⟩,λy hy=>ih y hy (h.2 y hy) (by have:=wT_mem V hy;omega)⟩
def Vnf(h:NsG els o m):(∀x∈mgD (nsX (pcsG els o m)),AllI (PhP m) x)/\(mgD (nsX (pcsG els o m))).length<=1073741824/\wT' (VE els o) (mgD (nsX (pcsG els o m)))<=wEs els o m:=by
 obtain⟨h1,h2,h3⟩:=nsX_w h;have h4:=mgD_wT (VE els o) (nsX (pcsG els o m));have h5:=h.wt;have h6:=len_wT (VE els o) (mgD (nsX (pcsG els o m)));refine⟨λx hx=>PhP_of (VE els o) x (Voz (PhX_m m) (PhX_g m) _ h3 x hx) ?_,kv,kv⟩;have:=wT_mem (VE els o) hx;omega
def nstG_w(h:NsG els o m):wl Va4 (nstG els o m)<=wEs els o m:=by
 have:=(Vnf h).2.2;unfold nstG;rw[wl_sum,Xn];exact this
def rsT_cl{V:E->Zf}(hV:∀ k,k<m->ClnI (V k))(hm:m<=2048):∀ x,AllI (PhP m) x->ClnI (rsT V x):=Vbn λx ih hx=>by
 have h:=Vad.1 hx
 by_cases hk:x.fKind= -1
 ·obtain⟨k,h1,h2⟩:=h.1.1 hk;rw[Vqj V hk,h2,Vbr kv];exact hV k h1
 ·rw[Vqk V hk];refine Vad.2 ⟨hk,λy hy=>?_⟩;obtain⟨q,hq,rfl⟩:=Yk.1 hy;exact ih q hq (h.2 q hq)
def nstG_cl(h:NsG els o m):∀ x∈nstG els o m,ClnI x:=λx hx=>by
 obtain⟨q,hq,rfl⟩:=Yk.1 hx;exact rsT_cl h.cl h.mm q ((Vnf h).1 q hq)
end
end
section
open Go Go.Eng
def Vhg{P:Xs}{f:Db}{args:H SV}{p q:E×Jk}{gn:H (Key×E)}{res:SV}{bx':H (E×Jk)}{gn':H (Key×E)}(h:Va1 P f args [p,q] gn res bx' gn'):Va1 P f args [q,p] gn res bx' gn':=
 ⟨h.1,λG w vs hw hr hb hg=>h.2 G w vs hw hr (λx hx=>hb x (by simp only[Zl,Zk,Z0]at hx ⊢;exact hx.symm)) hg⟩
def fnd0_to(x:Zf)(e z0:F):Va1 Zg 131 [.av (Vaq x),jI e,.ptr 1000 0,.ptr 1001 0] [(1000,.cells 42 [jI 0,jS ⟨#[]⟩,jS ⟨#[]⟩,jS ⟨#[]⟩,jS ⟨#[]⟩,.nil,.nil,.nil,.nil,.nil]),(1001,.cells 3 [jI z0])] [] (jB (Zn (e>0))) [(1000,.cells 42 (Vf1 x)),(1001,.cells 3 [jI e])] []:=by
 refine bGs Tryz.func131 ?_;refine gO (tn 9 z) ?_;exact eNs
def fnd1_to(y x:Zf)(e z0:F):Va1 Zg 131 [.av (Vaq x),jI e,.ptr 1000 0,.ptr 1001 0] [(1000,.cells 42 (Vf1 y)),(1001,.cells 3 [jI z0])] [] (jB (Zn (e>0))) [(1000,.cells 42 (Vf1 x)),(1001,.cells 3 [jI e])] []:=by
 refine bGs Tryz.func131 ?_;refine gO (tn 9 z) ?_;exact eNs
def NM:SV:=.av (.val (.map Zp))
def Sr0(s:Zc):St:=sx 58 [(0,jS s),(2,.ptr 2 0)] [(2,.cells 146 [NM,NM])] []
end
end Go.Proofs.YthbpjmogdonlkaaGreatDoor
namespace Go.Eng
variable {P:Xs}
section
variable {ev:Dd->Yb} {o:Oper} {w:Zw}
end
end Go.Eng
namespace Go.Proofs.YthbpjmogdonlkaaGreatDoor
section
open Go Go.Eng Go.RowKit Go.Shelf
attribute [local go_sem] Xt
def pt(b o:E):Value:=.pointer (Zq ⟨b,o,Zp⟩)
def SEMI:ByteArray:=⟨#[59]⟩
def semI(s:Zc):Int:=Lib.indexByte s.data.toList 59
def sidx_in(s:Zc)(w:Zw):I0 Xb 0 Zg 300 #[.string s,.string SEMI] w λe w'=>e=.returned (.int .i64 (semI s))/\w'=w:=by
 refine Qf Tryz.func300 rfl Zm ?_ rfl;simp only[Tryz.ntmps300,Y8,Yj,Y0,Xr,Xq,Yw,Yv,Y9,Y2,Ye,Z4];have hi:=(Xw (n:=0)).2 (Any.stringslite_Index_one Tryz.lays219 s 59 w)
 gi_wp2
 refine⟨Zm,rfl,hi.mono ?_⟩;rintro e w' ⟨rfl,rfl⟩
 gi_wp2
 go_ret
 exact⟨rfl,rfl⟩
def Von(s:Zc): -1<=semI s/\semI s<s.size:=by
 have:=idxB_bd s 59;unfold idxB at this;unfold semI;simpa using this
def prtL:E->Zc->H Zc
 |0,r=>[r]
 |n+1,r=>if semI r<0 then[r]else Za r 0 (Zb (semI r))::prtL n (Za r (Zb (semI r+1)) r.size)
def prt(s:Zc):H ByteArray:=prtL s.size s
def prtL_more(r:Zc):∀(n m:E),r.size<=n->r.size<=m->prtL n r=prtL m r:=by
 suffices h:∀(n m:E)(r:Zc),r.size<=n->r.size<=m->prtL n r=prtL m r by exact λn m=>h n m r
 intro n
 induction n with
 |zero=>
  intro m r h1 h2;have hb:=Von r;cases m with
  |zero=>rfl
  |succ m=>rw[prtL,prtL,Qa kv]
 | succ n ih=>
  intro m r h1 h2;have hb:=Von r;cases m with
  |zero=>rw[prtL,prtL,Qa kv]
  |succ m=>
   rw[prtL,prtL]
   split
   ·rfl
   ·rw[ih m _ (by rw[Yc];omega) (by rw[Yc];omega)]
def prt_none{r:Zc}(h:semI r<0):prt r=[r]:=by
 unfold prt;cases r.size with
 |zero=>rfl
 |succ n=>rw[prtL,Qa h]
def prt_some{r:Zc}(h:0<=semI r):prt r=Za r 0 (Zb (semI r))::prt (Za r (Zb (semI r+1)) r.size):=by
 have hb:=Von r;unfold prt;obtain⟨n,hn⟩:∃ n,r.size=n+1:=⟨r.size-1,kv⟩
 rw[hn,prtL,Xv kv, <-hn];congr 1;exact prtL_more _ _ _ (by rw[Yc];omega) kv
def prt_len(s:Zc):(prt s).length<=s.size+1:=by
 unfold prt;suffices h:∀(n:E)(r:Zc),(prtL n r).length<=n+1 from h _ _
 intro n
 induction n with
 |zero=>intro r;simp[prtL]
 |succ n ih=>
  intro r;rw[prtL]
  split
  ·simp
  ·have:=ih (Za r (Zb (semI r+1)) r.size);simp only[Yj];omega
def prt_sz(s:Zc):∀ x∈prt s,x.size<=s.size:=by
 unfold prt;suffices h:∀(n:E)(r:Zc),∀x∈prtL n r,x.size<=r.size from h _ _
 intro n
 induction n with
 |zero=>intro r x hx;simp[prtL]at hx;subst hx;omega
 | succ n ih=>
  intro r x hx;rw[prtL]at hx
  split at hx
  ·simp at hx;subst hx;omega
  ·simp only[Zl]at hx;rcases hx with rfl|hx
   ·rw[Yc];omega
   ·have:=ih _ x hx;rw[Yc]at this;omega
def sw3(s:Zc)(w:Zw):World:=((w.alloc (.cells #[.string s] 9)).alloc (.cells #[.string SEMI] 9)).alloc (.cells #[.int .i64 0] 3)
def sfn(w:Zw):Value:=.func (.func 301) #[] #[pt (w.heap.size+1) 0,pt w.heap.size 0,pt (w.heap.size+2) 0]
def spl_in(s:Zc)(w:Zw):I0 Xb 0 Zg 275 #[.string s,.string SEMI,.int .i64 0] w λe w'=>e=.returned (sfn w)/\w'=sw3 s w:=by
 refine Qf Tryz.func275 rfl Zm ?_ rfl;simp only[Tryz.ntmps275,Y8,Yj,Y0,Xr,Xq,Yw,Yv,Y9,Y2,Ye,Z4]
 gi_wp2
 go_ret
 exact⟨rfl,rfl⟩
def sps_in(s:Zc)(w:Zw):I0 Xb 0 Zg 234 #[.string s,.string SEMI] w λe w'=>e=.returned (sfn w)/\w'=sw3 s w:=by
 refine Qf Tryz.func234 rfl Zm ?_ rfl;simp only[Tryz.ntmps234,Y8,Yj,Y0,Xr,Xq,Yw,Yv,Y9,Y2,Ye,Z4]
 gi_wp2
 refine⟨Zm,rfl,(spl_in s w).mono ?_⟩;rintro e w' ⟨rfl,rfl⟩;unfold sfn
 gi_wp2
 go_ret
 exact⟨rfl,rfl⟩
def KB1(B:E)(A C:Zw):Prop:=C.heap[B]? =A.heap[B]?
def Vex(s:Zc):Obj:=.cells #[.string s] 9
def intOb(i:F):Obj:=.cells #[.int .i64 i] 3
def SeqW(P:Xs)(g:E)(lb:J9 Yb)(Bs:E)(Kp:Zw->Zw->Prop)(ps:H Zc)(w:Zw):Prop:=
 ∀(l:E)(J Jx:H Zc->Zw->Prop)(W:Zw),Xp w.heap.size w W->(∀pre A r,J pre A->A.heap[Bs]? =Zq (Vex r)->∀ r',J pre (A.setCell ⟨Bs,0,Zp⟩ (.string r')))->
  (∀pre x A,J pre A->(∃q,pre++x::q=ps)->YieldAt Xb 0 P l #[.string x] A λe A'=>(e=.returned (.bool Zs)/\J (pre++[x]) A'/\Kp A A')\/(e=.returned (.bool Ze)/\Jx (pre++[x]) A'))->
  J [] W->I0 Xb 0 P g (#[.func (.yield l) #[] #[]]++lb) W λe W'=>(∃v,e=.returned v)/\(J ps W'\/∃ pre,(∃q,pre++q=ps)/\Jx pre W')
end
section
open Go Go.Eng Go.RowKit Go.Shelf
attribute [local go_sem] Xt
def K3(Bp Bs Bz:E)(A C:Zw):Prop:=KB1 Bp A C/\KB1 Bs A C/\KB1 Bz A C
def strSz(V:Zw)(B:E):Nat:=match V.cell? ⟨B,0,Zp⟩with
 |some (.string r)=>r.size
 |_=>0
def Vew{V:Zw}{B:E}{r:Zc}(h:V.heap[B]? =Zq (Vex r)):V.cell? ⟨B,0,Zp⟩=Zq (.string r)/\V.frozen? ⟨B,0,Zp⟩=false:=by
 simp only[Z7,Xi,h,Vex];exact⟨rfl,rfl⟩
def int_cell{V:Zw}{B:E}{r:F}(h:V.heap[B]? =Zq (intOb r)):V.cell? ⟨B,0,Zp⟩=Zq (.int .i64 r):=by
 simp only[Z7,h,intOb];rfl
def set_same{V:Zw}{B:E}{r r':Zc}(h:V.heap[B]? =Zq (Vex r)):(V.setCell ⟨B,0,Zp⟩ (.string r')).heap[B]? =Zq (Vex r'):=by
 simp[Qg,Xz,h,Vex]
def Vcy{V:Zw}{B C:E}{r':Zc}(h:C≠B):(V.setCell ⟨B,0,Zp⟩ (.string r')).heap[C]? =V.heap[C]? :=by
 simp[Qg,Xz,Ne.symm h]
def spw_in(s:Zc)(Bp Bs Bz:E)(w0:Zw)(hp:Bp<w0.heap.size)(hs:Bs<w0.heap.size)(hz:Bz<w0.heap.size)(n1:Bp≠Bs)(n2:Bz≠Bs)(c1:w0.heap[Bp]? =Zq (Vex SEMI))(c2:w0.heap[Bs]? =Zq (Vex s))(c3:w0.heap[Bz]? =Zq (intOb 0))(hsz:s.size<=1073741824):
  SeqW Zg 301 #[pt Bp 0,pt Bs 0,pt Bz 0] Bs (K3 Bp Bs Bz) (prt s) w0:=by
 intro lp J Jx W hW hJs hY h0;have k1:W.heap[Bp]? =Zq (Vex SEMI):=(hW.block Bp hp).trans c1;have k2:W.heap[Bs]? =Zq (Vex s):=(hW.block Bs hs).trans c2;have k3:W.heap[Bz]? =Zq (intOb 0):=(hW.block Bz hz).trans c3;obtain⟨d1,_⟩:=Vew k1;clear hW c1 c2 c3;refine Qf Tryz.func301 rfl Zm ?_ rfl;simp only[Tryz.ntmps301,Y8,Yj,Y0,Xr,Xq,Yw,Yv,Y9,Y2,Ye,Z4];unfold pt
 gi_wp2
 gi_loopw [] (λV=>∃(r:Zc)(pre:H Zc),J pre V/\pre++prt r=prt s/\r.size<=s.size/\V.heap[Bp]? =Zq (Vex SEMI)/\V.heap[Bs]? =Zq (Vex r)/\V.heap[Bz]? =Zq (intOb 0)) (λV=>strSz V Bs)
 case atStart=>exact⟨s,[],h0,ku,Zt _,k1,k2,k3⟩
 obtain⟨r,pre,hj,hpr,hrs,b1,b2,b3⟩:=hrel;obtain⟨e1,_⟩:=Vew b1;obtain⟨e2,f2⟩:=Vew b2;have e3:=int_cell b3;have hbd:=Von r
 by_cases hneg:semI r<0
 ·have hi:semI r<0:=hneg;have hpn:=prt_none hneg;obtain⟨fn,tmps,assign,body,hy,hR⟩:=hY pre r wr hj ⟨[],by rw[<-hpr,hpn]⟩;have hx:=sidx_in r wr;clear hY hJs
  gi_wp2
  refine⟨Zm,rfl,hx.mono ?_⟩;rintro e w' ⟨rfl,rfl⟩;clear hx
  gi_wp2
  refine⟨rfl,hR.mono ?_⟩;rintro e W3 (⟨rfl,hJ3,hk3⟩|⟨rfl,hJx3⟩)
  ·clear hy hR
   gi_wp2
   go_end0
   exact⟨⟨_,rfl⟩,.inl (by rw[<-hpr,hpn];exact hJ3)⟩
  ·clear hy hR
   gi_wp2
   go_end0
   exact⟨⟨_,rfl⟩,.inr ⟨pre++[r],⟨[],by rw[<-hpr,hpn];simp⟩,hJx3⟩⟩
 ·have hi:¬ semI r<0:=hneg;have h0:0<=semI r:=kv;have hpn:=prt_some h0;obtain⟨fn,tmps,assign,body,hy,hR⟩:=hY pre (Za r 0 (Zb (semI r))) wr hj ⟨prt (Za r (Zb (semI r+1)) r.size),by rw[<-hpr,hpn]⟩;have hx:=sidx_in r wr;clear hY
  gi_wp2
  refine⟨Zm,rfl,hx.mono ?_⟩;rintro e w' ⟨rfl,rfl⟩;clear hx
  gi_wp2
  refine⟨rfl,hR.mono ?_⟩;rintro e W3 (⟨rfl,hJ3,g1,g2,g3⟩|⟨rfl,hJx3⟩)
  ·have b1':W3.heap[Bp]? =Zq (Vex SEMI):=Iy g1 b1;have b2':W3.heap[Bs]? =Zq (Vex r):=Iy g2 b2;have b3':W3.heap[Bz]? =Zq (intOb 0):=Iy g3 b3;obtain⟨e1',_⟩:=Vew b1';obtain⟨e2',f2'⟩:=Vew b2';clear hy hR g1 g2 g3 e1 e2 e3 f2;have hss:SEMI.size=1:=rfl;have hb1:0<=semI r+1:=kv;have hb2:semI r+1<=(r.size:F):=kv;have hw1:IntKind.i64.wrap (semI r+1)=semI r+1:=wrE _ _ kv
   gi_wp2
   refine⟨⟨_,_,_,_,_,_,_,_,_,_,_,_,_,_,_,_,_,_,_,_,_,_,⟨Za r (Zb (semI r+1)) r.size,pre++[Za r 0 (Zb (semI r))],hJs _ _ _ hJ3 b2' _,by rw[<-hpr,hpn];simp,by rw[Yc];omega,(Vcy n1).trans b1',set_same b2',(Vcy n2).trans b3'⟩,rfl⟩,?_⟩;have q1:=(Vew (set_same (r':=Za r (Zb (semI r+1)) r.size) b2')).1;have q2:=(Vew b2).1;unfold strSz;rw[q1,q2]
   show(Za r (Zb (semI r+1)) r.size).size<r.size;rw[Yc];omega
  ·clear hy hR
   gi_wp2
   refine bodyPost_ret (results_none rfl _ _ _) rfl ?_;exact⟨⟨_,rfl⟩,.inr ⟨pre++[Za r 0 (Zb (semI r))],⟨prt (Za r (Zb (semI r+1)) r.size),by rw[<-hpr,hpn];simp⟩,hJx3⟩⟩
end
section
open Go Go.Eng Go.RowKit Go.Shelf
def rngW{P:Xs}{g:Dd}{p:Tmp}{assign body:Code}{Q:Exit->Act->Zw->Prop}{a:Act}{w w0:Zw}{gf:E}{lb:J9 Yb}{Bs:E}{Kp:Zw->Zw->Prop}{xs:H Zc}
  (hg:a.eval g=.func (.func gf) #[] lb) (eg:∀ args w,(callFunc gf args).run P w=.ok (.enter gf args) w) (hseq:SeqW P gf lb Bs Kp xs w0) (hb0:Xp w0.heap.size w0 w) (hBs:Bs<w.heap.size)
  (hKt:∀ {A B C:Zw},Kp A B->Kp B C->Kp A C) (hKb:∀(W:Zw)(l:E)(o':Obj),w.heap.size<=l->Kp W (W.putObj l o'))
  (I:H Zc->Zw->Prop) (Ix:Code->H Zc->Zw->Prop) (hI:Ja w.heap.size I) (hIx:∀ c,Ja w.heap.size (Ix c)) (hIs:∀ pre A r r',I pre A->A.heap[Bs]? =Zq (Vex r)->I pre (A.setCell ⟨Bs,0,Zp⟩ (.string r'))) (h0:I [] w) (a1:Zc->Act)
  (hassign:∀(l:E)(x:Zc)(W:Zw)(K:Act->Zw->Prop),K (a1 x) W->assign.wpIn (Fence.wide.inRound l) 0 P (Exit.then K (λ_ _ _=>De)) {tmps:=(#[p].zip #[Value.string x]).foldl (λt (p,v)=>t.setIfInBounds p v) a.tmps,defers:=[]} W)
  (hbody:∀(l:E)(pre:H Zc)(x:Zc)(W:Zw),I pre W->(∃q,pre++x::q=xs)->body.wpIn (Fence.wide.inRound l) 0 P (ownPostK Kp I Ix (pre++[x]) W) (a1 x) W)
  (hdone:∀(D:E)(W:Zw),w.heap.size<=D->I xs W->W.heap[D]? =Zq (.deferred (Zq []))->Q .normal {a with defers:={target:=.collected D,args:=#[]}::a.defers} W)
  (hstop:∀(D:E)(c:Code)(pre:H Zc)(W:Zw),w.heap.size<=D->(∃q,pre++q=xs)->Ix c pre W->W.heap[D]? =Zq (.deferred (Zq []))->c.wpIn Xb 1 P Q {a with defers:={target:=.collected D,args:=#[]}::a.defers} W):
  (Code.rangeFunc g #[p] assign body).wpIn Xb 1 P Q a w:=by
 refine wpIn_rangeFunc (λfn hfn=>?_);rw[show Fence.wide.round=Zp from rfl]
 let D:=w.heap.size
 let rec':LoopState->J2 Code->Loop:=λst pe=>{state:=st,pending:=pe,fn,tmps:=a.tmps,params:=#[p],assign,body,defers:=D}
 obtain⟨W1,hW1⟩:∃ W1,W1=(w.alloc (.deferred (Zq []))).alloc (.loop (rec' .ready Zp)):=⟨_,rfl⟩
 have s1:W1.heap.size=D+2:=by rw[hW1];simp[D]
 have eL:W1.heap[D+1]? =Zq (.loop (rec' .ready Zp)):=by
  rw[hW1];have:=Ya (w.alloc (.deferred (Zq []))) (.loop (rec' .ready Zp));rwa[Xd]at this
 have eD:W1.heap[D]? =Zq (.deferred (Zq [])):=by
  rw[hW1];exact(Z8 _ _ _ (by simp[D])).trans (Ya w _)
 have i1:I [] W1:=by rw[hW1];exact hI.alloc _ (hI.alloc _ h0)
 have b1:Xp w0.heap.size w0 W1:=by
  rw[hW1];have:=hb0.size;exact(hb0.alloc this _).alloc (by simp;omega) _
 -- the three facts that go through the rounds
 let J:H Zc->Zw->Prop:=λpre W=>I pre W/\W.heap[D+1]? =Zq (.loop (rec' .ready Zp))/\W.heap[D]? =Zq (.deferred (Zq []))
 let Jx:H Zc->Zw->Prop:=λpre W=>∃ c,Ix c pre W/\W.heap[D+1]? =Zq (.loop (rec' .done (Zq c)))/\W.heap[D]? =Zq (.deferred (Zq []))
 have hround:∀ pre x A,J pre A->(∃q,pre++x::q=xs)->YieldAt Xb 0 P (D+1) #[.string x] A λe A'=>(e=.returned (.bool Zs)/\J (pre++[x]) A'/\Kp A A')\/(e=.returned (.bool Ze)/\Jx (pre++[x]) A'):=by
  rintro pre x A ⟨ji,jl,jd⟩ hq;have hy:=run_yield (P:=P) (args:=#[.string x]) jl rfl;refine⟨fn,_,assign,body,hy,roundIn_of_wpIn hfn (hassign _ x A _ ⟨_,run_beginRound jl rfl,?_⟩)⟩;obtain⟨busy,hbusy⟩:∃ b,b=rec' .busy none:=⟨_,rfl⟩
  have e2:{rec' .ready Zp with state:=.busy}=busy:=by rw[hbusy]
  rw[e2];have hlt:D+1<A.heap.size:=(Zr.1 jl).1;have l2:(A.putObj (D+1) (.loop busy)).heap[D+1]? =Zq (.loop busy):=Q7 hlt;have d2:(A.putObj (D+1) (.loop busy)).heap[D]? =Zq (.deferred (Zq [])):=(Zy kv).trans jd;refine wpIn_mono (hbody _ pre x _ (hI.putObj _ ji kv jl rfl) hq) ?_;have ending:∀(jump:J2 Code)(W3:Zw),Qy (A.putObj (D+1) (.loop busy)) W3->∃ W4,W4=W3.putObj (D+1) (.loop (rec' (if jump.isNone then .ready else .done) jump))/\(Instr.endRound (D+1) jump).run P W3=.ok (.bool jump.isNone) W4/\W3.heap[D+1]? =Zq (.loop busy)/\
    W4.heap[D+1]? =Zq (.loop (rec' (if jump.isNone then .ready else .done) jump))/\W4.heap[D]? =Zq (.deferred (Zq [])):=by
   intro jump W3 hk;have l3:=hk.same _ _ l2 rfl;have d3:=hk.same _ _ d2 rfl;have hr:=run_endRound (P:=P) jump l3;refine⟨_,rfl,?_,l3,Q7 (Zr.1 l3).1,(Zy kv).trans d3⟩;rw[hr,hbusy]
  rintro e a3 W3 hp;have stopped:∀ c,Qy (A.putObj (D+1) (.loop busy)) W3/\Ix c (pre++[x]) W3->∃ r W4,(Instr.endRound (D+1) (Zq c)).run P W3=.ok r W4/\((Ending.returned r=.returned (.bool Zs)/\J (pre++[x]) W4/\Kp A W4)\/(Ending.returned r=.returned (.bool Ze)/\Jx (pre++[x]) W4)):=by
   rintro c ⟨hk,hi⟩;obtain⟨W4,e4,r4,l3,l4,d4⟩:=ending (Zq c) W3 hk;refine⟨_,W4,r4,.inr ⟨rfl,c,?_,l4,d4⟩⟩;rw[e4];exact(hIx c).putObj _ hi kv l3 rfl
  cases e with
  |normal=>
   obtain⟨hk,hkp,hi⟩:=hp;obtain⟨W4,e4,r4,l3,l4,d4⟩:=ending Zp W3 hk;refine⟨_,W4,r4,.inl ⟨rfl,⟨?_,l4,d4⟩,?_⟩⟩
   ·rw[e4];exact hI.putObj _ hi kv l3 rfl
   ·rw[e4];exact hKt (hKt (hKb _ _ _ kv) hkp) (hKb _ _ _ kv)
  |ret=>exact stopped _ hp
  |exit id=>exact stopped _ hp
  |goto t=>exact stopped _ hp
  |panic ch=>exact hp.elim
  |outgrown=>exact hp.elim
 refine⟨D+1,[{target:=.collected D,args:=#[]}],W1,{target:=.fn (.func gf) lb,args:=#[.func (.yield (D+1)) #[] #[]]},W1,gf,#[.func (.yield (D+1)) #[] #[]]++lb,W1,?_,?_,?_,?_,λ_=>Zt 1,?_⟩
 ·rw[hW1];exact run_enterLoop_outer _ _ _ _ _
 ·simp only[resolve,hg];simp[go_sem]
 ·intro f' hf';exact Zm
 ·simp[invoke,go_sem,eg]
 ·have hJs:∀ pre A r,J pre A->A.heap[Bs]? =Zq (Vex r)->∀ r',J pre (A.setCell ⟨Bs,0,Zp⟩ (.string r')):=by
   rintro pre A r ⟨ji,jl,jd⟩ hr r';exact⟨hIs _ _ _ _ ji hr,(Vcy kv).trans jl,(Vcy kv).trans jd⟩
  refine(hseq (D+1) J Jx W1 b1 hJs hround ⟨i1,eL,eD⟩).mono ?_;rintro e W2 ⟨⟨v,rfl⟩,h⟩;rcases h with⟨ji,jl,jd⟩|⟨pre,hq,c,hi,jl,jd⟩
  ·exact⟨Zp,_,run_endLoop (P:=P) jl (by simp[rec']),hdone _ _ (Zt _) (hI.putObj _ ji kv jl rfl) ((Zy kv).trans jd)⟩
  ·exact⟨Zq c,_,run_endLoop (P:=P) jl (by simp[rec']),hstop _ c pre _ (Zt _) hq ((hIx c).putObj _ hi kv jl rfl) ((Zy kv).trans jd)⟩
attribute [local go_sem] Xt
def raw_of{P:Xs}{f:Db}{args:H SV}{vs:J9 Yb}{res:AV}{v:Yb}(h:Va1 P f args [] [] (.av res) [] [])(hargs:∀(G:Gh)(w:Zw),RepSs G w args vs.toList)(hres:∀(U:E->E)(w:Zw)(u:Yb),I2 U w res u->u=v)(w:Zw):
  Df P f vs w λe w'=>e=.returned v/\Xp w.heap.size w w':=by
 let G:Gh:={U:=λ_=>0,cp:=λ_=>0,ow:=λ_=>Zp,gen:=λ_=>0,df:=[]}
 have hw:Wf G w:=⟨λκ κ' b h1 _=>by simp[G]at h1,λκ b h1=>by simp[G]at h1,λ_ _=>rfl⟩
 have:=h.2 G w vs.toList hw (hargs G w) ku ku;simp only[Array.toArray_toList]at this;refine this.mono ?_;rintro e w' ⟨u,G',rfl,s1,s2,s3,_⟩;refine⟨by rw[hres _ _ _ s3],s1.toExt.os,s1.toExt.tp,s1.toExt.output,s1.toExt.size,λb hb=>(s1.stay b hb (λκ h=>by simp[G]at h)).1⟩
def citL(c:Ig):H Value:=[.string c.fKey,.string c.fPrefix,.string c.fSuffix,.bool c.fBare]
def citV(c:Ig):Value:=.agg #[.string c.fKey,.string c.fPrefix,.string c.fSuffix,.bool c.fBare]
def cit_in(s:Zc)(hs:s.size<=1073741824)(w:Zw):Df Zg 235 #[.string s] w λe w'=>e=.returned (.tuple #[citV (citF s).1,.bool (citF s).2])/\Xp w.heap.size w w':=by
 have hc:=citF_to s hs;refine raw_of hc (λG w=>⟨_,_,rfl,⟨rfl,rfl⟩,rfl⟩) (λU w u hu=>?_) w;obtain⟨us,rfl,a,l1,e1,ha,b,l2,e2,hb,e3⟩:=hu;obtain⟨vs,rfl,ha, -⟩:=ha;obtain⟨x1,m1,f1,h1,x2,m2,f2,h2,x3,m3,f3,h3,x4,m4,f4,h4,f5⟩:=ha;have e3:l2=[]:=e3;have f5:m4=[]:=f5;subst e3 f5;obtain⟨rfl, -⟩:=h1;obtain⟨rfl, -⟩:=h2;obtain⟨rfl, -⟩:=h3;obtain⟨rfl, -⟩:=h4;obtain⟨rfl, -⟩:=hb;subst f4 f3 f2;subst e2;have g1:vs=#[.string (citF s).1.fKey,.string (citF s).1.fPrefix,.string (citF s).1.fSuffix,.bool (citF s).1.fBare]:=Jj.1 f1;subst g1;have g2:us=#[citV (citF s).1,.bool (citF s).2]:=Jj.1 e1;rw[g2]
def CTN:ByteArray:=⟨#[91,93,123,96,36,10]⟩
def ctnN_to(s:Zc)(hs:s.size<=1073741824):Va1 Zg 176 [jS s,jS CTN] [] [] (jB (ctnG s CTN)) [] []:=Vpe s CTN hs gj gj (A7.lit gj)
def ctn_in(s:Zc)(hs:s.size<=1073741824)(h:ctnG s CTN=Ze)(w:Zw):Df Zg 176 #[.string s,.string CTN] w λe w'=>e=.returned (.bool Ze)/\Xp w.heap.size w w':=by
 have hc:=ctnN_to s hs;rw[h]at hc;exact raw_of hc (λG w=>⟨_,_,rfl,⟨rfl,rfl⟩,_,_,rfl,⟨rfl,rfl⟩,rfl⟩) (λU w u hu=>hu.1) w
def sw3_cells(s:Zc)(A:Zw):(sw3 s A).heap[A.heap.size]? =Zq (Vex s)/\(sw3 s A).heap[A.heap.size+1]? =Zq (Vex SEMI)/\(sw3 s A).heap[A.heap.size+2]? =Zq (intOb 0)/\(sw3 s A).heap.size=A.heap.size+3/\Xp A.heap.size A (sw3 s A):=by
 unfold sw3;refine⟨?_,?_,?_,ku,((((Jz _ A).alloc (Zt _) _).alloc ku _).alloc (by simp;omega) _)⟩
 ·refine(Z8 _ _ _ (by simp;omega)).trans ((Z8 _ _ _ ku).trans ?_);exact Ya A _
 ·refine(Z8 _ _ _ ku).trans ?_;have:=Ya (A.alloc (.cells #[.string s] 9)) (.cells #[.string SEMI] 9);rwa[Xd]at this
 ·have:=Ya ((A.alloc (.cells #[.string s] 9)).alloc (.cells #[.string SEMI] 9)) (.cells #[.int .i64 0] 3);rw[Xd,Xd]at this;exact this
def Vl6{β:Type}(B k:E)(o:Obj)(ho:o.isCells=Zs):Ja B (λ(_:β)(W:Zw)=>W.heap[k]? =Zq o):=by
 intro s W W' row hs hg hr;refine(hg.block k (Zr.1 hs).1 (λe=>?_)).trans hs;obtain⟨_,o',h1,h2⟩:=hr k e.symm;rw[hs]at h1;cases h1;rw[ho]at h2;cases h2
def oV(v:Yb):Obj:=.cells #[v] 40
def oF:Obj:=.cells #[Js Ze] 4
def cuts(pre:H Zc):H DCited:=pre.map (λx=>(citF x).1)
def cutC(pre:H Zc):H Value:=(cuts pre).flatMap citL
def OwnC(base C:E)(pre:H Zc)(W:Zw):Prop:=∃ v,W.heap[C]? =Zq (oV v)/\W.ownsRow base 77 4 v pre.length (cutC pre)/\base<=W.heap.size
def ownC_own(B base C:E):Ja B (OwnC base C):=by
 rintro s W W' row ⟨v,h1,h2,h3⟩ hg hr;refine⟨v,(Vl6 (β:=Jt) B C (oV v) rfl) () W W' row h1 hg hr,h2.kept hg ?_,Yh h3 hg.size⟩;rcases h2.2 with⟨rfl,_⟩|⟨g,cap,cur,rfl,_,hc,_⟩
 ·exact .inl rfl
 ·refine .inr (λe=>?_);obtain⟨_,o,h3,h4⟩:=hr g e.symm;rw[hc]at h3;cases h3;cases h4
def ownC_set{base C:E}{pre:H Zc}{A:Zw}{Bs:E}{r r':Zc}(h:OwnC base C pre A)(hs:A.heap[Bs]? =Zq (Vex r))(hC:C≠Bs)(hb:Bs<base):OwnC base C pre (A.setCell ⟨Bs,0,Zp⟩ (.string r')):=by
 obtain⟨v,h1,h2,h3⟩:=h;refine⟨v,(Vcy hC).trans h1,?_,by simpa[Qg]using h3⟩;refine⟨h2.1,?_⟩;rcases h2.2 with hn|⟨g,cap,cur,rfl,hg,hc,rest⟩
 ·exact .inl hn
 ·exact .inr ⟨g,cap,cur,rfl,hg,(Vcy kv).trans hc,rest⟩
end
section
open Go Go.Eng Go.RowKit Go.Shelf
def Gp(W:Zw)(b p:E):Prop:=(∃k,W.cell? ⟨b,p,Zp⟩=Zq (.int .i64 k))/\(∀j,1<=j->j<5->∃ s,W.cell? ⟨b,p+j,Zp⟩=Zq (.string s))/\∀ j,5<=j->j<10->∃ a n c,W.cell? ⟨b,p+j,Zp⟩=Zq (.slice a n c)
def Gp.apart{W:Zw}{b p q:E}(h:Gp W b p)(k:Gp W b q)(hpq:p<q):p+10<=q:=by
 obtain⟨i,hi⟩:=k.1;rcases Xe q (p+10)with hlt|hge
 ·exfalso;obtain⟨d,rfl⟩:∃ d,q=p+d:=⟨q-p,kv⟩
  by_cases h5:d<5
  ·obtain⟨s,hs⟩:=h.2.1 d kv h5;rw[hs]at hi;cases hi
  ·obtain⟨a,n,c,hs⟩:=h.2.2 d kv kv;rw[hs]at hi;cases hi
 ·exact hge
def Gp.same{W:Zw}{b p q:E}(h:Gp W b p)(k:Gp W b q)(h1:p<q+10)(h2:q<p+10):p=q:=by
 rcases Nat.lt_trichotomy p q with e|e|e
 ·have:=h.apart k e;omega
 ·exact e
 ·have:=k.apart h e;omega
section
variable (N m:E) (w w1:Zw) (V:E->H Yb) (ue:Yb)
def Th(b:E):Prop:=N<=b/\PlB w1 b 42
structure Ph (b p k:E):Prop where
 lt:k<m
 gp:Gp w1 b p
 kd:w1.cell? ⟨b,p,Zp⟩=Zq (.int .i64 (-1))
 tx:w1.cell? ⟨b,p+1,Zp⟩=Zq (.string (itoa k))
def SmG(W:Zw)(b p:E):Prop:=∀ j,j<10->W.cell? ⟨b,p+j,Zp⟩=w1.cell? ⟨b,p+j,Zp⟩
def RpG(W:Zw)(b p k:E):Prop:=∀ j,j<10->W.cell? ⟨b,p+j,Zp⟩=(V k)[j]?
structure Rr (W:Zw):Prop where
 low:Xp N w W
 sz:w1.heap.size<=W.heap.size
 keep:∀ b,b<w1.heap.size->¬ Th N w1 b->W.heap[b]? =w1.heap[b]?
 pl:∀ b,Th N w1 b->PlB W b 42
 out:∀ b o,Th N w1 b->(∀p k,Ph m w1 b p k->p<=o->p+10<=o)->W.cell? ⟨b,o,Zp⟩=w1.cell? ⟨b,o,Zp⟩
 ins:∀ b p k,Th N w1 b->Ph m w1 b p k->SmG w1 W b p\/RpG V W b p k
def Mono(W W':Zw):Prop:=∀ b p k,Th N w1 b->Ph m w1 b p k->RpG V W b p k->RpG V W' b p k
structure VOk (k:E):Prop where
 len:(V k).length=10
 one:∀ x∈V k,x.oneCell'=Zs
 kd:∃ i,(V k)[0]? =Zq (.int .i64 i)/\i≠ -1
 ks:∃ u,(V k)[9]? =Zq u/\∀ W,Xp N w W->Df Zg 95 #[u,ue] W λe W'=>e=.returned (.tuple #[])/\Xp W.heap.size W W'
end
def mid_in(L vs:H Yb)(p j:E)(hp:p<=L.length)(hj:j<vs.length):(L.take p++vs++L.drop (p+vs.length))[p+j]? =vs[j]? :=by
 have h1:(L.take p).length=p:=by rw[Qd];omega
 rw[Z9,Qs kv,h1,Nat.add_sub_cancel_left,Qt hj]
def mid_out(L vs:H Yb)(p o:E)(hp:p+vs.length<=L.length)(ho:o<p\/p+vs.length<=o):(L.take p++vs++L.drop (p+vs.length))[o]? =L[o]? :=by
 have h1:(L.take p).length=p:=by rw[Qd];omega
 rcases ho with q|q
 ·rw[Z9,Qt kv,Qr,Qa q]
 ·rw[Qs (by rw[Y6];omega),List.getElem?_drop,Y6,h1];congr 1;omega
section
variable {N m:E} {w w1:Zw} {V:E->H Yb} {ue:Yb}
def Th.lt{b:E}(h:Th N w1 b):b<w1.heap.size:=by
 obtain⟨_,arr,h2⟩:=h;exact(Zr.1 h2).1
def Mono.refl(W:Zw):Mono N m w1 V W W:=λ_ _ _ _ _ h=>h
def Mono.trans{A B C:Zw}(h:Mono N m w1 V A B)(k:Mono N m w1 V B C):Mono N m w1 V A C:=λb p i hT hP hr=>k b p i hT hP (h b p i hT hP hr)
def Vi7{W W':Zw}{b:E}(h:W'.heap[b]? =W.heap[b]?)(o:E):W'.cell? ⟨b,o,Zp⟩=W.cell? ⟨b,o,Zp⟩:=by simp only[Z7,h]
def Rr.of_same{W W':Zw}(h:Rr N m w w1 V W)(hl:Xp N w W')(hz:w1.heap.size<=W'.heap.size)(hs:∀ b,b<w1.heap.size->W'.heap[b]? =W.heap[b]?):Rr N m w w1 V W'/\Mono N m w1 V W W':=by
 have hc:∀ b o,Th N w1 b->W'.cell? ⟨b,o,Zp⟩=W.cell? ⟨b,o,Zp⟩:=λb o hb=>Vi7 (hs b hb.lt) o
 refine⟨⟨hl,hz,λb hb hT=>(hs b hb).trans (h.keep b hb hT),λb hb=>?_,λb o hb ho=>(hc b o hb).trans (h.out b o hb ho),λb p k hb hp=>?_⟩,λb p k hb hp hr j hj=>(hc b _ hb).trans (hr j hj)⟩
 ·obtain⟨arr,ha⟩:=h.pl b hb;exact⟨arr,(hs b hb.lt).trans ha⟩
 ·exact(h.ins b p k hb hp).imp (λq j hj=>(hc b _ hb).trans (q j hj)) (λq j hj=>(hc b _ hb).trans (q j hj))
def Rr.below{W W':Zw}(h:Rr N m w w1 V W)(hN:N<=W.heap.size)(hb:Xp W.heap.size W W'):Rr N m w w1 V W'/\Mono N m w1 V W W':=
 h.of_same (h.low.trans (hb.mono hN)) (Yh h.sz hb.size) (λb hlt=>hb.block b (Nat.lt_of_lt_of_le hlt h.sz))
def Rr.put{W:Zw}(h:Rr N m w w1 V W)(hm:m<=2048){b p k:E}(hT:Th N w1 b)(hP:Ph m w1 b p k)(hV:VOk N w V ue k):
  ∃W',(∀P:Xs,(storeCells ⟨b,p,Zp⟩ (V k)).run P W=.ok () W')/\Rr N m w w1 V W'/\Mono N m w1 V W W'/\RpG V W' b p k:=by
 obtain⟨arr,ha⟩:=h.pl b hT;have hsome:∀ j,j<10->∃ v,W.cell? ⟨b,p+j,Zp⟩=Zq v:=by
  intro j hj;rcases h.ins b p k hT hP with q|q
  ·rw[q j hj];rcases Xe j 5 with h5|h5
   ·rcases Qq j with rfl|h0
    ·exact⟨_,hP.kd⟩
    ·obtain⟨s,hs⟩:=hP.gp.2.1 j h0 h5;exact⟨_,hs⟩
   ·obtain⟨a,n,c,hs⟩:=hP.gp.2.2 j h5 hj;exact⟨_,hs⟩
  ·rw[q j hj];exact⟨(V k)[j]'(by rw[hV.len];exact hj),by rw[Z6]⟩
 have hsz:p+10<=arr.size:=by
  obtain⟨v,hv⟩:=hsome 9 gj;simp only[Z7,ha]at hv;rcases Xe (p+9) arr.size with q|q
  ·omega
  ·have:arr[p+9]? =none:=Ih q;simp[this]at hv
 obtain⟨A',hA'⟩:∃ A',A'=(arr.toList.take p++V k++arr.toList.drop (p+(V k).length)).toArray:=⟨_,rfl⟩
 have hst:∀ P:Xs,(storeCells ⟨b,p,Zp⟩ (V k)).run P W=.ok () (W.setRow b A'):=λP=>by
  have:=run_storeCells_at (P:=P) b p 42 (V k) 0 arr W ha (by rw[hV.len];omega) hV.one;rw[hA'];simpa using this
 have hW':(W.setRow b A').heap[b]? =Zq (.cells A' 42 (0,0)):=setRow_heap W b arr _ 42 _ ha;have hoth:∀ i,i≠b->(W.setRow b A').heap[i]? =W.heap[i]? :=λi hi=>setRow_other W b i A' hi
 have hcA:∀ o,(W.setRow b A').cell? ⟨b,o,Zp⟩=A'[o]? :=λo=>by simp only[Z7,hW'];rfl
 have hcW:∀ o,W.cell? ⟨b,o,Zp⟩=arr[o]? :=λo=>by simp only[Z7,ha];rfl
 have hin:∀ j,j<10->(W.setRow b A').cell? ⟨b,p+j,Zp⟩=(V k)[j]? :=by
  intro j hj;rw[hcA,hA',Ip];exact mid_in arr.toList (V k) p j (by have e:arr.toList.length=arr.size:=rfl;omega) (by rw[hV.len];exact hj)
 have hout:∀ o,(p<=o->p+10<=o)->(W.setRow b A').cell? ⟨b,o,Zp⟩=W.cell? ⟨b,o,Zp⟩:=by
  intro o ho;rw[hcA,hcW,hA',Ip,mid_out arr.toList (V k) p o (by have:=hV.len;have e:arr.toList.length=arr.size:=rfl;omega) (by have:=hV.len;omega),Array.getElem?_toList]
 have hlow:Xp N w (W.setRow b A'):=by
  obtain⟨e1,e2,e3,e4,e5⟩:=h.low;exact⟨e1,e2,e3,by simpa using e4,λi hi=>(hoth i (λe=>by have:=hT.1;omega)).trans (e5 i hi)⟩
 have hcell:∀ b' o,Th N w1 b'->(b'=b->p<=o->p+10<=o)->(W.setRow b A').cell? ⟨b',o,Zp⟩=W.cell? ⟨b',o,Zp⟩:=by
  intro b' o _ ho
  by_cases e:b'=b
  ·subst e;exact hout o (ho rfl)
  ·exact Vi7 (hoth b' e) o
 have hgrp:∀ b' p' k',Ph m w1 b' p' k'->(b'=b/\p'=p/\k'=k)\/(∀j,j<10->b'=b->p<=p'+j->p+10<=p'+j):=by
  intro b' p' k' hP'
  by_cases e:b'=b
  ·subst e
   by_cases e2:p'=p
   ·subst e2;refine .inl ⟨rfl,rfl,itoa_inj (by have:=hP'.lt;omega) (by have:=hP.lt;omega) ?_⟩;have:=hP'.tx.symm.trans hP.tx;simpa using this
   ·refine .inr (λj hj _ hle=>?_);rcases Xe p' p with q|q
    ·have:=hP'.gp.apart hP.gp q;omega
    ·have:=hP.gp.apart hP'.gp kv;omega
  ·exact .inr (λj hj e'=>Yr e' e)
 refine⟨W.setRow b A',hst,⟨hlow,by simpa using h.sz,λi hi hT'=>?_,λi hi=>?_,λb' o hb' ho=>?_,λb' p' k' hb' hP'=>?_⟩,λb' p' k' hb' hP' hr=>?_,hin⟩
 ·exact(hoth i (λe=>hT' (e ▸ hT))).trans (h.keep i hi hT')
 ·by_cases e:i=b
  ·subst e;exact⟨A',hW'⟩
  ·obtain⟨arr',ha'⟩:=h.pl i hi;exact⟨arr',(hoth i e).trans ha'⟩
 ·refine(hcell b' o hb' (λe=>?_)).trans (h.out b' o hb' ho);subst e;exact ho p k hP
 ·rcases hgrp b' p' k' hP' with⟨rfl,rfl,rfl⟩|hg
  ·exact .inr hin
  ·exact(h.ins b' p' k' hb' hP').imp (λq j hj=>(hcell b' _ hb' (hg j hj)).trans (q j hj)) (λq j hj=>(hcell b' _ hb' (hg j hj)).trans (q j hj))
 ·rcases hgrp b' p' k' hP' with⟨rfl,rfl,rfl⟩|hg
  ·exact hin
  ·exact λj hj=>(hcell b' _ hb' (hg j hj)).trans (hr j hj)
def Rr.stay{W:Zw}(h:Rr N m w w1 V W){b p:E}(hT:Th N w1 b)(hg:Gp w1 b p){i:F}(hk:w1.cell? ⟨b,p,Zp⟩=Zq (.int .i64 i))(hi:i≠ -1):SmG w1 W b p:=by
 intro j hj;refine h.out b (p+j) hT (λq k hP hle=>?_);rcases Xe (p+j) (q+10)with hlt|hge
 ·exfalso;have e:=hg.same hP.gp kv kv;subst e;rw[hP.kd]at hk;simp only[Z1,Value.int.injEq,Qp]at hk;exact hi hk.symm
 ·exact hge
end
end
section
open Go Go.Eng Go.RowKit Go.Shelf
attribute [local go_sem] Xt
def fs_at{U:E->E}{N:E}{w:Zw}{l:H Zf}{u:Yb}(hu:I2 U w (.fs N 42 (l.map (gI N))) u):∃ a cap,u=.slice a l.length cap/\∀ i,i<l.length->∃ b off,a=Zq ⟨b,off,Zp⟩/\Th N w b/\(∃us:H Yb,us.length=10/\(∀j,j<10->w.cell? ⟨b,off+i*10+j,Zp⟩=us[j]?)/\I2 U w (gI N (el l i)) (.agg us.toArray)):=by
 simp only[I2]at hu;obtain⟨a,cap,es,sz,e1,h2,h3,h4,h5,h6,h7,h8⟩:=hu;rw[Zx]at e1;refine⟨a,cap,e1,λi hi=>?_⟩;have hsz:∀ e∈es,e.cells.size=10:=(uniGL N l).sizes h2;have hlen:=h2.length;rw[Zx]at hlen;obtain⟨e,he,hr⟩:=h2.get i (gI N (el l i)) (by simp[Vlt hi]);have hr0:=hr;rw[gI_eq]at hr;unfold agI at hr;simp only[I2]at hr;obtain⟨us,rfl,hr2,hr3⟩:=hr;have hus:us.toList.length=10:=by have:=hr2.length;simpa using this
 have hvl:(Va3 es).length=es.length*10:=Vaf es hsz;have hne:Va3 es≠[]:=by
  intro e0;rw[e0]at hvl;simp only[Y0]at hvl;omega
 rcases h7 with h7|⟨b,off,ha,hle,hc⟩
 ·exact Yr h7 hne
 ·refine⟨b,off,ha,⟨(h8 hne _ ha).1,(h8 hne _ ha).2.2 gj⟩,us.toList,hus,λj hj=>?_,by simpa using hr0⟩;have hj2:us.toList[j]? =Zq (us.toList[j]'(kv)):=Z6 _;have:=Vdd es i _ hsz he j _ (show(Jf us).cells.toList[j]? =Zq _ from hj2);rw[hj2];have h9:=(hc (i*10+j) _ this).1;rwa[<-J1]at h9
def list10{us:H Yb}(h:us.length=10):∃ u0 u1 u2 u3 u4 u5 u6 u7 u8 u9,us=[u0,u1,u2,u3,u4,u5,u6,u7,u8,u9]:=by
 match us,h with
 |[u0,u1,u2,u3,u4,u5,u6,u7,u8,u9],_=>exact⟨u0,u1,u2,u3,u4,u5,u6,u7,u8,u9,rfl⟩
def Rep.slc{U:E->E}{w:Zw}{n t:E}{l:H AV}{u:Yb}(h:I2 U w (.fs n t l) u):∃ a k c,u=.slice a k c:=by
 simp only[I2]at h;obtain⟨a,cap,es,sz,e1,_⟩:=h;exact⟨a,_,cap,e1⟩
structure ElL (N m:E) (w:Zw) (V:E->H Yb) (ue:Yb):Prop where
 at':∀ k,k<m->∃ eb eo cap,ue=.slice (Zq ⟨eb,eo,Zp⟩) m cap/\eb<N/\∀ j,j<10->w.cell? ⟨eb,eo+k*21+(2+j),Zp⟩=(V k)[j]?
 ok:∀ k,k<m->VOk N w V ue k
 sl:∃ a c,ue=.slice a m c
structure Prt (U:E->E) (N:E) (w:Zw) (x:Zf) (b p:E) (uk:Yb):Prop where
 th:Th N w b
 gp:Gp w b p
 kd:w.cell? ⟨b,p,Zp⟩=Zq (.int .i64 x.fKind)
 tx:w.cell? ⟨b,p+1,Zp⟩=Zq (.string x.fText)
 ks:w.cell? ⟨b,p+9,Zp⟩=Zq uk
 rp:I2 U w (.fs N 42 (x.fKids.map (gI N))) uk
def prt_of{U:E->E}{N:E}{w:Zw}{x:Zf}{b p:E}{us:H Yb}(hT:Th N w b)(hl:us.length=10)(hc:∀ j,j<10->w.cell? ⟨b,p+j,Zp⟩=us[j]?)(hr:I2 U w (gI N x) (.agg us.toArray)):∃ uk,Prt U N w x b p uk:=by
 obtain⟨u0,u1,u2,u3,u4,u5,u6,u7,u8,u9,rfl⟩:=list10 hl;rw[gI_eq]at hr;unfold agI at hr;simp only[I2]at hr;obtain⟨vs,e,h1,h2⟩:=hr;have e2:vs.toList=[u0,u1,u2,u3,u4,u5,u6,u7,u8,u9]:=by
  simp only[Ij]at e;rw[<-e]
 rw[e2]at h1;obtain⟨x0,l0,f0,r0,x1,l1,f1,r1,x2,l2,f2,r2,x3,l3,f3,r3,x4,l4,f4,r4,x5,l5,f5,r5,x6,l6,f6,r6,x7,l7,f7,r7,x8,l8,f8,r8,x9,l9,f9,r9,f10⟩:=h1;cases f0;cases f1;cases f2;cases f3;cases f4;cases f5;cases f6;cases f7;cases f8;cases f9;have s5:=Rep.slc r5;have s6:=Rep.slc r6;have s7:=Rep.slc r7;have s8:=Rep.slc r8;have s9:=Rep.slc r9;have c0:=hc 0 gj;have c1:=hc 1 gj;have c2:=hc 2 gj;have c3:=hc 3 gj;have c4:=hc 4 gj;have c5:=hc 5 gj;have c6:=hc 6 gj;have c7:=hc 7 gj;have c8:=hc 8 gj;have c9:=hc 9 gj;obtain⟨rfl, -⟩:=r0;obtain⟨rfl, -⟩:=r1;obtain⟨rfl, -⟩:=r2;obtain⟨rfl, -⟩:=r3;obtain⟨rfl, -⟩:=r4;refine⟨u9,hT,⟨⟨_,c0⟩,λj h1 h2=>?_,λj h1 h2=>?_⟩,c0,c1,c9,r9⟩
 ·match j,h1,h2 with
  |1,_,_=>exact⟨_,c1⟩
  |2,_,_=>exact⟨_,c2⟩
  |3,_,_=>exact⟨_,c3⟩
  |4,_,_=>exact⟨_,c4⟩
  |0,h,_=>omega
  |j+5,_,h=>omega
 ·obtain⟨a5,k5,d5,e5⟩:=s5;obtain⟨a6,k6,d6,e6⟩:=s6;obtain⟨a7,k7,d7,e7⟩:=s7;obtain⟨a8,k8,d8,e8⟩:=s8;obtain⟨a9,k9,d9,e9⟩:=s9
  match j,h1,h2 with
  |5,_,_=>exact⟨a5,k5,d5,by rw[c5, <-e5];rfl⟩
  |6,_,_=>exact⟨a6,k6,d6,by rw[c6, <-e6];rfl⟩
  |7,_,_=>exact⟨a7,k7,d7,by rw[c7, <-e7];rfl⟩
  |8,_,_=>exact⟨a8,k8,d8,by rw[c8, <-e8];rfl⟩
  |9,_,_=>exact⟨a9,k9,d9,by rw[c9, <-e9];rfl⟩
  |0,h,_=>omega
  |1,h,_=>omega
  |2,h,_=>omega
  |3,h,_=>omega
  |4,h,_=>omega
  |j+10,_,h=>omega
section
variable {N m:E} {w w1:Zw} {V:E->H Yb} {ue:Yb} {U:E->E}
inductive Dn (N m:E) (U:E->E) (w1:Zw) (V:E->H Yb) (W:Zw):H Zf->Yb->Prop
 | mk {l:H Zf} {u:Yb} (h0:∀ a cap,u=.slice a l.length cap->∀ j b off,j<l.length->a=Zq ⟨b,off,Zp⟩->(el l j).fKind= -1->RpG V W b (off+j*10) (itoN (el l j).fText)/\Th N w1 b/\Ph m w1 b (off+j*10) (itoN (el l j).fText))
   (h2:∀ i b off cap x,i<l.length->u=.slice (Zq ⟨b,off,Zp⟩) l.length cap->(el l i).fKind≠ -1->w1.cell? ⟨b,off+i*10+9,Zp⟩=Zq x->Dn N m U w1 V W (el l i).fKids x):Dn N m U w1 V W l u
def Dn.mono{A B:Zw}{l:H Zf}{u:Yb}(h:Dn N m U w1 V A l u)(hm:Mono N m w1 V A B):Dn N m U w1 V B l u:=by
 induction h with
 | mk h0 h2 ih=>exact .mk (fun a cap e j b off hj ha hk=>by
   obtain⟨q1,q2,q3⟩:=h0 a cap e j b off hj ha hk
   exact⟨hm _ _ _ q2 q3 q1,q2,q3⟩) (λi b off cap x hi e hk hx=>ih i b off cap x hi e hk hx)
def Vcw{P:Xs}{b o j:E}{v:Yb}{vs:H Yb}{A B:Zw}(h:(storeCells ⟨b,o,Zp⟩ (v::vs) j).run P A=.ok () B):∃ X,(store ⟨b,o+j,Zp⟩ v).run P A=.ok () X/\(storeCells ⟨b,o,Zp⟩ vs (j+1)).run P X=.ok () B:=by
 simp only[storeCells,Q8,Vbd]at h;cases hs:(store ⟨b,o+j,Zp⟩ v).run P A with
 |ok u X=>rw[hs]at h;exact⟨X,rfl,h⟩
 |_=>rw[hs]at h;simp[Result.andThen]at h
def AtL(U:E->E)(N:E)(w1:Zw)(l:H Zf)(a:J2 Addr):Prop:=∀ i,i<l.length->∃ b off,a=Zq ⟨b,off,Zp⟩/\Th N w1 b/\(∃us:H Yb,us.length=10/\(∀j,j<10->w1.cell? ⟨b,off+i*10+j,Zp⟩=us[j]?)/\I2 U w1 (gI N (el l i)) (.agg us.toArray))
def Mono.rp{A B:Zw}(h:Mono N m w1 V A B){l:H Zf}{a:J2 Addr}{cap:E}(hp:∀ x∈l,AllI (PhP m) x)(hm:m<=2048)(hat:AtL U N w1 l a){j:E}(hj:j<l.length){b off cap':E}(_:j<l.length)(e:Qh a l.length cap=.slice (Zq ⟨b,off,Zp⟩) l.length cap')(hk:(el l j).fKind= -1)(hr:RpG V A b (off+j*10) (itoN (el l j).fText)):RpG V B b (off+j*10) (itoN (el l j).fText):=by
 obtain⟨k,hkm,ht⟩:=(Vad.1 (hp _ (Vbk (l:=l) (i:=j) hj))).1.1 hk;obtain⟨b2,off2,rfl,hT2,us2,hul2,huc2,hur2⟩:=hat j hj;cases e;obtain⟨uk2,hq2⟩:=prt_of hT2 hul2 huc2 hur2;rw[ht,Vbr kv]at hr ⊢;exact h _ _ _ hT2 ⟨hkm,hq2.gp,by rw[<-hk];exact hq2.kd,by rw[<-ht];exact hq2.tx⟩ hr
def rs_in(hm:m<=2048)(hN:N<=w1.heap.size)(hE:ElL N m w V ue):∀(n:E)(l:H Zf)(u:Yb)(W:Zw),Yd l<n->I2 U w1 (.fs N 42 (l.map (gI N))) u->(∀x∈l,AllI (PhP m) x)->l.length<=1073741824->Rr N m w w1 V W->
  I0 Xb 0 Zg 95 #[u,ue] W λe W'=>e=.returned (.tuple #[])/\Rr N m w w1 V W'/\Mono N m w1 V W W'/\Dn N m U w1 V W' l u:=by
 intro n
 induction n with
 |zero=>intro l u W h;omega
 | succ n ih=>
  intro l u W hn hu hp hl hR;obtain⟨a,cap,rfl,hat⟩:=fs_at hu;replace hat:AtL U N w1 l a:=hat
  obtain⟨ea,ec,rfl⟩:=hE.sl;refine Qf J4 rfl Zm ?_ rfl;simp only[Tryz.ntmps95,Y8,Yj,Y0,Xr,Xq,Yw,Yv,Y9,Y2,Ye,Z4]
  gi_wp2
  gi_loopw [9] (λv9 B=>∃(i:E),v9=.int .i64 (i:F)/\i<=l.length/\Rr N m w w1 V B/\Mono N m w1 V W B/\
    (∀j b off cap,j<i->Qh a l.length cap=.slice (Zq ⟨b,off,Zp⟩) l.length cap->(el l j).fKind= -1->RpG V B b (off+j*10) (itoN (el l j).fText))/\
    (∀j b off cap x,j<i->Qh a l.length cap=.slice (Zq ⟨b,off,Zp⟩) l.length cap->(el l j).fKind≠ -1->w1.cell? ⟨b,off+j*10+9,Zp⟩=Zq x->Dn N m U w1 V B (el l j).fKids x))
   (λv9 _=>l.length-(intOf v9).toNat)
  case atStart=>exact⟨0,rfl,Ys _,hR,Mono.refl _,λj _ _ _ h=>Yr h (Jq _),λj _ _ _ _ h=>Yr h (Jq _)⟩
  obtain⟨i,rfl,hi,hRB,hMB,hd1,hd2⟩:=hrel
  by_cases hlt:i<l.length
  ·have hd:((i:F)<(l.length:F)):=kv;obtain⟨b,off,rfl,hT,us,hul,huc,hur⟩:=hat i hlt;obtain⟨uk,hq⟩:=prt_of hT hul huc hur;have hx:=Vbk (l:=l) (i:=i) hlt;have hpx:=Vad.1 (hp _ hx);have key:(∃i0 uk,wr.cell? ⟨b,off+i*10,Zp⟩=Zq (.int .i64 i0)/\i0≠ -1/\wr.cell? ⟨b,off+i*10+9,Zp⟩=Zq uk/\I0 Xb 0 Zg 95 #[uk,.slice ea m ec] wr λe W'=>e=.returned (.tuple #[])/\Rr N m w w1 V W'/\Mono N m w1 V wr W'/\((el l i).fKind= -1->RpG V W' b (off+i*10) (itoN (el l i).fText))/\∀ x,(el l i).fKind≠ -1->w1.cell? ⟨b,off+i*10+9,Zp⟩=Zq x->Dn N m U w1 V W' (el l i).fKids x)\/
     (∃k,Ph m w1 b (off+i*10) k/\itoN (el l i).fText=k/\(el l i).fKind= -1/\wr.cell? ⟨b,off+i*10,Zp⟩=Zq (.int .i64 (-1))/\wr.cell? ⟨b,off+i*10+1,Zp⟩=Zq (.string (itoa k))):=by
    by_cases hk:(el l i).fKind= -1
    ·obtain⟨k,hkm,htx⟩:=hpx.1.1 hk;have hP:Ph m w1 b (off+i*10) k:=⟨hkm,hq.gp,by rw[<-hk];exact hq.kd,by rw[<-htx];exact hq.tx⟩
     have hit:itoN (el l i).fText=k:=by rw[htx];exact Vbr kv
     rcases hRB.ins b _ k hT hP with hs|hs
     ·exact .inr ⟨k,hP,hit,hk,(hs 0 gj).trans hP.kd,(hs 1 gj).trans hP.tx⟩
     ·have hv:=hE.ok k hkm;obtain⟨i0,h0,h0n⟩:=hv.kd;obtain⟨uk',h9,hc9⟩:=hv.ks;refine .inl ⟨i0,uk',(hs 0 gj).trans h0,h0n,(hs 9 gj).trans h9,((Xw (n:=0)).2 (hc9 wr hRB.low)).mono ?_⟩;rintro e W' ⟨rfl,hb⟩;obtain⟨q1,q2⟩:=hRB.below (Yh hN hRB.sz) hb;exact⟨rfl,q1,q2,λ_=>by rw[hit];exact q2 _ _ _ hT hP hs,λx h=>Yr hk h⟩
    ·have hst:=hRB.stay hT hq.gp hq.kd hk;refine .inl ⟨_,uk,(hst 0 gj).trans hq.kd,hk,(hst 9 gj).trans hq.ks,(ih (el l i).fKids uk wr ?_ hq.rp hpx.2 hpx.1.2 hRB).mono ?_⟩
     ·have hs1:=Xj hx;have hs2:Yd (el l i).fKids<Yd (el l i):=by
       cases(el l i);simp only[Xg];omega
      omega
     ·rintro e W' ⟨rfl,q1,q2,q3⟩;refine⟨rfl,q1,q2,λh=>Yr h hk,λx _ hx=>?_⟩;rw[hq.ks]at hx;cases hx;exact q3
   clear ih huc hur;rcases key with⟨i0,uk',c0,hi0,c9,hcall⟩|⟨k,hP,hit,hk,c0,c1⟩
   ·have hst:∀ B,Mono N m w1 V wr B->((el l i).fKind= -1->RpG V B b (off+i*10) (itoN (el l i).fText))->True:=λ_ _ _=>trivial
    clear hst
    gi_wp2
    refine⟨Zm,rfl,hcall.mono ?_⟩;rintro e W' ⟨rfl,q1,q2,q3,q4⟩;clear hcall c0 c9
    gi_wp2
    have hMW:=hMB.trans q2;refine⟨⟨i+1,rfl,hlt,q1,hMW,λj b' off' cap' hj e hkj=>?_,λj b' off' cap' x hj e hkj hxj=>?_⟩,by simp only[intOf];omega⟩
    ·by_cases he:j=i
     ·subst he;cases e;exact q3 hkj
     ·exact q2.rp hp hm hat kv kv e hkj (hd1 j b' off' cap' kv e hkj)
    ·by_cases he:j=i
     ·subst he;cases e;exact q4 x hkj hxj
     ·exact(hd2 j b' off' cap' x kv e hkj hxj).mono q2
   ·have ha:=atoi_raw k (by have:=hP.lt;omega) wr
    gi_wp2
    refine⟨Zm,rfl,((Xw (n:=0)).2 ha).mono ?_⟩;rintro e W' ⟨rfl,hb⟩;obtain⟨eb,eo,ec',he,heb,hec⟩:=hE.at' k hP.lt;simp only[Value.slice.injEq,Qp]at he;obtain⟨rfl,rfl⟩:=he;have hkm:((k:E):F)<((m:E):F):=by have:=hP.lt;omega
    obtain⟨q1,q2⟩:=hRB.below (Yh hN hRB.sz) hb;have hV:=hE.ok k hP.lt;have hbl:W'.heap[eb]? =w.heap[eb]? :=(hb.block eb (by have:=hRB.low.size;have:=hN;have:=hRB.sz;omega)).trans (hRB.low.block eb heb);have hcv:∀ j,j<10->W'.cell? ⟨eb,eo+k*21+1+1+j,Zp⟩=(V k)[j]? :=λj hj=>(Vi7 hbl _).trans (by rw[show eo+k*21+1+1+j=eo+k*21+(2+j) by omega];exact hec j hj)
    obtain⟨v0,v1,v2,v3,v4,v5,v6,v7,v8,v9,hvk⟩:=list10 hV.len;rw[hvk]at hcv;have x0:W'.cell? ⟨eb,eo+k*21+1+1,Zp⟩=Zq v0:=hcv 0 gj;have x1:W'.cell? ⟨eb,eo+k*21+1+1+1,Zp⟩=Zq v1:=hcv 1 gj;have x2:W'.cell? ⟨eb,eo+k*21+1+1+2,Zp⟩=Zq v2:=hcv 2 gj;have x3:W'.cell? ⟨eb,eo+k*21+1+1+3,Zp⟩=Zq v3:=hcv 3 gj;have x4:W'.cell? ⟨eb,eo+k*21+1+1+4,Zp⟩=Zq v4:=hcv 4 gj;have x5:W'.cell? ⟨eb,eo+k*21+1+1+5,Zp⟩=Zq v5:=hcv 5 gj;have x6:W'.cell? ⟨eb,eo+k*21+1+1+6,Zp⟩=Zq v6:=hcv 6 gj;have x7:W'.cell? ⟨eb,eo+k*21+1+1+7,Zp⟩=Zq v7:=hcv 7 gj;have x8:W'.cell? ⟨eb,eo+k*21+1+1+8,Zp⟩=Zq v8:=hcv 8 gj;have x9:W'.cell? ⟨eb,eo+k*21+1+1+9,Zp⟩=Zq v9:=hcv 9 gj;clear hcv hec hbl hb ha;obtain⟨W2,hst,q3,q4,q5⟩:=q1.put hm hT hP hV;have hs2:=hst Zg;rw[hvk]at hs2;obtain⟨X0,s0,hs2⟩:=Vcw (j:=0) hs2;obtain⟨X1,s1,hs2⟩:=Vcw (j:=1) hs2;obtain⟨X2,s2,hs2⟩:=Vcw (j:=2) hs2;obtain⟨X3,s3,hs2⟩:=Vcw (j:=3) hs2;obtain⟨X4,s4,hs2⟩:=Vcw (j:=4) hs2;obtain⟨X5,s5,hs2⟩:=Vcw (j:=5) hs2;obtain⟨X6,s6,hs2⟩:=Vcw (j:=6) hs2;obtain⟨X7,s7,hs2⟩:=Vcw (j:=7) hs2;obtain⟨X8,s8,hs2⟩:=Vcw (j:=8) hs2;obtain⟨X9,s9,hs2⟩:=Vcw (j:=9) hs2;have hX:X9=W2:=by simpa[storeCells]using hs2
    subst hX;clear hst hs2 hvk c0 c1;rw[Nat.add_zero]at s0
    gi_wp2
    have hMW:=(hMB.trans q2).trans q4;refine⟨⟨i+1,rfl,hlt,q3,hMW,λj b' off' cap' hj e hkj=>?_,λj b' off' cap' x hj e hkj hxj=>?_⟩,by simp only[intOf];omega⟩
    ·by_cases he:j=i
     ·subst he;cases e;rw[hit];exact q5
     ·exact(q2.trans q4).rp hp hm hat kv kv e hkj (hd1 j b' off' cap' kv e hkj)
    ·by_cases he:j=i
     ·subst he;exact Yr hk hkj
     ·exact(hd2 j b' off' cap' x kv e hkj hxj).mono (q2.trans q4)
  ·have hd:¬ ((i:F)<(l.length:F)):=kv;clear ih
   gi_wp2
   go_end0
   have hil:i=l.length:=kv;subst hil;refine⟨rfl,hRB,hMB,.mk (λa' cap' e j b off hj ha hk=>?_) (λj b off cap' x hj e hk hx=>by cases e;exact hd2 j b off cap x hj rfl hk hx)⟩;cases e;subst ha;have h1:=hd1 j b off cap hj rfl hk;obtain⟨k,hkm,ht⟩:=(Vad.1 (hp _ (Vbk (l:=l) (i:=j) hj))).1.1 hk;obtain⟨b2,off2,e2,hT2,us2,hul2,huc2,hur2⟩:=hat j hj;cases e2;obtain⟨uk2,hq2⟩:=prt_of hT2 hul2 huc2 hur2;rw[ht,Vbr kv]at h1 ⊢;exact⟨h1,hT2,hkm,hq2.gp,by rw[<-hk];exact hq2.kd,by rw[<-ht];exact hq2.tx⟩
end
end
section
open Go Go.Eng Go.RowKit Go.Shelf
def RepL_mk{U:E->E}{w:Zw}:∀(l:H AV)(us:H Yb),l.length=us.length->(∀(i:E)(x:AV)(u:Yb),l[i]? =Zq x->us[i]? =Zq u->I2 U w x u)->RepL U w l us
 |[],[],_,_=>rfl
 |x::l,u::us,h,hr=>⟨u,us,rfl,hr 0 x u rfl rfl,RepL_mk l us (by simpa using h) (λi y v h1 h2=>hr (i+1) y v (by simpa using h1) (by simpa using h2))⟩
 |[],u::us,h,_=>by simp at h
 |x::l,[],h,_=>by simp at h
def Flat(x:AV):Prop:=∀ U w U' w' u,I2 U w x u->I2 U' w' x u
def Vk9(v:Yb):Flat (.val v):=λ_ _ _ _ _ h=>h
def flatL{U:E->E}{w:Zw}(U':E->E)(w':Zw):∀ {l:H AV} {us:H Yb},(∀x∈l,Flat x)->RepL U w l us->RepL U' w' l us
 |[],_,_,h=>h
 |x::l,us,hl,h=>by
  obtain⟨u,us',e,h1,h2⟩:=h;exact⟨u,us',e,hl x ku _ _ _ _ _ h1,flatL U' w' (λy hy=>hl y (by simp[hy])) h2⟩
def flat_agg{l:H AV}(h:∀ x∈l,Flat x):Flat (.agg l):=by
 intro U w U' w' u hr;simp only[I2]at hr ⊢;obtain⟨us,e,h1,h2⟩:=hr;exact⟨us,e,flatL U' w' h h1,h2⟩
def flat_pair(x:DPair):Flat (Vaz x):=flat_agg (λy hy=>by
 simp only[Zl,Zk,Z0]at hy
 rcases hy with rfl|rfl <;>exact Vk9 _)
def flat_cit(x:Ig):Flat (Vap x):=flat_agg (λy hy=>by
 simp only[Zl,Zk,Z0]at hy
 rcases hy with rfl|rfl|rfl|rfl <;>exact Vk9 _)
section
variable {N m:E} {w w1:Zw} {V:E->H Yb} {ue:Yb} {U:E->E} {VI:E->Zf}
def Rr.fs_other{W:Zw}(h:Rr N m w w1 V W){t:E}(ht:t≠42){l:H AV}(hl:∀ x∈l,Flat x){u:Yb}(hu:I2 U w1 (.fs N t l) u):I2 U W (.sl l) u:=by
 simp only[I2]at hu ⊢;obtain⟨a,cap,es,sz,e1,h2,h3,h4,h5,h6,h7,h8⟩:=hu;refine⟨a,cap,es,sz,e1,flatL _ _ hl h2,h3,h4,h5,h6,?_⟩
 by_cases hv:Va3 es=[]
 ·exact .inl hv
 ·rcases h7 with h7|⟨b,off,ha,hle,hc⟩
  ·exact Yr h7 hv
  ·obtain⟨q1,⟨arr,mm,q2⟩,q3⟩:=h8 hv _ ha;have hlt:b<w1.heap.size:=(Zr.1 q2).1;have hnT:¬ Th N w1 b:=by
    rintro⟨_,arr',q4⟩;simp only at q2;rw[q2]at q4;cases q4;exact ht rfl
   have hb:=h.keep b hlt hnT;exact .inr ⟨b,off,ha,hle,λj x hx=>⟨(Vi7 hb _).trans (hc j x hx).1,(hc j x hx).2⟩⟩
def Vk6{α:Type}{f:α->AV}(h:∀ x,Flat (f x))(l:H α):∀ x∈l.map f,Flat x:=λx hx=>by
 obtain⟨y,_,rfl⟩:=Yk.1 hx;exact h y
def done_rep(hm:m<=2048){W:Zw}(hR:Rr N m w w1 V W)(hV:∀ k,k<m->(V k).length=10/\I2 U W (Va2 (VI k)) (.agg (V k).toArray)):
  ∀(n:E)(l:H Zf)(u:Yb),Yd l<n->I2 U w1 (.fs N 42 (l.map (gI N))) u->(∀x∈l,AllI (PhP m) x)->Dn N m U w1 V W l u->I2 U W (.sl ((l.map (rsT VI)).map Va2)) u:=by
 intro n
 induction n with
 |zero=>intro l u h;omega
 | succ n ih=>
  intro l u hn hu hp hD;have hu0:=hu;obtain⟨a,cap,e0,hat⟩:=fs_at hu;simp only[I2]at hu;obtain⟨a',cap',es,sz,e1,h2,h3,h4,h5,h6,h7,h8⟩:=hu;rw[Zx]at e1;have ee:=e0.symm.trans e1;simp only[Value.slice.injEq,Qp]at ee;obtain⟨rfl,rfl⟩:=ee;have hlen:=h2.length;rw[Zx]at hlen;have hex:∀ i,i<l.length->∃ us:H Yb,us.length=10/\(∀b off,a=Zq ⟨b,off,Zp⟩->∀ j,j<10->W.cell? ⟨b,off+i*10+j,Zp⟩=us[j]?)/\I2 U W (Va2 (rsT VI (el l i))) (.agg us.toArray):=by
   intro i hi;obtain⟨b,off,rfl,hT,us,hul,huc,hur⟩:=hat i hi;obtain⟨uk,hq⟩:=prt_of hT hul huc hur;have hx:=Vbk (l:=l) (i:=i) hi;have hpx:=Vad.1 (hp _ hx);cases hD with
   | mk g1 g2=>
    by_cases hk:(el l i).fKind= -1
    ·obtain⟨k,hkm,ht⟩:=hpx.1.1 hk;have hit:itoN (el l i).fText=k:=by rw[ht];exact Vbr kv
     have hr:=(g1 _ _ e0 i b off hi rfl hk).1;rw[hit]at hr;refine⟨V k,(hV k hkm).1,λb' off' e=>?_,?_⟩
     ·cases e;exact hr
     ·rw[Vqj VI hk,hit];exact(hV k hkm).2
    ·have hst:=hR.stay hT hq.gp hq.kd hk;refine⟨us,hul,λb' off' e=>?_,?_⟩
     ·cases e;exact λj hj=>(hst j hj).trans (huc j hj)
     ·have hkr:=ih (el l i).fKids uk (by
       have hs1:=Xj hx;have hs2:Yd (el l i).fKids<Yd (el l i):=by
        cases(el l i);simp only[Xg];omega
       omega) hq.rp hpx.2 (g2 i b off _ uk hi e0 hk hq.ks)
      rw[Vqk VI hk,Vbw];have hur0:=hur;rw[gI_eq]at hur;unfold agI at hur;simp only[I2]at hur ⊢;obtain⟨vs,ev,r1,r2⟩:=hur;refine⟨vs,ev,?_,r2⟩;obtain⟨x0,l0,f0,r0,x1,l1,f1,r1,x2,l2,f2,r2,x3,l3,f3,r3,x4,l4,f4,r4,x5,l5,f5,r5,x6,l6,f6,r6,x7,l7,f7,r7,x8,l8,f8,r8,x9,l9,f9,r9,f10⟩:=r1;have e9:x9=uk:=by
       have c9:=(huc 9 gj).symm.trans hq.ks;have:us=vs.toList:=by
        simp only[Ij]at ev;rw[<-ev]
       rw[this,f0,f1,f2,f3,f4,f5,f6,f7,f8,f9]at c9;simpa using c9
      subst e9;exact⟨x0,l0,f0,r0,x1,l1,f1,r1,x2,l2,f2,r2,x3,l3,f3,r3,x4,l4,f4,r4,x5,l5,f5,hR.fs_other gj (Vk6 (λ_=>Vk9 _) _) r5,x6,l6,f6,hR.fs_other gj (Vk6 flat_pair _) r6,x7,l7,f7,hR.fs_other gj (Vk6 (λ_=>Vk9 _) _) r7,x8,l8,f8,hR.fs_other gj (Vk6 flat_cit _) r8,x9,l9,f9,hkr,f10⟩
  obtain⟨f,hf⟩:∃ f:E->H Yb,∀i,i<l.length->(f i).length=10/\(∀b off,a=Zq ⟨b,off,Zp⟩->∀ j,j<10->W.cell? ⟨b,off+i*10+j,Zp⟩=(f i)[j]?)/\I2 U W (Va2 (rsT VI (el l i))) (.agg (f i).toArray):=
   ⟨λi=>if h:i<l.length then Classical.choose (hex i h)else[],λi hi=>by simp only[dif_pos hi];exact Classical.choose_spec (hex i hi)⟩
  have hes:∀ e∈(Ib l.length).map (λi=>Jf (f i).toArray),e.cells.size=10:=by
   intro e he;obtain⟨i,hi,rfl⟩:=Yk.1 he;exact(hf i (Jv.1 hi)).1
  have hvl:(Va3 ((Ib l.length).map (λi=>Jf (f i).toArray))).length=l.length*10:=by
   rw[Vaf _ hes];simp
  have hsz0:∀ e∈es,e.cells.size=10:=(uniGL N l).sizes h2;have hvl0:(Va3 es).length=l.length*10:=by rw[Vaf es hsz0,hlen]
  simp only[I2,Zx];refine⟨a,cap,(Ib l.length).map (λi=>.agg (f i).toArray),10,e0,?_,hes,?_,?_,?_,?_⟩
  ·refine RepL_mk _ _ ku (λi x v hx hv=>?_);simp only[Qv,Q9]at hx hv;obtain⟨y,⟨z',hz,rfl⟩,rfl⟩:=hx;obtain⟨q,hq,rfl⟩:=hv;have hi:i<l.length:=(Xo.1 hz).1;rw[List.getElem?_range hi]at hq;cases hq;have:=(hf i hi).2.2;rwa[show el l i=z' by simp[el,hz]]at this
  ·intro ha;have:es=[]:=h4 ha;rw[this]at hlen;have:l.length=0:=by simpa using hlen.symm
   rw[this];rfl
  ·simpa using h5
  ·intro hne;exact h6 (by intro e;apply hne;simpa using e)
  ·rcases Qq l.length with hz|hpos
   ·exact .inl (by rw[hz];rfl)
   ·rcases h7 with h7|⟨b,off,ha,hle,hc⟩
    ·rw[h7]at hvl0;simp at hvl0;omega
    ·refine .inr ⟨b,off,ha,by rw[hvl];omega,λq x hx=>?_⟩;have hq:q<l.length*10:=by rw[<-hvl];exact(Xo.1 hx).1
     have hi:q / 10<l.length:=kv;obtain⟨g1,g2,g3⟩:=hf (q / 10) hi;have hlt:q%10<(f (q / 10)).length:=by rw[g1];omega
     have hge:=Vdd _ (q / 10) (.agg (f (q / 10)).toArray) hes (by simp[hi]) (q%10) ((f (q / 10))[q%10]'hlt) (show(Jf (f (q / 10)).toArray).cells.toList[q%10]? =_ from Z6 hlt);rw[show q / 10*10+q%10=q by omega,hx]at hge;have hge:x=(f (q / 10))[q%10]'hlt:=Dh hge;have hcell:=g2 b off ha (q%10) kv;rw[show off+q / 10*10+q%10=off+q by omega,Z6 hlt, <-hge]at hcell;refine⟨hcell,?_⟩;rw[Vbw]at g3;simp only[I2]at g3;obtain⟨vs,ev,r1,r2⟩:=g3;refine r2 x ?_;simp only[Ij]at ev;rw[<-ev,hge];exact Ji hlt
end
end
section
open Go Go.Eng
def siB(l:H F)(x:F):H (E×Jk):=[(1000,.cells 36 [jL (l.map vI)]),(1001,.cells 3 [jI x])]
def sic_to(l:H F)(x:F)(i:F)(h0:0<=i)(h1:i<l.length):Va1 Zg 272 [jI i,.ptr 1000 0,.ptr 1001 0] (siB l x) [] (jB (Zn (el l i.toNat>=x))) (siB l x) []:=by
 have he:=elI_vI l i h0 h1;refine bGs Tryz.func272 ?_;refine gO m5 ?_;refine DR3 (tn 2<|ke he i7) kx kx kx ?_;exact eNs
def srcL(l:H F)(x:F):E->F->F->F
 |0,i,_=>i
 |n+1,i,j=>Zu (Zn (i<j)) (Zu (Zn (el l ((i+j) / 2).toNat>=x)) (srcL l x n i ((i+j) / 2)) (srcL l x n ((i+j) / 2+1) j)) i
def srI(l:H F)(x:F):Int:=srcL l x (l.length+1) 0 l.length
def srcL_bd(l:H F)(x:F):∀(n:E)(i j:F),0<=i->i<=j->j<=l.length->(j<l.length->el l j.toNat>=x)->(j-i).toNat<n->0<=srcL l x n i j/\srcL l x n i j<=l.length/\(srcL l x n i j<l.length->el l (srcL l x n i j).toNat>=x)
 |0,i,j,_,_,_,_,h=>by omega
 | n+1,i,j,h0,h1,h2,h3,h4=>by
  rw[srcL];refine Va5 (λr:F=>0<=r/\r<=l.length/\(r<l.length->el l r.toNat>=x)) (λq=>?_) (λq=>?_)
  ·have q:=Zo q;refine Va5 (λr:F=>0<=r/\r<=l.length/\(r<l.length->el l r.toNat>=x)) (λq2=>?_) (λq2=>?_)
   ·exact srcL_bd l x n _ _ h0 kv kv (λ_=>Zo q2) kv
   ·exact srcL_bd l x n _ _ kv kv h2 h3 kv
  ·have q:=Zh q;have e:i=j:=kv;subst e;exact⟨h0,h2,h3⟩
def srI_bd(l:H F)(x:F):0<=srI l x/\srI l x<=l.length/\(srI l x<l.length->el l (srI l x).toNat>=x):=srcL_bd l x _ _ _ kv kv kv (λh=>by omega) kv
def hfI(i j:F):Int:=IntKind.i64.wrap ((IntKind.u64.wrap (i+j)).fdiv (2 ^ (min (1:F).toNat IntKind.u64.bits)))
def hfI_eq(i j:F)(h0:0<=i+j)(h1:i+j<=4294967296):hfI i j=(i+j) / 2:=by
 have w2:IntKind.u64.wrap (i+j)=i+j:=by
  unfold IntKind.wrap;simp only[IntKind.signed,IntKind.bits];have:(2:F) ^ 64=18446744073709551616:=gj;simp only[this];simp;omega
 have e3:(i+j).fdiv (2 ^ (min (1:F).toNat IntKind.u64.bits))=(i+j) / 2:=by
  rw[Int.fdiv_eq_ediv_of_nonneg _ gj];rfl
 unfold hfI;rw[w2,e3];exact wrE _ _ kv
def scS(l:H F)(x i j:F):St:=sx 26 [(1,.fn 272 [] [.ptr 1000 0,.ptr 1001 0]),(5,jI i),(6,jI j)] (siB l x) []
def sch_to(l:H F)(x:F)(hl:l.length<=1073741824):Va1 Zg 271 [jI ((l.length:E):F),.fn 272 [] [.ptr 1000 0,.ptr 1001 0]] (siB l x) [] (jI (srI l x)) (siB l x) []:=by
 refine bGs Tryz.func271 ?_;refine gO i7 ?_;refine LP (n:=l.length+1) (λN M S=>∃ i j:F,0<=i/\i<=j/\j<=l.length/\srcL l x N i j=srI l x/\(j-i).toNat<N/\M=()/\S=scS l x i j) kx ⟨0,l.length,kv,kv,kv,rfl,kv,rfl,rfl⟩ (WK kx) ?_;rintro n0 M S ⟨i,j,hi,hij,hj,hM,hF,rfl,rfl⟩;obtain⟨n0,rfl⟩:∃ k,n0=k+1:=⟨n0-1,kv⟩
 rw[srcL]at hM;cases d1:Zn (i<j)with
 |false=>
  have hM:i=srI l x:=by rw[d1]at hM;exact hM
  refine gO (w7 d1 z) ?_;refine Jp j6 kx ?_;rw[<-hM];exact eNs
 | true=>
  rw[d1]at hM;simp only[Zj]at hM;have d1':=Zo d1;have k:=sic_to l x ((i+j) / 2) kv kv;have w1:=wrE (i+j) (i+j) kv;have eE:=hfI_eq i j kv kv;rw[<-eE]at k hM;have hh1:i<=hfI i j/\hfI i j<j:=kv;cases d2:Zn (el l (hfI i j).toNat>=x)with
  |true=>
   rw[d2]at k hM;simp only[Zj]at hM;refine gO (w7 d1<|p8 w1<|p9 (show 0<=(1:F) by decide)<|tn 4<|kg k Zm<|m0 (b:= !Zs) (d:=Ze) rfl j6) ?_;exact AG (m:=n0) ⟨i,hfI i j,hi,kv,kv,hM,kv,rfl,rfl⟩ (WK kx) kx (Zv _)
  |false=>
   rw[d2]at k hM;simp only[Zi]at hM;have w4:=wrE (hfI i j+1) (hfI i j+1) kv;refine gO (w7 d1<|p8 w1<|p9 (show 0<=(1:F) by decide)<|tn 4<|kg k Zm<|m0 (b:= !Ze) (d:=Zs) rfl<|m6 w4 m5) ?_;exact AG (m:=n0) ⟨hfI i j+1,j,kv,kv,kv,hM,kv,rfl,rfl⟩ (WK kx) kx (Zv _)
def sri_to(l:H F)(x:F)(hl:l.length<=1073741824):Va1 Zg 230 [jL (l.map vI),jI x] [] [] (jI (srI l x)) [] []:=by
 have k:Va1 Zg 271 [jI (((l.map vI).length:E):F),.fn 272 [] [.ptr 2 0,.ptr 3 0]] [(3,.cells 3 [jI x]),(2,.cells 36 [jL (l.map vI)])] [] (jI (srI l x)) [(2,.cells 36 [jL (l.map vI)]),(3,.cells 3 [jI x])] []:=by
  rw[Zx];exact Vhg (Vcz kx (Vac (Vah (2,0) (1000,0) rfl) (Vac (Vah (3,0) (1001,0) rfl) (sch_to l x hl))))
 refine bG Tryz.func230 ?_;refine gO (tn 6<|kg k Zm m5) ?_;exact eN
def latI(l:H F)(x:F):Int:=Zu (Zn (srI l x<(((l.map vI).length:E):F))) (el l (srI l x).toNat) (-1)
def latI_to(l:H F)(x:F)(hl:l.length<=1073741824):Va1 Zg 185 [jL (l.map vI),jI x] [] [] (jI (latI l x)) [] []:=by
 have k:=sri_to l x hl;obtain⟨b0,b1,b2⟩:=srI_bd l x;unfold latI;refine bG Tryz.func185 ?_;cases d1:Zn (srI l x<(((l.map vI).length:E):F))with
 |true=>
  have d1':=Zo d1;rw[Zx]at d1';have he:=elI_vI l (srI l x) b0 d1';refine gO (m8 k<|o9 d1<|tn 2<|ke he j6) ?_;exact eN
 |false=>
  refine gO (m8 k<|o9 d1 m5) ?_;exact eN
def latI_bd(l:H F)(x:F):latI l x= -1\/(x<=latI l x/\latI l x∈l):=by
 obtain⟨b0,b1,b2⟩:=srI_bd l x;unfold latI;refine Va5 (λr:F=>r= -1\/(x<=r/\r∈l)) (λq=>.inr ?_) (λ_=>.inl rfl);have q:=Zo q;rw[Zx]at q;refine⟨b2 q,?_⟩;have hlt:(srI l x).toNat<l.length:=kv;have:el l (srI l x).toNat=l[(srI l x).toNat]:=by simp[el,hlt]
 rw[this];exact Ji hlt
def txH(t:Zc):DInline:=Xm 1 t ⟨#[]⟩ ⟨#[]⟩ ⟨⟨#[]⟩,[],[]⟩ [] [] []
def zI:DInline:=Xm 0 ⟨#[]⟩ ⟨#[]⟩ ⟨#[]⟩ ⟨⟨#[]⟩,[],[]⟩ [] [] []
def rfN1:ByteArray:=⟨#[38,97,109,112,59]⟩
def rfN2:ByteArray:=⟨#[38,108,116,59]⟩
def rfN3:ByteArray:=⟨#[38,103,116,59]⟩
def rfN4:ByteArray:=⟨#[38,113,117,111,116,59]⟩
def rfN5:ByteArray:=⟨#[38,35]⟩
def rfL:H AV:=[vS rfN1,vS ⟨#[38]⟩,vS rfN2,vS ⟨#[60]⟩,vS rfN3,vS ⟨#[62]⟩,vS rfN4,vS ⟨#[34]⟩]
def refC(r:Zc)(k:F):Bool:=Zu (Zu (Zn (k<((Zd r:E):F))) (Zn (k<9)) Ze) (digC (IntKind.i64.wrap (Z2 r k))) Ze
def rfcB(r:Zc)(k:F):Bool:=Zu (Zu (k==2) Zs (Zn (k>=((Zd r:E):F)))) Zs (Z2 r k !=59)
def refN(n:F):Bool:=Zu (Zu (Zu (Zn (n<32)) Zs (n==127)) Zs (Zn (n>1114111))) Zs (Zu (Zn (n>=55296)) (Zn (n<=57343)) Ze)
def refT(r:Zc)(i n k:F):Zf×Int:=Zu (rfcB r k) (zI,0) (Zu (refN n) (zI,0) (txH (appS ⟨#[]⟩ n),i+k+1))
def refL(r:Zc)(i:F):E->F->F->Zf×F
 |0,_,_=>default
 |m+1,n,k=>Zu (refC r k) (refL r i m (10*n+IntKind.i64.wrap (Z2 r k-48)) (k+1)) (refT r i n k)
def refR(s:Zc)(i:F):ByteArray:=Za s (Zb i) (Zd s)
def refP(s:Zc)(i:F):Zf×Int:=Zu (hpxB (refR s i) rfN1) (txH ⟨#[38]⟩,i+5) (Zu (hpxB (refR s i) rfN2) (txH ⟨#[60]⟩,i+4) (Zu (hpxB (refR s i) rfN3) (txH ⟨#[62]⟩,i+4) (Zu (hpxB (refR s i) rfN4) (txH ⟨#[34]⟩,i+6) (Zu (!hpxB (refR s i) rfN5) (zI,0) (refL (refR s i) i 8 0 2)))))
def rfS(s:Zc)(i k:F):St:=sx 105 [(0,jS s),(1,jI i),(4,.ptr 4 0),(5,jI 0),(6,jS (refR s i)),(18,.av (.agg rfL)),(19,jI k)] [(4,.cells 42 [.av (vI 0),.av (vS ⟨#[]⟩),.av (vS ⟨#[]⟩),.av (vS ⟨#[]⟩),.av (vS ⟨#[]⟩),.nil,.nil,.nil,.nil,.nil])] []
def rfT(s:Zc)(i n k:F):St:=sx 105 [(0,jS s),(1,jI i),(4,.ptr 4 0),(6,jS (refR s i)),(9,jI n),(10,jI k)] [(4,.cells 42 [.av (vI 0),.av (vS ⟨#[]⟩),.av (vS ⟨#[]⟩),.av (vS ⟨#[]⟩),.av (vS ⟨#[]⟩),.nil,.nil,.nil,.nil,.nil])] []
def refP_to(s:Zc)(i:F)(hs:s.size<=1073741824)(h0:0<=i)(h1:i<s.size):Va1 Zg 135 [jS s,jI i] [] [] (.av (.tup [Vaq (refP s i).1,vI (refP s i).2])) [] []:=by
 have hsl:0<=i/\i<=((Zd s:E):F)/\((Zd s:E):F)<=((Zd s:E):F):=⟨h0,kv,Ym _⟩
 have hrz:(refR s i).size<=s.size:=by unfold refR;simp
 have a0:0<=(0:F)/\(0:F)<(4:E)/\(0:F).toNat*2+2<=rfL.length/\0<2:=gj;have a1:0<=(1:F)/\(1:F)<(4:E)/\(1:F).toNat*2+2<=rfL.length/\0<2:=gj;have a2:0<=(2:F)/\(2:F)<(4:E)/\(2:F).toNat*2+2<=rfL.length/\0<2:=gj;have a3:0<=(3:F)/\(3:F)<(4:E)/\(3:F).toNat*2+2<=rfL.length/\0<2:=gj;have c0:0<=(0:F)/\(0:F)<((2:E):F):=gj;have c1:0<=(1:F)/\(1:F)<((2:E):F):=gj;have w0:=wrE ((0:F)+1) 1 kv;have w1:=wrE ((1:F)+1) 2 kv;have w2:=wrE ((2:F)+1) 3 kv;have w3:=wrE ((3:F)+1) 4 kv;have z1:Zd rfN1=5:=rfl;have e1:=wrE (i+((Zd rfN1:E):F)) (i+5) (by rw[z1];omega);have z2:Zd rfN2=4:=rfl;have e2:=wrE (i+((Zd rfN2:E):F)) (i+4) (by rw[z2];omega);have z3:Zd rfN3=4:=rfl;have e3:=wrE (i+((Zd rfN3:E):F)) (i+4) (by rw[z3];omega);have z4:Zd rfN4=6:=rfl;have e4:=wrE (i+((Zd rfN4:E):F)) (i+6) (by rw[z4];omega);have k1:=Vcj (refR s i) rfN1;have k2:=Vcj (refR s i) rfN2;have k3:=Vcj (refR s i) rfN3;have k4:=Vcj (refR s i) rfN4;have k5:=Vcj (refR s i) rfN5;refine BEG (λr:Zf×F=>.av (.tup [Vaq r.1,vI r.2])) (refP s i) Tryz.func135 kx ?_;refine UF (refP.eq_1 ..) ?_;refine gO (z8 hsl lq) ?_;refine UN (rfS s i 0) 5 kx (WK kx) ?_;refine gO (m0 tt<|kp a0<|qq c0<|n7 k1 z) ?_;refine CS (λq1=>?_) (λq1=>?_)
 ·refine gO (kb q1 z) ?_;refine DR3 (kp c1<|z8 c0<|kp c0<|ko (nO e1)<|z8 e1<|kp e1 j6) kx kx kx ?_;refine UO z kx ?_;exact EN kx
 ·refine gO (kb q1<|kn w0 m5) ?_;refine UA (rfS s i 1) kx (WK kx) ?_;refine gO (m0 tt<|kp a1<|qq c0<|n7 k2 z) ?_;refine CS (λq2=>?_) (λq2=>?_)
  ·refine gO (kb q2 z) ?_;refine DR3 (kp c1<|z8 c0<|kp c0<|ko (nO e2)<|z8 e2<|kp e2 j6) kx kx kx ?_;refine UO z kx ?_;exact EN kx
  ·refine gO (kb q2<|kn w1 m5) ?_;refine UA (rfS s i 2) kx (WK kx) ?_;refine gO (m0 tt<|kp a2<|qq c0<|n7 k3 z) ?_;refine CS (λq3=>?_) (λq3=>?_)
   ·refine gO (kb q3 z) ?_;refine DR3 (kp c1<|z8 c0<|kp c0<|ko (nO e3)<|z8 e3<|kp e3 j6) kx kx kx ?_;refine UO z kx ?_;exact EN kx
   ·refine gO (kb q3<|kn w2 m5) ?_;refine UA (rfS s i 3) kx (WK kx) ?_;refine gO (m0 tt<|kp a3<|qq c0<|n7 k4 z) ?_;refine CS (λq4=>?_) (λq4=>?_)
    ·refine gO (kb q4 z) ?_;refine DR3 (kp c1<|z8 c0<|kp c0<|ko (nO e4)<|z8 e4<|kp e4 j6) kx kx kx ?_;refine UO z kx ?_;exact EN kx
    ·refine gO (kb q4<|kn w3 m5) ?_;refine UA (rfS s i 4) kx (WK kx) ?_;refine gO (m0 ff z) ?_;refine UO (n7 k5 m5) kx ?_;refine CS (λq5=>?_) (λq5=>?_)
     ·refine gO (kb q5 i6) ?_;exact EN kx
     ·refine gO (kb q5 j6) ?_;refine LP (n:=8) (λN M S=>∃ n k:F,(2<=k/\k<=9)/\(0<=n/\n<((10 ^ (k.toNat-2):E):F))/\(9-k.toNat<N)/\M=refL (refR s i) i N n k/\S=rfT s i n k) kx ⟨0,2,kv,gj,gj,rfl,rfl⟩ (WK kx) ?_;rintro n0 M S ⟨n,k,hk,hn,hF0,rfl,rfl⟩;obtain⟨n0,rfl⟩:∃ k,n0=k+1:=⟨n0-1,kv⟩
      refine UF (refL.eq_2 ..) ?_;have kd:=Vlw (IntKind.i64.wrap (Z2 (refR s i) k));refine gO (jq (Zn (k<((Zd (refR s i):E):F))) j6 z<|m7 (Zu (Zn (k<((Zd (refR s i):E):F))) (Zn (k<9)) Ze) (m9 (λh=>ib (refR s i) k (by have j:=Va9 h.2;have j1:=Zo j.1;omega))<|n7 kd z) z z) ?_;refine CS (λq=>?_) (λq=>?_)
      ·obtain⟨g1,g2⟩:=Va9 q;obtain⟨g3,g4⟩:=Va9 g1;have g5:=Zo g3;have g6:=Zo g4;have hbl:=Vcm (refR s i) k.toNat
       have hwb:IntKind.i64.wrap (Z2 (refR s i) k)=Z2 (refR s i) k:=wrE _ _ (by unfold Z2;omega);rw[hwb]at g2;obtain⟨g7,g8⟩:=Va9 g2;have g9:=Zo g7;have g10:=Zo g8;have hi:=ib (refR s i) k ⟨kv,g5⟩;have hp10:(10:E) ^ (k.toNat-2)<=1000000:=Ir gj (show k.toNat-2<=6 by omega);have w8:IntKind.u8.wrap (Z2 (refR s i) k-48)=Z2 (refR s i) k-48:=by
        simp only[IntKind.wrap,IntKind.bits,IntKind.signed];simp;omega
       have w9:IntKind.i64.wrap (Z2 (refR s i) k-48)=Z2 (refR s i) k-48:=wrE _ _ kv;have wm:=wrE (10*n) (10*n) kv;have wa:=wrE (10*n+IntKind.i64.wrap (Z2 (refR s i) k-48)) (10*n+IntKind.i64.wrap (Z2 (refR s i) k-48)) (by rw[w9];omega);have wk:=wrE (k+1) (k+1) kv;refine gO (kb q<|m6 wm<|p7 hi<|kn w8<|m6 wa<|p8 wk m5) ?_;refine AG (m:=n0) ⟨_,k+1,kv,?_,kv,rfl,rfl⟩ (WK kx) kx (Zv _);rw[w9,show(k+1).toNat-2=(k.toNat-2)+1 by omega,Nat.pow_succ];omega
      ·have hp10:(10:E) ^ (k.toNat-2)<=10000000:=Ir gj (show k.toNat-2<=7 by omega);refine gO (kb q z) ?_;refine Jp (t7 (k==2) z i7<|m7 (Zu (k==2) Zs (Zn (k>=((Zd (refR s i):E):F)))) z (m9 (λh=>ib (refR s i) k (by have j:=Va8 h.2;have j1:=Zh j.2;omega)) m5) z) kx ?_;refine CS (λq1=>?_) (λq1=>?_)
       ·refine gO (kb q1 i6) ?_;exact EN kx
       ·obtain⟨j1,j2⟩:=Va8 q1;obtain⟨j3,j4⟩:=Va8 j1;have j5:=Zh j4;refine gO (kb q1<|t7 (Zn (n<32)) z j6<|m7 (Zu (Zn (n<32)) Zs (n==127)) z j6<|m7 (Zu (Zu (Zn (n<32)) Zs (n==127)) Zs (Zn (n>1114111))) z (t7 (Zn (n>=55296)) j6 z z) z) ?_;refine CS (λq2=>?_) (λq2=>?_)
        ·refine gO (kb q2 i6) ?_;exact EN kx
        ·have ka:=appS_to ⟨#[]⟩ n gj;have wk:=wrE (i+k) (i+k) kv;have wl:=wrE (i+k+1) (i+k+1) kv;refine gO (kb q2<|n7 ka<|t8 wk<|kn wl j6) ?_;exact EN kx
end
end Go.Proofs.YthbpjmogdonlkaaGreatDoor
namespace Go.Eng
open Go
def Vbq:H F->F->J2 E
 |[],_=>Zp
 |k::ks,s=>if s==k then Zq 0 else(Vbq ks s).map (· +1)
def Vr2(z:AV)(ks:H F)(vs:H AV)(s:F):AV:=
 match Vbq ks s with
 |some j=>vs.getD j z
 |none=>z
def Vdn{s:F}:∀ {ks:H F} {j:E},Vbq ks s=Zq j->ks[j]? =Zq s
 |[],j,h=>by simp[Vbq]at h
 |k::ks,j,h=>by
  simp only[Vbq]at h
  split at h
  ·rename_i hk;simp at h;subst h;simp at hk;simp[hk]
  ·simp only[Q9]at h;obtain⟨i,h1,rfl⟩:=h;simpa using Vdn h1
def Vfa(s:F):∀(es:H MapEntry)(ks:H F)(i:E),es.map (·.key)=ks.map (.int .i64)->
  Instr.findNow (.int .i64) (.int .i64 s) es i=Zq ((Vbq ks s).bind (λj=>(es[j]?).map (λe=>(i+j,e.val))))
 |[],ks,i,h=>by
  cases ks with
  |nil=>rfl
  |cons k ks=>simp at h
 | e::es,ks,i,h=>by
  cases ks with
  |nil=>simp at h
  | cons k ks=>
   simp only[Xa,List.cons.injEq]at h;obtain⟨h1,h2⟩:=h;simp only[Instr.findNow,h1,Instr.sameNow,Vbq];cases hk:s==k with
   |true=>simp
   |false=>
    simp only[I5,if_false,if_true];rw[Vfa s es ks (i+1) h2];cases Vbq ks s with
    |none=>rfl
    |some j=>simp[J1,Nat.add_comm 1 j]
section
variable {P:Xs}
def Vdp(s:F):MapKept.IsKey (.int .i64) (.int .i64 s):=by simp[MapKept.IsKey]
def Vmu{t k e:Jg}{sz bt:E}{z:Yb}(ht:tMap P t=Zq (k,e))(hk:P.underlying k=Zq (.int .i64))(hz:Van P e=Zq (sz,bt,Zq z)){w:Zw}{b:E}{ents:J9 MapEntry}{clock:E}
  (hb:w.heap[b]? =Zq (.map ents clock)) {ks:H F} (hks:ents.toList.map (·.key)=ks.map (.int .i64)) (s:F) {U:E->E} {vs:H AV} (hvs:RepL U w vs (ents.toList.map (·.val))) {za:AV} (h1:∀ U w,I2 U w za z):
  ∃v,(Instr.lookup t (.map (Zq b)) (.int .i64 s) Ze).run P w=.ok v w/\I2 U w (Vr2 za ks vs s) v:=by
 have hf:=Vfa s ents.toList ks 0 hks;have hlen:ents.toList.length=ks.length:=by simpa using congrArg Qi hks
 cases hp:Vbq ks s with
 |none=>
  rw[hp]at hf;simp only[Option.bind_none]at hf;refine⟨z,?_,?_⟩
  ·simp[Instr.lookup,Va0 (Vcp ht),MapKept.run_getObj_map hb,MapKept.run_checkKey hk (Vdp s),MapKept.run_findKey hk hf,Var hz]
  ·unfold Vr2;rw[hp];exact h1 U w
 | some j=>
  have hj:=Vdn hp;have hjl:j<ks.length:=by
   rcases Xe j ks.length with h|h
   ·exact h
   ·simp[List.getElem?_eq_none h]at hj
  have hje:j<ents.toList.length:=kv;rw[hp]at hf;simp only[Option.bind_some,Z6 hje,Jo]at hf;refine⟨(ents.toList[j]'hje).val,?_,?_⟩
  ·simp[Instr.lookup,Va0 (Vcp ht),MapKept.run_getObj_map hb,MapKept.run_checkKey hk (Vdp s),MapKept.run_findKey hk hf]
  ·have hvl:vs.length=ents.toList.length:=by rw[<-hvs.length];simp
   have hjv:j<vs.length:=kv;unfold Vr2;rw[hp];simp only[Xl,Z6 hjv,Option.getD_some];obtain⟨u,e1,e2⟩:=hvs.get j vs[j] (Z6 hjv);simp only[Qv,Z6 hje,Jo,Z1]at e1;rw[e1];exact e2
def Vfs{o:Oper}{S:St}{t k e:Jg}{sz bt:E}{z:Yb}{x i:Dd}{ks:H F}{vs:H AV}{s:F}(ho:o.op=.lookup t x i Ze)(hx:S.ev x=.av (.im ks vs))(hi:S.ev i=.av (.val (.int .i64 s)))
  (ht:tMap P t=Zq (k,e)) (hk:P.underlying k=Zq (.int .i64)) (hz:Van P e=Zq (sz,bt,Zq z)) {za:AV} (h1:zAV z=Zq za):Sound P o S ⟨Qb,.av (Vr2 za ks vs s),S⟩:=
 Sound.still λ_ G w a hr=>by
  have h2:=hr.ev x;rw[hx]at h2;simp only[RepS,I2]at h2;obtain⟨b,ents,clock,h3,h4,h6,h7,h8⟩:=h2;have h5:=hr.ev i;rw[hi]at h5;simp only[RepS,I2]at h5;obtain⟨v,e1,e2⟩:=Vmu (P:=P) ht hk hz h6 h7 s h8 (Vps h1);exact⟨v,by simp only[execOp,ho,h3,h5.1,Q8,e1];rfl,e2⟩
end
end Go.Eng
namespace Go.Proofs.YthbpjmogdonlkaaGreatDoor
section
open Go Go.Eng
def tkG(ks:H F)(ls:H (H F))(n:F):H Int:=match Vbq ks n with
 |some j=>ls.getD j []
 |none=>[]
def tkV(ls:H (H F)):H AV:=ls.map (λl=>.sl (l.map vI))
def mgetI_tk(ks:H F)(ls:H (H F))(n:F):Vr2 (.sl []) ks (tkV ls) n=.sl ((tkG ks ls n).map vI):=by
 unfold Vr2 tkG tkV;cases Vbq ks n with
 |none=>rfl
 |some j=>
  simp only[Xl,Qv];cases ls[j]? <;>rfl
def TkOk(s:Zc)(ls:H (H F)):Prop:=∀ l∈ls,l.length<=s.size/\∀ y∈l,0<=y/\y<s.size
def tkG_ok{s:Zc}{ls:H (H F)}(h:TkOk s ls)(ks:H F)(n:F):(tkG ks ls n).length<=s.size/\∀ y∈tkG ks ls n,0<=y/\y<s.size:=by
 unfold tkG;cases Vbq ks n with
 |none=>exact⟨Ys _,λy hy=>by simp at hy⟩
 |some j=>
  simp only[Xl];cases e:ls[j]? with
  |none=>exact⟨Ys _,λy hy=>by simp at hy⟩
  |some l=>exact h l (Iv e)
def rdV(s:Zc)(ka:H F)(la:H (H F))(kd:H F)(ld:H (H F)):AV:=.agg [vS s,.im ka (tkV la),.im kd (tkV ld)]
def rdX(s:Zc)(ka:H F)(la:H (H F))(kd:H F)(ld:H (H F)):ABox:=.cells 149 [jS s,.av (.im ka (tkV la)),.av (.im kd (tkV ld))]
def coI(k:F)(t:Zc):DInline:=Xm k t ⟨#[]⟩ ⟨#[]⟩ ⟨⟨#[]⟩,[],[]⟩ [] [] []
def codJ(s:Zc)(ka:H F)(la:H (H F))(i:F):Int:=latI (tkG ka la (runE s i-i)) (runE s i)
def codP(s:Zc)(ka:H F)(la:H (H F))(i:F):Zf×Int:=Zu (Zn (codJ s ka la i<0)) (zI,0) (coI 4 (codC (Za s (Zb (runE s i)) (Zb (codJ s ka la i)))),codJ s ka la i+runE s i-i)
def zB4:ABox:=.cells 42 [.av (vI 0),.av (vS ⟨#[]⟩),.av (vS ⟨#[]⟩),.av (vS ⟨#[]⟩),.av (vS ⟨#[]⟩),.nil,.nil,.nil,.nil,.nil]
def coB(s:Zc)(ka:H F)(la:H (H F))(kd:H F)(ld:H (H F))(m:F):H (E×Jk):=[(4,zB4),(2,rdX s ka la kd ld),glM m]
def coS(s:Zc)(ka:H F)(la:H (H F))(kd:H F)(ld:H (H F))(m i e:F):St:=sx 36 [(1,jI i),(2,.ptr 2 0),(4,.ptr 4 0),(6,jI e)] (coB s ka la kd ld m) []
def coT(s:Zc)(ka:H F)(la:H (H F))(kd:H F)(ld:H (H F))(m i e k:F):St:=sx 36 [(1,jI i),(2,.ptr 2 0),(4,.ptr 4 0),(6,jI e),(7,jI k)] (coB s ka la kd ld m) []
def slZ:Value:=.slice Zp 0 0
def co2(s:Zc)(ka:H F)(la:H (H F))(kd:H F)(ld:H (H F))(m i e:F)(hw:IntKind.i64.wrap (e-i)=e-i)(hl:(tkG ka la (e-i)).length<=1073741824):W Zg (.region 2 (Vaa 2 Yx) Ze) (λx S1=>x=.normal/\Dg S1 (coT s ka la kd ld m i e (latI (tkG ka la (e-i)) e))) (coS s ka la kd ld m i e):=by
 have hc:=latI_to (tkG ka la (e-i)) e hl;refine Vam ?_;rw[show(Vaa 2 Yx).toList=[regO 2 Yx 0,regO 2 Yx 1,regO 2 Yx 2,regO 2 Yx 3,regO 2 Yx 4,regO 2 Yx 5,regO 2 Yx 6,regO 2 Yx 7,regO 2 Yx 8,regO 2 Yx 9] by kernel_rfl];refine Vas (.ptr 2 1) 12 kx kx ?_;refine Vas (.ptr 2 1) 13 kx kx ?_;refine Vas (.av (.im ka (tkV la))) 14 kx kx ?_;refine Vas (jI e) 15 kx kx ?_;refine Vas (jI i) 16 kx kx ?_;refine Vas (jI (IntKind.i64.wrap (e-i))) 17 kx kx ?_;rw[hw];refine Vbs (.av (Vr2 (.sl []) ka (tkV la) (e-i))) 18 kx (Vfs (P:=Zg) (t:=144) (k:=3) (e:=36) (sz:=1) (bt:=24) (z:=slZ) (x:=.tmp 14) (i:=.tmp 17) kx kx kx kx kx kx kx) ?_;rw[mgetI_tk];exact Vmb (cs:=[Qb,_,Qb,Qb]) [cO hc] 36 [(1,jI i),(2,.ptr 2 0),(4,.ptr 4 0),(6,jI e),(7,jI (latI (tkG ka la (e-i)) e))] (coB s ka la kd ld m) [] ⟨Zm,hc,Zm,Zm,Zm⟩ kx ⟨rfl,WK kx⟩
def codJ_bd{s:Zc}{ka:H F}{la:H (H F)}(i:F)(h:TkOk s la)(hn:¬ codJ s ka la i<0):runE s i<=codJ s ka la i/\codJ s ka la i<s.size:=by
 have h2:=tkG_ok h ka (runE s i-i);unfold codJ at hn ⊢;rcases latI_bd (tkG ka la (runE s i-i)) (runE s i)with e|⟨e1,e2⟩
 ·rw[e]at hn;omega
 ·exact⟨e1,(h2.2 _ e2).2⟩
def codP_to(s:Zc)(ka:H F)(la:H (H F))(kd:H F)(ld:H (H F))(m i:F)(hs:s.size<=1073741824)(h0:0<=i)(h1:i<s.size)(htk:TkOk s la):
  Va1 Zg 138 [.av (rdV s ka la kd ld),jI i] [glM m] [] (.av (.tup [Vaq (codP s ka la i).1,vI (codP s ka la i).2])) [glM m] []:=by
 have k1:=Vky s i hs h0 h1;have hb:=Vf3 s i h0;have hl:=tkG_ok htk ka (runE s i-i);have w1:IntKind.i64.wrap (runE s i-i)=runE s i-i:=wrE _ _ kv;obtain⟨J,hJ⟩:∃ J,codJ s ka la i=J:=⟨_,rfl⟩
 have hbd:¬ J<0->runE s i<=J/\J<s.size:=λh=>by rw[<-hJ]at h ⊢;exact codJ_bd i htk h
 unfold codP;rw[hJ];refine bGs Tryz.func138 ?_;have hreg:W Zg (.region 2 (Vaa 2 Yx) Ze) (λx S1=>x=.normal/\Dg S1 (coT s ka la kd ld m i (runE s i) J)) (coS s ka la kd ld m i (runE s i)):=by
  rw[<-hJ];exact co2 s ka la kd ld m i (runE s i) w1 kv
 cases d1:Zn (J<0)with
 |true=>
  simp only[Zj];refine gO (eq k1<|kq 2 m5) ?_;refine Di (coT s ka la kd ld m i (runE s i) J) (z6 d1 i6) kx ?_ kx ?_
  ·refine Vaj (S':=coS s ka la kd ld m i (runE s i)) (WK kx) ?_;exact Val (c':=.region 2 (Vaa 2 Yx) Ze) kx hreg
  exact eNs
 |false=>
  simp only[Zi];have d1':=Zh d1;obtain⟨b1,b2⟩:=hbd d1';have hsl:0<=runE s i/\runE s i<=J/\J<=((Zd s:E):F):=⟨kv,b1,kv⟩
  have k2:=codC_to (Za s (Zb (runE s i)) (Zb J)) m (by rw[Vai];omega);have w2:=wrE (J+runE s i) (J+runE s i) kv;have w3:=wrE (J+runE s i-i) (J+runE s i-i) kv;refine gO (eq k1<|kq 2 m5) ?_;refine Di (coT s ka la kd ld m i (runE s i) J) (z6 d1<|z8 hsl<|kg k2 Zm<|t8 w2<|m6 w3 j6) kx ?_ kx ?_
  ·refine Vaj (S':=coS s ka la kd ld m i (runE s i)) (WK kx) ?_;exact Val (c':=.region 2 (Vaa 2 Yx) Ze) kx hreg
  exact eNs
def mtcN(s:Zc)(i:F):Int:=runE s (i+1)-i-1
def mtcJ(s:Zc)(kd:H F)(ld:H (H F))(i:F):Int:=latI (tkG kd ld (mtcN s i)) (runE s (i+1))
def mtcP(s:Zc)(kd:H F)(ld:H (H F))(i:F):Zf×Int:=Zu (Zu (Zn (i+1>=((Zd s:E):F))) Zs (Z2 s (i+1) !=96)) (zI,0)
 (Zu (Zn (mtcJ s kd ld i<0)) (zI,0) (coI 5 (codC (Za s (Zb (runE s (i+1))) (Zb (mtcJ s kd ld i)))),mtcJ s kd ld i+mtcN s i+1))
def mcS(s:Zc)(ka:H F)(la:H (H F))(kd:H F)(ld:H (H F))(m e n:F):St:=sx 54 [(2,.ptr 2 0),(4,.ptr 4 0),(6,jI e),(7,jI n)] (coB s ka la kd ld m) []
def mcT(s:Zc)(ka:H F)(la:H (H F))(kd:H F)(ld:H (H F))(m e n k:F):St:=sx 54 [(2,.ptr 2 0),(4,.ptr 4 0),(6,jI e),(7,jI n),(8,jI k)] (coB s ka la kd ld m) []
def mc5(s:Zc)(ka:H F)(la:H (H F))(kd:H F)(ld:H (H F))(m e n:F)(hl:(tkG kd ld n).length<=1073741824):W Zg (.region 5 (Vaa 5 Y7) Ze) (λx S1=>x=.normal/\Dg S1 (mcT s ka la kd ld m e n (latI (tkG kd ld n) e))) (mcS s ka la kd ld m e n):=by
 have hc:=latI_to (tkG kd ld n) e hl;refine Vam ?_;rw[show(Vaa 5 Y7).toList=[regO 5 Y7 0,regO 5 Y7 1,regO 5 Y7 2,regO 5 Y7 3,regO 5 Y7 4,regO 5 Y7 5,regO 5 Y7 6,regO 5 Y7 7] by kernel_rfl];refine Vas (.ptr 2 1) 33 kx kx ?_;refine Vas (.ptr 2 2) 34 kx kx ?_;refine Vas (.av (.im kd (tkV ld))) 35 kx kx ?_;refine Vas (jI n) 36 kx kx ?_;refine Vbs (.av (Vr2 (.sl []) kd (tkV ld) n)) 37 kx (Vfs (P:=Zg) (t:=144) (k:=3) (e:=36) (sz:=1) (bt:=24) (z:=slZ) (x:=.tmp 35) (i:=.tmp 36) kx kx kx kx kx kx kx) ?_;rw[mgetI_tk];exact Vmb (cs:=[Qb,_,Qb,Qb]) [cO hc] 54 [(2,.ptr 2 0),(4,.ptr 4 0),(6,jI e),(7,jI n),(8,jI (latI (tkG kd ld n) e))] (coB s ka la kd ld m) [] ⟨Zm,hc,Zm,Zm,Zm⟩ kx ⟨rfl,WK kx⟩
def mtcJ_bd{s:Zc}{kd:H F}{ld:H (H F)}(i:F)(h:TkOk s ld)(hn:¬ mtcJ s kd ld i<0):runE s (i+1)<=mtcJ s kd ld i/\mtcJ s kd ld i<s.size:=by
 have h2:=tkG_ok h kd (mtcN s i);unfold mtcJ at hn ⊢;rcases latI_bd (tkG kd ld (mtcN s i)) (runE s (i+1))with e|⟨e1,e2⟩
 ·rw[e]at hn;omega
 ·exact⟨e1,(h2.2 _ e2).2⟩
def mtcP_to(s:Zc)(ka:H F)(la:H (H F))(kd:H F)(ld:H (H F))(m i:F)(hs:s.size<=1073741824)(h0:0<=i)(h1:i<s.size)(htk:TkOk s ld):
  Va1 Zg 136 [.av (rdV s ka la kd ld),jI i] [glM m] [] (.av (.tup [Vaq (mtcP s kd ld i).1,vI (mtcP s kd ld i).2])) [glM m] []:=by
 have w0:=wrE (i+1) (i+1) kv;unfold mtcP;refine bGs Tryz.func136 ?_;cases d1:Zn (i+1>=((Zd s:E):F))with
 |true=>
  simp only[Zj];refine gO (yq w0<|o9 d1<|kb d1<|kb d1<|kb d1<|kb d1<|kb d1<|kb d1<|kb (b:=Zs) (d:=Zs) rfl i6) ?_;exact eNs
 | false=>
  have d1':=Zh d1;have hib:=ib s (i+1) ⟨kv,kv⟩;cases d2:(Z2 s (i+1) !=96)with
  |true=>
   simp only[Zj,Zi];refine gO (yq w0<|o9 d1<|m0 d1<|m0 d1<|m0 d1<|kn w0<|kb d1<|kp hib<|kb d1<|m0 d1<|kb d2 i6) ?_;exact eNs
  | false=>
   simp only[Zi];have k1:=Vky s (i+1) hs kv kv;have hb:=Vf3 s (i+1) kv;have hl:=tkG_ok htk kd (mtcN s i);have w1:IntKind.i64.wrap (runE s (i+1)-i)=runE s (i+1)-i:=wrE _ _ kv;have w2:IntKind.i64.wrap (runE s (i+1)-i-1)=mtcN s i:=wrE _ _ (by unfold mtcN;omega);have hn0:mtcN s i<=s.size/\0<=mtcN s i:=by unfold mtcN;omega
   obtain⟨J,hJ⟩:∃ J,mtcJ s kd ld i=J:=⟨_,rfl⟩
   have hbd:¬ J<0->runE s (i+1)<=J/\J<s.size:=λh=>by rw[<-hJ]at h ⊢;exact mtcJ_bd i htk h
   rw[hJ];have hreg:W Zg (.region 5 (Vaa 5 Y7) Ze) (λx S1=>x=.normal/\Dg S1 (mcT s ka la kd ld m (runE s (i+1)) (mtcN s i) J)) (mcS s ka la kd ld m (runE s (i+1)) (mtcN s i)):=by
    rw[<-hJ];exact mc5 s ka la kd ld m (runE s (i+1)) (mtcN s i) kv
   cases d3:Zn (J<0)with
   |true=>
    simp only[Zj];refine gO (yq w0<|o9 d1<|m0 d1<|m0 d1<|m0 d1<|kn w0<|kb d1<|kp hib<|kb d1<|m0 d1<|kb d2<|t8 w0<|kc k1<|t8 w1<|kn w2<|kq 5 m5) ?_;refine Di (mcT s ka la kd ld m (runE s (i+1)) (mtcN s i) J) (z6 d3 i6) kx ?_ kx ?_
    ·refine Vaj (S':=mcS s ka la kd ld m (runE s (i+1)) (mtcN s i)) (WK kx) ?_;exact Val (c':=.region 5 (Vaa 5 Y7) Ze) kx hreg
    exact eNs
   |false=>
    simp only[Zi];have d3':=Zh d3;obtain⟨b1,b2⟩:=hbd d3';have hsl:0<=runE s (i+1)/\runE s (i+1)<=J/\J<=((Zd s:E):F):=⟨kv,b1,kv⟩
    have k2:=codC_to (Za s (Zb (runE s (i+1))) (Zb J)) m (by rw[Vai];omega);have w3:=wrE (J+mtcN s i) (J+mtcN s i) kv;have w4:=wrE (J+mtcN s i+1) (J+mtcN s i+1) kv;refine gO (yq w0<|o9 d1<|m0 d1<|m0 d1<|m0 d1<|kn w0<|kb d1<|kp hib<|kb d1<|m0 d1<|kb d2<|t8 w0<|kc k1<|t8 w1<|kn w2<|kq 5 m5) ?_;refine Di (mcT s ka la kd ld m (runE s (i+1)) (mtcN s i) J) (z6 d3<|z8 hsl<|kg k2 Zm<|t8 w3<|kn w4 j6) kx ?_ kx ?_
    ·refine Vaj (S':=mcS s ka la kd ld m (runE s (i+1)) (mtcN s i)) (WK kx) ?_;exact Val (c':=.region 5 (Vaa 5 Y7) Ze) kx hreg
    exact eNs
def hpxB_sz{s p:Zc}(h:hpxB s p=Zs):p.size<=s.size:=by
 unfold hpxB Lib.hasPrefix at h;have:=(List.isPrefixOf_iff_prefix.1 h).length_le;simpa using this
def kU:Key:=(1310,10)
def useC(s:Zc)(v:F):Bool:=Zu (Zu (Zu (Zu (Zn (v<((Zd s:E):F))) (Z2 s v !=124) Ze) (Z2 s v !=123) Ze) (Z2 s v !=125) Ze) (Z2 s v !=10) Ze
def Vmm(s:Zc):E->F->F
 |0,_=>default
 |n+1,v=>Zu (useC s v) (Vmm s n (v+1)) v
def usE(s:Zc)(v:F):Int:=Vmm s ((s.size-Zb v)+1) v
def usE_bd(s:Zc)(i:F)(h:0<=i):i<=usE s i/\(usE s i<=s.size\/usE s i<=i):=by
 refine Vf0 s (Vmm s) (λn v=>?_) _ i h kv;rw[Vmm];refine Va5 (λr:F=>r=v\/(v<(s.size:F)/\r=Vmm s n (v+1))) (λq=>.inr ⟨?_,rfl⟩) (λq=>.inl rfl);unfold useC at q;exact Zo (Va9 (Va9 (Va9 (Va9 q).1).1).1).1
def bb2:ByteArray:=⟨#[125,125]⟩
def ob2:ByteArray:=⟨#[123,123]⟩
def usI(t:Zc)(l:H Zc):DInline:=Xm 15 t ⟨#[]⟩ ⟨#[]⟩ ⟨⟨#[]⟩,[],[]⟩ l [] []
def usL(s t:Zc):E->F->H Zc->Zf×F
  |0,_,_=>default
  |n+1,v,l=>Zu (Zu (Zn (v<((Zd s:E):F))) (Z2 s v==124) Ze)
      (Zu (((l.map Vak).length:F)==8) (zI,0) (usL s t n (usE s (v+1)) (l++[Za s (Zb (v+1)) (Zb (usE s (v+1)))])))
      (Zu (!hpxB (Za s (Zb v) (Zd s)) bb2) (zI,0) (usI t l,v+2))
def useP(s:Zc)(i:F):Zf×Int:=Zu (!hpxB (Za s (Zb i) (Zd s)) ob2) (zI,0)
 (Zu (!namA (Za s (Zb (i+2)) (Zb (nmeS s (i+2))))) (zI,0) (usL s (Za s (Zb (i+2)) (Zb (nmeS s (i+2)))) (s.size+2) (nmeS s (i+2)) []))
def zC:ABox:=.cells 42 [.av (vI 0),.av (vS ⟨#[]⟩),.av (vS ⟨#[]⟩),.av (vS ⟨#[]⟩),.av (vS ⟨#[]⟩),.nil,.nil,.nil,.nil,.nil]
def usB(t:Zc)(g:E)(l:H Zc):H (E×Jk):=[(8,.cells 42 [jI 15,jS t,jS ⟨#[]⟩,jS ⟨#[]⟩,jS ⟨#[]⟩,.nil,.nil,.own kU g 1 (l.map Vak),.nil,.nil]),(4,zC)]
def usS(s t:Zc)(v:F)(l:H Zc):St:=sx 96 [(0,jS s),(4,.ptr 4 0),(7,jI v),(8,.ptr 8 0)] (usB t l.length l) [(kU,l.length)]
def usS2(s t:Zc)(at' v:F)(l:H Zc):St:=sx 96 [(0,jS s),(4,.ptr 4 0),(6,jI at'),(7,jI v),(8,.ptr 8 0)] (usB t l.length l) [(kU,l.length)]
def oBnd(l:H Zc)(x:Zc):Prop:=l.length=l.length/\Da 1 [vS x]/\((l.map Vak).length+([vS x]:H AV).length)*16<=140737488355328
def us15(s t:Zc)(at' v:F)(l:H Zc)(h0:0<=at')(h1:at'<=v)(h2:v<=s.size)(hl:l.length<=100):W Zg (.region 15 (Vaa 15 Yl) Zs) (λe S1=>e=.normal/\Dg S1 (usS s t v (l++[Za s (Zb at') (Zb v)]))) (usS2 s t at' v l):=by
 have hu:Da 1 [vS (Za s (Zb at') (Zb v))]:=Vim rfl rfl;have hC:oBnd l (Za s (Zb at') (Zb v)):=⟨rfl,hu,by simp;omega⟩
 have e:usS s t v (l++[Za s (Zb at') (Zb v)])=sx 96 [(0,jS s),(4,.ptr 4 0),(7,jI v),(8,.ptr 8 0)] [(8,.cells 42 [jI 15,jS t,jS ⟨#[]⟩,jS ⟨#[]⟩,jS ⟨#[]⟩,.nil,.nil,.own kU (l.length+1) 1 (l.map Vak++[vS (Za s (Zb at') (Zb v))]),.nil,.nil]),(4,zC)] [(kU,l.length+1)]:=by simp[usS,usB,Vak]
 rw[e];exact Vhf (cs:=[Qb,Qb,Qb,Qb,Qb,0<=at'/\at'<=v/\v<=((Zd s:E):F),Da 1 [vS (Za s (Zb at') (Zb v))],oBnd l (Za s (Zb at') (Zb v)),oBnd l (Za s (Zb at') (Zb v)),Qb,Qb,Qb]) 7 kx kx 96 [(0,jS s),(4,.ptr 4 0),(7,jI v),(8,.ptr 8 0)] _ _ ⟨Zm,Zm,Zm,Zm,Zm,⟨h0,h1,h2⟩,hu,hC,hC,Zm,Zm,Zm,Zm⟩ kx kx
def us5S(s:Zc)(at' tO:F):St:=sx 96 [(0,jS s),(4,.ptr 4 0),(6,jI at'),(7,jI tO)] [(4,zC)] []
def us5T(s t:Zc)(tO:F):St:=sx 96 [(0,jS s),(4,.ptr 4 0),(7,jI tO),(8,.ptr 8 0)] [(8,.cells 42 [jI 15,jS t,jS ⟨#[]⟩,jS ⟨#[]⟩,jS ⟨#[]⟩,.nil,.nil,.nil,.nil,.nil]),(4,zC)] []
def zIV:Value:=.agg #[.int .i64 0,.string ⟨#[]⟩,.string ⟨#[]⟩,.string ⟨#[]⟩,.string ⟨#[]⟩,.slice Zp 0 0,.slice Zp 0 0,.slice Zp 0 0,.slice Zp 0 0,.slice Zp 0 0]
def zIP:H (E×E):=[(0,1),(1,1),(2,1),(3,1),(4,3),(7,1),(8,1),(9,1)]
def us5(s:Zc)(at' tO:F)(h:0<=at'/\at'<=tO/\tO<=((Zd s:E):F)):W Zg (.region 5 (Vaa 5 Yl) Ze) (λe S1=>e=.normal/\Dg S1 (us5T s (Za s (Zb at') (Zb tO)) tO)) (us5S s at' tO):=by
 refine Vam ?_;rw[show(Vaa 5 Yl).toList=[regO 5 Yl 0,regO 5 Yl 1,regO 5 Yl 2,regO 5 Yl 3,regO 5 Yl 4,regO 5 Yl 5,regO 5 Yl 6] by kernel_rfl];refine Vas (jS s) 20 kx kx ?_;refine Vas (jI at') 21 kx kx ?_;refine Vas (jI tO) 22 kx kx ?_;refine WO_pureP (jS (Za s (Zb at') (Zb tO))) 23 h kx kx ?_;refine Vbs (.av (.agg [vI 15,vS (Za s (Zb at') (Zb tO)),vS ⟨#[]⟩,vS ⟨#[]⟩,vS ⟨#[]⟩,.val (.slice Zp 0 0),.val (.slice Zp 0 0),.val (.slice Zp 0 0),.val (.slice Zp 0 0),.val (.slice Zp 0 0)])) 24 kx (Vq9 (t:=42) (sz:=10) (bt:=192) (z:=zIV) (pl:=zIP) (parts:=#[(0,.const (.int .i64 15)),(1,.tmp 23)]) (ps:=[(0,vI 15),(1,vS (Za s (Zb at') (Zb tO)))]) kx kx kx kx kx kx) ?_;refine Vbs (.ptr 8 0) 8 kx (Vku (t:=42) (sz:=10) (bt:=192) (z:=zIV) (id:=8) kx kx kx gj kx) ?_;refine WO_ownN kx (Vkm (t:=42) (sz:=10) (bt:=192) (z:=Zq zIV) (x:=.tmp 8) (y:=.tmp 24) (b:=8) (k:=0) (ty:=42) (l:=zeroCells zIV) (xs:=[jI 15,jS (Za s (Zb at') (Zb tO)),jS ⟨#[]⟩,jS ⟨#[]⟩,jS ⟨#[]⟩,.nil,.nil,.nil,.nil,.nil]) kx kx kx kx kx rfl (Nat.le_of_ble_eq_true rfl)) ?_;exact Vbl rfl ⟨rfl,WK kx⟩
def useP_to(s:Zc)(i:F)(hs:s.size<=1073741824)(h0:0<=i)(h1:i<s.size):Va1 Zg 140 [jS s,jI i] [] [] (.av (.tup [Vaq (useP s i).1,vI (useP s i).2])) [] []:=by
 obtain⟨R,hR⟩:∃ R,useP s i=R:=⟨_,rfl⟩
 rw[hR];unfold useP at hR;have hsl:0<=i/\i<=((Zd s:E):F)/\((Zd s:E):F)<=((Zd s:E):F):=⟨h0,kv,Ym _⟩
 have k1:=Vcj (Za s (Zb i) (Zd s)) ob2;refine bG Tryz.func140 ?_;cases c1:hpxB (Za s (Zb i) (Zd s)) ob2 with
 |false=>
  rw[c1]at hR;simp only[Yu,Zj]at hR;subst hR;refine gO (z8 hsl<|kc k1<|m0 (b:= !hpxB (Za s (Zb i) (Zd s)) ob2) (d:=Zs) (by rw[c1];rfl) i6) ?_;exact eN
 | true=>
  rw[c1]at hR;simp only[Y4,Zi]at hR;have w1:=wrE (i+2) (i+2) kv;have k2:=Voy s (i+2) hs kv kv;have hb2:=Vg0 s (i+2) kv;have hsz:i+2<=s.size:=by have h2:=hpxB_sz c1;have e2:ob2.size=2:=rfl;rw[Vai]at h2;omega
  have hsl2:0<=i+2/\i+2<=nmeS s (i+2)/\nmeS s (i+2)<=((Zd s:E):F):=⟨kv,hb2.1,kv⟩
  obtain⟨T,hT⟩:∃ T,Za s (Zb (i+2)) (Zb (nmeS s (i+2)))=T:=⟨_,rfl⟩
  have k3:=Vdl T (by rw[<-hT,Vai];omega);rw[hT]at hR;subst hT;cases c2:namA (Za s (Zb (i+2)) (Zb (nmeS s (i+2))))with
  |false=>
   rw[c2]at hR;simp only[Yu,Zj]at hR;subst hR;refine gO (z8 hsl<|kc k1<|m0 (b:= !hpxB (Za s (Zb i) (Zd s)) ob2) (d:=Ze) (by rw[c1];rfl)<|m6 w1<|m8 k2<|kq 5 m5) ?_;refine Di (us5T s (Za s (Zb (i+2)) (Zb (nmeS s (i+2)))) (nmeS s (i+2))) (j7 k3<|m0 (b:= !namA (Za s (Zb (i+2)) (Zb (nmeS s (i+2))))) (d:=Zs) (by rw[c2];rfl) i6) kx ?_ kx ?_
   ·refine Vaj (S':=us5S s (i+2) (nmeS s (i+2))) (WK kx) ?_;exact Val (c':=.region 5 (Vaa 5 Yl) Ze) kx (us5 s (i+2) (nmeS s (i+2)) hsl2)
   exact eN
  | true=>
   rw[c2]at hR;simp only[Y4,Zi]at hR;refine gO (z8 hsl<|kc k1<|m0 (b:= !hpxB (Za s (Zb i) (Zd s)) ob2) (d:=Ze) (by rw[c1];rfl)<|m6 w1<|m8 k2<|kq 5 m5) ?_;refine Di (us5T s (Za s (Zb (i+2)) (Zb (nmeS s (i+2)))) (nmeS s (i+2))) (kq 6 z) kx ?_ kx ?_
   ·refine Vaj (S':=us5S s (i+2) (nmeS s (i+2))) (WK kx) ?_;exact Val (c':=.region 5 (Vaa 5 Yl) Ze) kx (us5 s (i+2) (nmeS s (i+2)) hsl2)
   refine RT [(8,7,.own kU 0 1 (([]:H Zc).map Vak))] (ac (show([]:H AV)=[]/\0<10/\(0:E)=0 from⟨rfl,gj,rfl⟩) an) kx ?_;refine gO (j7 k3<|m0 (b:= !namA (Za s (Zb (i+2)) (Zb (nmeS s (i+2))))) (d:=Ze) (by rw[c2];rfl) z) ?_;refine LP (n:=s.size+2) (λN M S=>∃(v:F)(l:H Zc),0<=v/\v<=s.size/\l.length<=8/\usL s (Za s (Zb (i+2)) (Zb (nmeS s (i+2)))) N v l=R/\s.size-Zb v<N/\M=()/\S=usS s (Za s (Zb (i+2)) (Zb (nmeS s (i+2)))) v l) kx ⟨nmeS s (i+2),[],kv,kv,gj,hR,kv,rfl,rfl⟩ (WK kx) ?_;rintro n0 M S ⟨v0,l,hv0,hv02,hl,hM0,hF,rfl,rfl⟩;obtain⟨n0,rfl⟩:∃ k,n0=k+1:=⟨n0-1,kv⟩
   rw[usL]at hM0;have hsl3:0<=v0/\v0<=((Zd s:E):F)/\((Zd s:E):F)<=((Zd s:E):F):=⟨hv0,hv02,Ym _⟩
   have k5:=Vcj (Za s (Zb v0) (Zd s)) bb2;have w5:=wrE (v0+2) (v0+2) kv;cases d1:Zn (v0<((Zd s:E):F))with
   | false=>
    rw[d1]at hM0;simp only[Zi]at hM0;refine gO (o9 d1<|kb d1<|kb d1<|kb d1<|kb d1<|kb (b:=Ze) (d:=Ze) rfl z) ?_;cases c3:hpxB (Za s (Zb v0) (Zd s)) bb2 with
    |false=>
     rw[c3]at hM0;simp only[Yu,Zj]at hM0;subst hM0;refine Jp (p7 hsl3<|kc k5<|m0 (b:= !hpxB (Za s (Zb v0) (Zd s)) bb2) (d:=Zs) (by rw[c3];rfl) i6) kx ?_;exact eN
    |true=>
     rw[c3]at hM0;simp only[Y4,Zi]at hM0;subst hM0;refine Jp (p7 hsl3<|kc k5<|m0 (b:= !hpxB (Za s (Zb v0) (Zd s)) bb2) (d:=Ze) (by rw[c3];rfl)<|p8 w5 j6) kx ?_;exact eN
   | true=>
    have d1':=Zo d1;have hib2:=ib s v0 ⟨kv,kv⟩;rw[d1]at hM0;simp only[Zj]at hM0;cases d2:(Z2 s v0==124)with
    | false=>
     rw[d2]at hM0;simp only[Zi]at hM0;refine gO (o9 d1<|m0 d1<|m0 d1<|kp hib2<|kb d1<|m0 d1<|kb d2 z) ?_;cases c3:hpxB (Za s (Zb v0) (Zd s)) bb2 with
     |false=>
      rw[c3]at hM0;simp only[Yu,Zj]at hM0;subst hM0;refine Jp (p7 hsl3<|kc k5<|m0 (b:= !hpxB (Za s (Zb v0) (Zd s)) bb2) (d:=Zs) (by rw[c3];rfl) i6) kx ?_;exact eN
     |true=>
      rw[c3]at hM0;simp only[Y4,Zi]at hM0;subst hM0;refine Jp (p7 hsl3<|kc k5<|m0 (b:= !hpxB (Za s (Zb v0) (Zd s)) bb2) (d:=Ze) (by rw[c3];rfl)<|p8 w5 j6) kx ?_;exact eN
    | true=>
     rw[d2]at hM0;simp only[Zj]at hM0;cases d3:(((l.map Vak).length:F)==8)with
     |true=>
      rw[d3]at hM0;simp only[Zj]at hM0;subst hM0;refine gO (o9 d1<|m0 d1<|m0 d1<|kp hib2<|kb d1<|m0 d1<|kb d2<|i8 d3 i6) ?_;refine Jp z kx ?_;exact eN
     | false=>
      rw[d3]at hM0;simp only[Zi]at hM0;have d3':=Ii d3;simp only[Zx]at d3';have w3:=wrE (v0+1) (v0+1) kv;refine gO (o9 d1<|m0 d1<|m0 d1<|kp hib2<|kb d1<|m0 d1<|kb d2<|i8 d3<|m6 w3 i6) ?_;refine LP (n:=(s.size-Zb (v0+1))+1) (λN M S=>∃ v:F,v0+1<=v/\v<=s.size/\Vmm s N v=usE s (v0+1)/\s.size-Zb v<N/\M=()/\S=usS2 s (Za s (Zb (i+2)) (Zb (nmeS s (i+2)))) (v0+1) v l) kx ⟨v0+1,kv,kv,rfl,kv,rfl,rfl⟩ (WK kx) ?_;rintro n1 M S ⟨v,hv,hv2,hM,hF1,rfl,rfl⟩;obtain⟨n1,rfl⟩:∃ k,n1=k+1:=⟨n1-1,kv⟩
      rw[Vmm]at hM;cases q0:Zn (v<((Zd s:E):F))with
      |false=>
       have hM:v=usE s (v0+1):=by unfold useC at hM;rw[q0]at hM;exact hM
       refine gO (o9 q0<|kb q0<|kb q0<|kb q0<|kb q0<|m0 (b:=Ze) (d:=Ze) rfl<|kb (b:=Ze) (d:=Ze) rfl<|kb (b:=Ze) (d:=Ze) rfl<|kb (b:=Ze) (d:=Ze) rfl<|kb (b:=Ze) (d:=Ze) rfl<|m0 (b:=Ze) (d:=Ze) rfl<|kb (b:=Ze) (d:=Ze) rfl<|kb (b:=Ze) (d:=Ze) rfl<|kb (b:=Ze) (d:=Ze) rfl<|kb (b:=Ze) (d:=Ze) rfl<|m0 (b:=Ze) (d:=Ze) rfl<|kb (b:=Ze) (d:=Ze) rfl<|kb (b:=Ze) (d:=Ze) rfl<|kb (b:=Ze) (d:=Ze) rfl<|kb (b:=Ze) (d:=Ze) rfl<|kb (b:=Ze) (d:=Ze) rfl z) ?_;subst hM;refine Jp z kx ?_;refine Di (usS s (Za s (Zb (i+2)) (Zb (nmeS s (i+2)))) (usE s (v0+1)) (l++[Za s (Zb (v0+1)) (Zb (usE s (v0+1)))])) z kx ?_ kx ?_
       ·refine Vaj (S':=usS2 s (Za s (Zb (i+2)) (Zb (nmeS s (i+2)))) (v0+1) (usE s (v0+1)) l) (WK kx) ?_;exact Val (c':=.region 15 (Vaa 15 Yl) Zs) kx (us15 s (Za s (Zb (i+2)) (Zb (nmeS s (i+2)))) (v0+1) (usE s (v0+1)) l kv hv hv2 kv)
       exact AG (m:=n0) ⟨usE s (v0+1),l++[Za s (Zb (v0+1)) (Zb (usE s (v0+1)))],kv,kv,by simp;omega,hM0,kv,rfl,rfl⟩ (WK kx) kx (Zv _)
      | true=>
       have q0':=Zo q0;have hib2:=ib s v ⟨kv,kv⟩;cases q1:(Z2 s v !=124)with
       |false=>
        have hM:v=usE s (v0+1):=by unfold useC at hM;rw[q0,q1]at hM;exact hM
        refine gO (o9 q0<|m0 q0<|m0 q0<|kp hib2<|kb q0<|m0 q0<|m0 q1<|kb q1<|kb q1<|kb q1<|kb q1<|m0 (b:=Ze) (d:=Ze) rfl<|kb (b:=Ze) (d:=Ze) rfl<|kb (b:=Ze) (d:=Ze) rfl<|kb (b:=Ze) (d:=Ze) rfl<|kb (b:=Ze) (d:=Ze) rfl<|m0 (b:=Ze) (d:=Ze) rfl<|kb (b:=Ze) (d:=Ze) rfl<|kb (b:=Ze) (d:=Ze) rfl<|kb (b:=Ze) (d:=Ze) rfl<|kb (b:=Ze) (d:=Ze) rfl<|kb (b:=Ze) (d:=Ze) rfl z) ?_;subst hM;refine Jp z kx ?_;refine Di (usS s (Za s (Zb (i+2)) (Zb (nmeS s (i+2)))) (usE s (v0+1)) (l++[Za s (Zb (v0+1)) (Zb (usE s (v0+1)))])) z kx ?_ kx ?_
        ·refine Vaj (S':=usS2 s (Za s (Zb (i+2)) (Zb (nmeS s (i+2)))) (v0+1) (usE s (v0+1)) l) (WK kx) ?_;exact Val (c':=.region 15 (Vaa 15 Yl) Zs) kx (us15 s (Za s (Zb (i+2)) (Zb (nmeS s (i+2)))) (v0+1) (usE s (v0+1)) l kv hv hv2 kv)
        exact AG (m:=n0) ⟨usE s (v0+1),l++[Za s (Zb (v0+1)) (Zb (usE s (v0+1)))],kv,kv,by simp;omega,hM0,kv,rfl,rfl⟩ (WK kx) kx (Zv _)
       | true=>
        cases q2:(Z2 s v !=123)with
        |false=>
         have hM:v=usE s (v0+1):=by unfold useC at hM;rw[q0,q1,q2]at hM;exact hM
         refine gO (o9 q0<|m0 q0<|m0 q0<|kp hib2<|kb q0<|m0 q0<|m0 q1<|m0 q1<|m0 q1<|kp hib2<|kb q1<|m0 q1<|m0 q2<|kb q2<|kb q2<|kb q2<|kb q2<|m0 (b:=Ze) (d:=Ze) rfl<|kb (b:=Ze) (d:=Ze) rfl<|kb (b:=Ze) (d:=Ze) rfl<|kb (b:=Ze) (d:=Ze) rfl<|kb (b:=Ze) (d:=Ze) rfl<|kb (b:=Ze) (d:=Ze) rfl z) ?_;subst hM;refine Jp z kx ?_;refine Di (usS s (Za s (Zb (i+2)) (Zb (nmeS s (i+2)))) (usE s (v0+1)) (l++[Za s (Zb (v0+1)) (Zb (usE s (v0+1)))])) z kx ?_ kx ?_
         ·refine Vaj (S':=usS2 s (Za s (Zb (i+2)) (Zb (nmeS s (i+2)))) (v0+1) (usE s (v0+1)) l) (WK kx) ?_;exact Val (c':=.region 15 (Vaa 15 Yl) Zs) kx (us15 s (Za s (Zb (i+2)) (Zb (nmeS s (i+2)))) (v0+1) (usE s (v0+1)) l kv hv hv2 kv)
         exact AG (m:=n0) ⟨usE s (v0+1),l++[Za s (Zb (v0+1)) (Zb (usE s (v0+1)))],kv,kv,by simp;omega,hM0,kv,rfl,rfl⟩ (WK kx) kx (Zv _)
        | true=>
         cases q3:(Z2 s v !=125)with
         |false=>
          have hM:v=usE s (v0+1):=by unfold useC at hM;rw[q0,q1,q2,q3]at hM;exact hM
          refine gO (o9 q0<|m0 q0<|m0 q0<|kp hib2<|kb q0<|m0 q0<|m0 q1<|m0 q1<|m0 q1<|kp hib2<|kb q1<|m0 q1<|m0 q2<|m0 q2<|m0 q2<|kp hib2<|kb q2<|m0 q2<|m0 q3<|kb q3<|kb q3<|kb q3<|kb q3<|kb (b:=Ze) (d:=Ze) rfl z) ?_;subst hM;refine Jp z kx ?_;refine Di (usS s (Za s (Zb (i+2)) (Zb (nmeS s (i+2)))) (usE s (v0+1)) (l++[Za s (Zb (v0+1)) (Zb (usE s (v0+1)))])) z kx ?_ kx ?_
          ·refine Vaj (S':=usS2 s (Za s (Zb (i+2)) (Zb (nmeS s (i+2)))) (v0+1) (usE s (v0+1)) l) (WK kx) ?_;exact Val (c':=.region 15 (Vaa 15 Yl) Zs) kx (us15 s (Za s (Zb (i+2)) (Zb (nmeS s (i+2)))) (v0+1) (usE s (v0+1)) l kv hv hv2 kv)
          exact AG (m:=n0) ⟨usE s (v0+1),l++[Za s (Zb (v0+1)) (Zb (usE s (v0+1)))],kv,kv,by simp;omega,hM0,kv,rfl,rfl⟩ (WK kx) kx (Zv _)
         | true=>
          cases q4:(Z2 s v !=10)with
          |false=>
           have hM:v=usE s (v0+1):=by unfold useC at hM;rw[q0,q1,q2,q3,q4]at hM;exact hM
           refine gO (o9 q0<|m0 q0<|m0 q0<|kp hib2<|kb q0<|m0 q0<|m0 q1<|m0 q1<|m0 q1<|kp hib2<|kb q1<|m0 q1<|m0 q2<|m0 q2<|m0 q2<|kp hib2<|kb q2<|m0 q2<|m0 q3<|m0 q3<|m0 q3<|kp hib2<|kb q3<|m0 q3<|kb q4 z) ?_;subst hM;refine Jp z kx ?_;refine Di (usS s (Za s (Zb (i+2)) (Zb (nmeS s (i+2)))) (usE s (v0+1)) (l++[Za s (Zb (v0+1)) (Zb (usE s (v0+1)))])) z kx ?_ kx ?_
           ·refine Vaj (S':=usS2 s (Za s (Zb (i+2)) (Zb (nmeS s (i+2)))) (v0+1) (usE s (v0+1)) l) (WK kx) ?_;exact Val (c':=.region 15 (Vaa 15 Yl) Zs) kx (us15 s (Za s (Zb (i+2)) (Zb (nmeS s (i+2)))) (v0+1) (usE s (v0+1)) l kv hv hv2 kv)
           exact AG (m:=n0) ⟨usE s (v0+1),l++[Za s (Zb (v0+1)) (Zb (usE s (v0+1)))],kv,kv,by simp;omega,hM0,kv,rfl,rfl⟩ (WK kx) kx (Zv _)
          |true=>
           have hM:Vmm s n1 (v+1)=usE s (v0+1):=by unfold useC at hM;rw[q0,q1,q2,q3,q4]at hM;exact hM
           have w4:=wrE (v+1) (v+1) kv;refine gO (o9 q0<|m0 q0<|m0 q0<|kp hib2<|kb q0<|m0 q0<|m0 q1<|m0 q1<|m0 q1<|kp hib2<|kb q1<|m0 q1<|m0 q2<|m0 q2<|m0 q2<|kp hib2<|kb q2<|m0 q2<|m0 q3<|m0 q3<|m0 q3<|kp hib2<|kb q3<|m0 q3<|kb q4<|m6 w4 m5) ?_;exact AG (m:=n1) ⟨v+1,kv,kv,hM,kv,rfl,rfl⟩ (WK kx) kx (Zv _)
end
section
open Go Go.Eng Go.RowKit Go.Shelf
attribute [local go_sem] Xt
def Vm5{W:Zw}{B:E}{t:Jg}{v v':Yb}(h:Boxed W B t v):Boxed (W.setCell ⟨B,0,Zp⟩ v') B t v':=h.set v'
def own_and3{β:Type}{B:E}{I:β->Zw->Prop}{P:β->Prop}(h:Ja B I):Ja B (λs W=>I s W/\P s):=λs W W' row hs hg hr=>⟨h s W W' row hs.1 hg hr,hs.2⟩
def inf_cit:(Tryz.prog.info? 77).map (λi=>(i.zero,i.size,i.bytes))=Zq (Zq (.agg #[.string ⟨#[]⟩,.string ⟨#[]⟩,.string ⟨#[]⟩,.bool Ze]),4,56):=kx
def row_sl{W:Zw}{b e sz n:E}{v:Yb}{xs:H Yb}(h:W.ownsRow b e sz v n xs):∃ ao k c,v=.slice ao k c:=by
 rcases h.2 with⟨rfl,_⟩|⟨g,cap,cur,rfl,_⟩ <;>exact⟨_,_,_,rfl⟩
def IsC(x:Zc)(c:Ig):Prop:=(citF x).1=c
def Vi8(W:Zw)(v:J9 Yb)(t:Jg)(v2:J9 Yb)(t2:Jg)(u:Yb)(j:E)(h:v2[j]? =Zq u):((W.alloc (.cells v t)).alloc (.cells v2 t2)).cell? ((⟨(W.alloc (.cells v t)).heap.size,0,Zp⟩:Addr).add j)=Zq u:=by
 have h1:=Ya (W.alloc (.cells v t)) (.cells v2 t2);rw[Vbd];simp only[Z7,h1,J3];exact h
def Vh6{V:Zw}{B C:E}{v:Yb}(h:C≠B):(V.setCell ⟨B,0,Zp⟩ v).heap[C]? =V.heap[C]? :=by
 simp[Qg,Xz,Ne.symm h]
def Vk4{W W':Zw}{b b' e sz n:E}{v:Yb}{xs:H Yb}(h:W.ownsRow b e sz v n xs)(hb:b'<=b)(hh:∀ g cur m,b<=g->W.heap[g]? =Zq (.cells cur e m)->W'.heap[g]? =W.heap[g]?):W'.ownsRow b' e sz v n xs:=by
 refine⟨h.1,?_⟩;rcases h.2 with hn|⟨g,cap,cur,rfl,hg,hc,rest⟩
 ·exact .inl hn
 ·exact .inr ⟨g,cap,cur,rfl,kv,(hh g cur _ hg hc).trans hc,rest⟩
def cts_calls(s:Zc)(hs:s.size<=1073741824)(h1:ctnG s CTN=Ze)(w:Zw):
    I0 Xb 1 Zg 189 #[.string s] w λe w'=>Xp w.heap.size w w'/\(((∀x∈prt s,(citF x).2=Zs)/\∃ v,e=.returned (.tuple #[v,.bool Zs])/\w'.ownsRow w.heap.size 77 4 v (prt s).length (cutC (prt s)))\/
      ((∃x∈prt s,(citF x).2=Ze)/\e=.returned (.tuple #[.slice Zp 0 0,.bool Ze]))):=by
  refine callsIn_of_wp_marks I8 rfl Zm ?_ rfl;simp only[Tryz.ntmps189,Y8,Yj,Y0,Xr,Xq,Yw,Yv,Y9,Y2,Ye,Z4]
  gi_wp2
  refine⟨Zm,((Xw (n:=0)).2 (ctn_in s hs h1 _)).mono ?_⟩;rintro e w1 ⟨rfl,hb1⟩
  gi_wp2
  refine⟨Zm,(sps_in s _).mono ?_⟩;rintro e w' ⟨rfl,rfl⟩;unfold sfn pt
  gi_wp2
  obtain⟨A,hA⟩:∃ A,A=w1.alloc (Iz #[Qh Zp 0 0] 40):=⟨_,rfl⟩
  have zA:A.heap.size=w1.heap.size+1:=by rw[hA];simp
  obtain⟨c1,c2,c3,z3,bA⟩:=sw3_cells s A;rw[zA]at c1 c2 c3 z3;have z1:w.heap.size+2<=w1.heap.size:=by have:=hb1.size;simpa using this
  have q0:w1.heap[w.heap.size]? =Zq (oV (.slice Zp 0 0)):=(hb1.block _ (by simp;omega)).trans ((Z8 _ _ _ ku).trans (Ya w _))
  have q1:w1.heap[w.heap.size+1]? =Zq oF:=(hb1.block _ ku).trans (by
    have:=Ya (w.alloc (Iz #[Qh Zp 0 0] 40)) (Iz #[Js Ze] 4)
    rwa[Xd]at this)
  have q2:A.heap[w1.heap.size]? =Zq (oV (.slice Zp 0 0)):=by rw[hA];exact Ya w1 _
  have b1:Xp w.heap.size w w1:=(((Jz _ w).alloc (Zt _) _).alloc ku _).trans (hb1.mono (by simp;omega));have bAA:Xp w.heap.size w A:=by rw[hA];exact b1.alloc kv _
  have q0':A.heap[w.heap.size]? =Zq (oV (.slice Zp 0 0)):=by rw[hA];exact(Z8 _ _ _ kv).trans q0
  have q1':A.heap[w.heap.size+1]? =Zq oF:=by rw[hA];exact(Z8 _ _ _ kv).trans q1
  rw[<-hA];have b3:Xp w.heap.size w (sw3 s A):=bAA.trans (bA.mono kv);have r0:(sw3 s A).heap[w.heap.size]? =Zq (oV (.slice Zp 0 0)):=(bA.block _ kv).trans q0';have r1:(sw3 s A).heap[w.heap.size+1]? =Zq oF:=(bA.block _ kv).trans q1';have r2:(sw3 s A).heap[w1.heap.size]? =Zq (oV (.slice Zp 0 0)):=(bA.block _ kv).trans q2;obtain⟨W0,hW0⟩:∃ W0,W0=sw3 s A:=⟨_,rfl⟩
  rw[<-hW0]at c1 c2 c3 z3 b3 r0 r1 r2 ⊢;have hseq:=spw_in s (w1.heap.size+1+1) (w1.heap.size+1) (w1.heap.size+1+2) W0 kv kv kv kv kv c2 c1 c3 hs;clear hW0 bA bAA q0' q1' q2 hA zA;refine rngW (gf:=301) (lb:=#[pt (w1.heap.size+1+1) 0,pt (w1.heap.size+1) 0,pt (w1.heap.size+1+2) 0]) (w0:=W0) rfl (enters_of Tryz.func301 kx rfl) hseq (Jz _ _) kv
    (λ{A B C} h k=>⟨Iy k.1 h.1,Iy k.2.1 h.2.1,Iy k.2.2 h.2.2⟩) (λW l o' hl=>⟨Zy kv,Zy kv,Zy kv⟩)
    (λpre W=>(((W.heap[w.heap.size]? =Zq (oV (.slice Zp 0 0))/\W.heap[w.heap.size+1]? =Zq oF)/\OwnC (w1.heap.size+4) w1.heap.size pre W)/\Xp w.heap.size w W)/\∀ x∈pre,(citF x).2=Zs)
    (λc pre W=>((W.heap[w.heap.size]? =Zq (oV (.slice Zp 0 0))/\W.heap[w.heap.size+1]? =Zq oF)/\Xp w.heap.size w W)/\(c=.ret/\∃ x∈pre,(citF x).2=Ze))
    (own_and3 ((((Vl6 _ _ _ rfl).and (Vl6 _ _ _ rfl)).and (ownC_own _ _ _)).and (J0 (Zt _) kv)))
    (λc=>own_and3 (((Vl6 _ _ _ rfl).and (Vl6 _ _ _ rfl)).and (J0 (Zt _) kv)))
    ?stab ⟨⟨⟨⟨r0,r1⟩,⟨_,r2,World.ownsRow_nil _ _ _ _,kv⟩⟩,b3⟩,ku⟩
    (λx=>{tmps:=#[.string s,Qo,pt w.heap.size 0,pt (w.heap.size+1) 0,pt w1.heap.size 0,.string x,Qo,Qo,.string s,.bool Ze,.string s,
          .func (.func 301) #[] #[pt (w1.heap.size+1+1) 0,pt (w1.heap.size+1) 0,pt (w1.heap.size+1+2) 0],
          .string x,Qo,Qo,Qo,Qo,Qo,Qo,Qo,Qo,Qo,Qo,Qo,Qo],defers:=[]}) ?assign ?body ?done ?stop
  case stab=>
    rintro pre A r r' ⟨⟨⟨⟨p0,p1⟩,p2⟩,p3⟩,p4⟩ hr;exact⟨⟨⟨⟨(Vcy kv).trans p0,(Vcy kv).trans p1⟩,ownC_set p2 hr kv kv⟩,p3.setCell (p:=⟨w1.heap.size+1,0,Zp⟩) (by simp;omega) _⟩,p4⟩
  case assign=>
    intro l x W K hK
    gi_wp2
    exact hK
  case body=>
    rintro l pre x W ⟨⟨⟨⟨p0,p1⟩,⟨v,p2,p5,p6⟩⟩,hbl⟩,hall⟩ ⟨qs,hq⟩;have hxs:x.size<=1073741824:=Yh (prt_sz s x (by rw[<-hq];simp)) hs;have hlen:pre.length<=1073741824:=by
      have h1:=prt_len s;rw[<-hq]at h1;simp at h1;omega
    obtain⟨ao,kk,cc,rfl⟩:=row_sl p5;unfold pt
    gi_wp2
    refine⟨Zm,rfl,(CallsIn.inRound l ((Xw (n:=0)).2 (cit_in x hxs W))).mono ?_⟩;rintro e W2 ⟨rfl,hb2⟩;unfold citV;have z2:w1.heap.size<W.heap.size:=(Zr.1 p2).1;have z2':W.heap.size<=W2.heap.size:=hb2.size;have p0':W2.heap[w.heap.size]? =Zq (oV (.slice Zp 0 0)):=(hb2.block _ kv).trans p0;have p1':W2.heap[w.heap.size+1]? =Zq oF:=(hb2.block _ kv).trans p1;have p2':W2.heap[w1.heap.size]? =Zq (oV (.slice ao kk cc)):=(hb2.block _ z2).trans p2;have p5':W2.ownsRow (w1.heap.size+4) 77 4 (.slice ao kk cc) pre.length (cutC pre):=Vk4 p5 (Zt _) (λg cur m hg hc=>hb2.block _ (Zr.1 hc).1);obtain⟨c,hc⟩:∃ c,IsC x c:=⟨_,rfl⟩
    rw[show(citF x).1=c from hc];obtain⟨T,hT⟩:∃ T,T=W2.alloc (Iz #[.string c.fKey,.string c.fPrefix,.string c.fSuffix,.bool c.fBare] 77):=⟨_,rfl⟩
    have zT:T.heap.size=W2.heap.size+1:=by rw[hT];simp
    have tb:∀ k,k<W2.heap.size->T.heap[k]? =W2.heap[k]? :=λk hk=>by rw[hT];exact Z8 _ _ _ hk
    have p0a:T.heap[w.heap.size]? =Zq (oV (.slice Zp 0 0)):=(tb _ kv).trans p0';have p1a:T.heap[w.heap.size+1]? =Zq oF:=(tb _ kv).trans p1';have p2a:T.heap[w1.heap.size]? =Zq (oV (.slice ao kk cc)):=(tb _ kv).trans p2';cases hok:(citF x).2 with
    | false=>
      have e0:T.cell? ⟨w.heap.size,0,Zp⟩=Zq (.slice Zp 0 0)/\T.frozen? ⟨w.heap.size,0,Zp⟩=false:=by simp only[Z7,Xi,p0a,oV];exact⟨rfl,rfl⟩
      have p1b:(T.setCell ⟨w.heap.size,0,Zp⟩ (.slice Zp 0 0)).heap[w.heap.size+1]? =Zq oF:=(Vh6 kv).trans p1a;have e1:(T.setCell ⟨w.heap.size,0,Zp⟩ (.slice Zp 0 0)).cell? ⟨w.heap.size+1,0,Zp⟩=Zq (.bool Ze)/\(T.setCell ⟨w.heap.size,0,Zp⟩ (.slice Zp 0 0)).frozen? ⟨w.heap.size+1,0,Zp⟩=false:=by simp only[Z7,Xi,p1b,oF];exact⟨rfl,rfl⟩
      obtain⟨e0a,e0b⟩:=e0;obtain⟨e1a,e1b⟩:=e1;subst hT;clear hseq
      gi_wp2
      have k2:Qy W W2:=⟨hb2.size,λk o hk _=>(hb2.block k (Zr.1 hk).1).trans hk⟩
      refine⟨((k2.trans (Qx _ _)).trans (Qn _ _ _)).trans (Qn _ _ _),⟨⟨?_,?_⟩,?_⟩,rfl,x,ku,hok⟩
      · refine(Vh6 kv).trans ?_;exact Vm5 (v:=.slice Zp 0 0) (v':=.slice Zp 0 0) p0a
      · exact Vm5 (v:=.bool Ze) (v':=.bool Ze) p1b
      · exact(((hbl.trans (hb2.mono kv)).alloc kv _).setCell (p:=⟨w.heap.size,0,Zp⟩) (Zt _) _).setCell (p:=⟨w.heap.size+1,0,Zp⟩) ku _
    | true=>
      have eC:T.cell? ⟨w1.heap.size,0,Zp⟩=Zq (.slice ao kk cc)/\T.frozen? ⟨w1.heap.size,0,Zp⟩=false:=by simp only[Z7,Xi,p2a,oV];exact⟨rfl,rfl⟩
      obtain⟨eCa,eCb⟩:=eC;have p5a:T.ownsRow (w1.heap.size+4) 77 4 (.slice ao kk cc) pre.length (cutC pre):=Vk4 p5' (Zt _) (λg cur m hg hc=>tb _ (Zr.1 hc).1);obtain⟨i0,hi,hz0,hz1,hz2⟩:=info_parts inf_cit;subst hT;clear hseq
      gi_wp2_with (first
        |(gi_at_builtin;refine wpListIn_append_own _ rfl _ _ 40 rfl (w1.heap.size+4) 77 i0 (.agg #[.string ⟨#[]⟩,.string ⟨#[]⟩,.string ⟨#[]⟩,.bool Ze]) 4 56 Tryz.underlying40 hi hz0 hz1 hz2 rfl gj _ _ _ rfl (p5a.alloc _) ⟨(W2.alloc (Iz #[.string c.fKey,.string c.fPrefix,.string c.fSuffix,.bool c.fBare] 77)).heap.size,0,Zp⟩ 1 1 (citL c) ?c0 rfl ?c1 ?c2 ?c3 ?c4 ?c5 ?_)
        |gi_in)
      case c0=>
        show Qh (Zq ⟨W2.heap.size+1,0,Zp⟩) 1 1=_;simp
      case c1=>
        intro j u hj
        match j,hj with
        |0,hj=>simp only[citL,Zz,Z1]at hj;subst hj;exact Vi8 _ _ _ _ _ _ 0 rfl
        |1,hj=>simp only[citL,Zz,Z3,Z1]at hj;subst hj;exact Vi8 _ _ _ _ _ _ 1 rfl
        |2,hj=>simp only[citL,Zz,Z3,Z1]at hj;subst hj;exact Vi8 _ _ _ _ _ _ 2 rfl
        |3,hj=>simp only[citL,Zz,Z3,Z1]at hj;subst hj;exact Vi8 _ _ _ _ _ _ 3 rfl
        |j+4,hj=>simp[citL]at hj
      case c2=>intro u hu;simp only[citL,Zl,Zk,Z0]at hu;rcases hu with rfl|rfl|rfl|rfl <;>rfl
      case c3=>unfold maxLen;omega
      case c4=>omega
      case c5=>simp;omega
      intro v' w' hown' hgrow _;obtain⟨ao',kk',cc',rfl⟩:=row_sl hown';have hlow:∀ k,k<w1.heap.size+4->k<W2.heap.size->w'.heap[k]? =W2.heap[k]? :=by
        intro k hk1 hk2;have h0:=hgrow.block k (by simp;omega) (λe=>by have:=p5'.lt k e.symm;omega);rw[h0,Z8 _ _ _ (by simp;omega),Z8 _ _ _ hk2]
      have kW:Qy W w':=by
        have k2:Qy W W2:=⟨hb2.size,λk o hk _=>(hb2.block k (Zr.1 hk).1).trans hk⟩
        refine(k2.trans ((Qx _ _).trans (Qx _ _))).trans ⟨hgrow.size,λk o hk ho=>(hgrow.block k (Zr.1 hk).1 (λe=>?_)).trans hk⟩;rcases p5'.2 with⟨e2,_⟩|⟨g,cap,cur,e2,_,hc2,_⟩
        · rw[e2]at e;simp[Jr]at e
        · rw[e2]at e;simp only[Jr,Z1]at e;subst e;have hlt:=(Zr.1 hc2).1;rw[Z8 _ _ _ (by simp;omega),Z8 _ _ _ hlt,hc2]at hk;cases hk;cases ho
      have p2w:w'.heap[w1.heap.size]? =Zq (oV (.slice ao kk cc)):=(hlow _ kv kv).trans p2';have eD:w'.cell? ⟨w1.heap.size,0,Zp⟩=Zq (.slice ao kk cc)/\w'.frozen? ⟨w1.heap.size,0,Zp⟩=false:=by simp only[Z7,Xi,p2w,oV];exact⟨rfl,rfl⟩
      obtain⟨eDa,eDb⟩:=eD;have hbw:Xp w.heap.size w w':=((hbl.trans (hb2.mono kv)).alloc kv _ |>.alloc (by simp;omega) _).grown hgrow (by simp;omega) (λk e=>by have:=p5'.lt k e;omega);have hgrow2:=hgrow.size;clear eCa eCb hgrow
      gi_wp2
      have hfar:∀ k,k<w1.heap.size+4->k≠w1.heap.size->(w'.setCell ⟨w1.heap.size,0,Zp⟩ (.slice ao' kk' cc')).heap[k]? =W.heap[k]? :=λk hk hne=>(Vh6 hne).trans ((hlow k hk kv).trans (hb2.block k kv))
      refine⟨kW.trans (Qn _ _ _),⟨hfar _ kv kv,hfar _ kv kv,hfar _ kv kv⟩,⟨⟨⟨⟨(hfar _ kv kv).trans p0,(hfar _ kv kv).trans p1⟩,⟨_,Vm5 (v:=.slice ao kk cc) (v':=.slice ao' kk' cc') p2w,?_,?_⟩⟩,hbw.setCell (p:=⟨w1.heap.size,0,Zp⟩) (by simp;omega) _⟩,?_⟩⟩
      · have e:cutC (pre++[x])=cutC pre++citL c:=by
          rw[<-(show(citF x).1=c from hc)];simp[cutC,cuts]
        rw[e,Y6];exact Vk4 hown' (Zt _) (λg cur m hg hc=>Vh6 kv)
      · have:=hgrow2;simp only[Qg,Array.size_modify];simp only[Xd]at this;omega
      · intro y hy;simp only[Yz,Zl,Zk,Z0]at hy;rcases hy with hy|rfl
        · exact hall y hy
        · exact hok
  case done=>
    rintro D W hD ⟨⟨⟨⟨p0,p1⟩,⟨v,p2,p5,p6⟩⟩,hbl⟩,hall⟩ hDk;obtain⟨ao,kk,cc,rfl⟩:=row_sl p5;have e2:W.cell? ⟨w1.heap.size,0,Zp⟩=Zq (.slice ao kk cc):=by simp only[Z7,p2,oV];rfl
    have e0:W.cell? ⟨w.heap.size,0,Zp⟩=Zq (.slice Zp 0 0)/\W.frozen? ⟨w.heap.size,0,Zp⟩=false:=by simp only[Z7,Xi,p0,oV];exact⟨rfl,rfl⟩
    have p1b:(W.setCell ⟨w.heap.size,0,Zp⟩ (.slice ao kk cc)).heap[w.heap.size+1]? =Zq oF:=(Below.heap_setCell _ _ _ _ ku).trans p1;have e1:(W.setCell ⟨w.heap.size,0,Zp⟩ (.slice ao kk cc)).cell? ⟨w.heap.size+1,0,Zp⟩=Zq (.bool Ze)/\(W.setCell ⟨w.heap.size,0,Zp⟩ (.slice ao kk cc)).frozen? ⟨w.heap.size+1,0,Zp⟩=false:=by simp only[Z7,Xi,p1b,oF];exact⟨rfl,rfl⟩
    obtain⟨e0a,e0b⟩:=e0;obtain⟨e1a,e1b⟩:=e1;clear hseq;simp only[Exit.inBlock,Exit.then]
    gi_wp2
    have hne0:w.heap.size≠D:=kv;have hne1:w.heap.size+1≠D:=kv;obtain⟨W2,hW2⟩:∃ W2,W2=(W.setCell ⟨w.heap.size,0,Zp⟩ (.slice ao kk cc)).setCell ⟨w.heap.size+1,0,Zp⟩ (.bool Zs):=⟨_,rfl⟩
    rw[<-hW2];have ho:∀ k,k≠w.heap.size->k≠w.heap.size+1->W2.heap[k]? =W.heap[k]? :=λk k1 k2=>by rw[hW2,Vh6 k2,Vh6 k1]
    have hDk':W2.heap[D]? =Zq (.deferred (Zq [])):=(ho D (Ne.symm hne0) (Ne.symm hne1)).trans hDk;have g0:W2.heap[w.heap.size]? =Zq (oV (.slice ao kk cc)):=by
      rw[hW2,Vh6 kv];exact Vm5 (v:=.slice Zp 0 0) (v':=.slice ao kk cc) p0
    have g1:W2.heap[w.heap.size+1]? =Zq (.cells #[Js Zs] 4 (0,0)):=by
      rw[hW2];exact Vm5 (v:=.bool Ze) (v':=.bool Zs) p1b
    have f0:(W2.putObj D (.deferred Zp)).cell? ⟨w.heap.size,0,Zp⟩=Zq (.slice ao kk cc):=by
      have:(W2.putObj D (.deferred Zp)).heap[w.heap.size]? =Zq (oV (.slice ao kk cc)):=(Zy hne0).trans g0;simp only[Z7,this,oV];rfl
    have f1:(W2.putObj D (.deferred Zp)).cell? ⟨w.heap.size+1,0,Zp⟩=Zq (.bool Zs):=by
      have:=(Zy (o:=.deferred Zp) hne1).trans g1;simp only[Z7,this];rfl
    have l0:=Vb4 (P:=Zg) (t:=40) kx f0;have l1:=Vb4 (P:=Zg) (t:=4) kx f1;have hb2:Xp w.heap.size w W2:=by rw[hW2];exact(hbl.setCell (p:=⟨w.heap.size,0,Zp⟩) (Zt _) _).setCell (p:=⟨w.heap.size+1,0,Zp⟩) ku _
    refine⟨ku,.inl ⟨D,_,rfl,Je hDk',.tuple #[.slice ao kk cc,.bool Zs],?_,?_,.inl ⟨hall,_,rfl,?_⟩⟩⟩
    · simp only[results,show Tryz.f189.results=#[.cell 2 40,.cell 3 4]from rfl];simp[Q8,asAddr,pt,l0,l1]
    · exact hb2.grown (Jm W2 D _) hb2.size (λk e=>by cases e;omega)
    · refine Vk4 p5 kv (λg cur m hg hc=>?_);have hgD:g≠D:=λe=>by rw[e,hDk]at hc;cases hc
      rw[Zy hgD,ho g kv kv]
  case stop=>
    rintro D c pre W hD ⟨qs,hq⟩ ⟨⟨⟨p0,p1⟩,hbl⟩,rfl,x,hx,hxf⟩ hDk;refine wpIn_ret ?_;have hne0:w.heap.size≠D:=kv;have hne1:w.heap.size+1≠D:=kv;have f0:(W.putObj D (.deferred Zp)).cell? ⟨w.heap.size,0,Zp⟩=Zq (.slice Zp 0 0):=by
      have:(W.putObj D (.deferred Zp)).heap[w.heap.size]? =Zq (oV (.slice Zp 0 0)):=(Zy hne0).trans p0;simp only[Z7,this,oV];rfl
    have f1:(W.putObj D (.deferred Zp)).cell? ⟨w.heap.size+1,0,Zp⟩=Zq (.bool Ze):=by
      have:(W.putObj D (.deferred Zp)).heap[w.heap.size+1]? =Zq oF:=(Zy hne1).trans p1;simp only[Z7,this,oF];rfl
    have l0:=Vb4 (P:=Zg) (t:=40) kx f0;have l1:=Vb4 (P:=Zg) (t:=4) kx f1;refine⟨ku,.inl ⟨D,_,rfl,Je hDk,.tuple #[.slice Zp 0 0,.bool Ze],?_,?_,.inr ⟨⟨x,by rw[<-hq];exact Yt _ hx,hxf⟩,rfl⟩⟩⟩
    · simp only[results,show Tryz.f189.results=#[.cell 2 40,.cell 3 4]from rfl];simp[Q8,asAddr,pt,l0,l1]
    · exact hbl.grown (Jm W D _) hbl.size (λk e=>by cases e;omega)
end
section
open Go Go.Eng Go.RowKit Go.Shelf
def step_belowU{G:Gh}{w w':Zw}(hw:Wf G w)(h:Xp w.heap.size w w')(g n:E)(hg:w.heap.size<=g)(hg2:g<w'.heap.size):
  Step G w {G with U:=λx=>if x=g then n else G.U x} w'/\Wf {G with U:=λx=>if x=g then n else G.U x} w'/\∀ κ,Keep G w {G with U:=λx=>if x=g then n else G.U x} w' κ:=by
 obtain⟨s1,s2,s3⟩:=Vc9 hw h;have hz:G.U g=0:=hw.zero g hg
 have hk:∀ κ,Keep G w {G with U:=λx=>if x=g then n else G.U x} w' κ:=λκ=>⟨rfl,λb hb=>⟨h.block b (hw.lt κ b hb),by
  have:=hw.lt κ b hb;simp only
  rw[Xv kv]⟩⟩
 refine⟨⟨⟨λb=>?_,s1.toExt.imm,s1.toExt.size,s1.toExt.os,s1.toExt.tape,s1.toExt.output,λ_ _=>rfl,λ_=>Zt _,λκ _ _=>hk κ⟩,λb hb _=>⟨h.block b hb,?_⟩,λκ b hb=>.inl ⟨κ,hb⟩⟩,⟨s2.inj,s2.lt,λb hb=>?_⟩,hk⟩
 ·simp only
  split
  ·rename_i e;rw[e,hz];exact Ys _
  ·exact Zt _
 ·simp only;rw[Xv kv]
 ·simp only;rw[Xv kv];exact s2.zero b hb
def citR(U:E->E)(w:Zw)(c:Ig):I2 U w (Vap c) (citV c):=by
 refine⟨_,rfl,⟨_,_,rfl,⟨rfl,rfl⟩,_,_,rfl,⟨rfl,rfl⟩,_,_,rfl,⟨rfl,rfl⟩,_,_,rfl,⟨rfl,rfl⟩,rfl⟩,?_⟩;intro x hx;simp only[Zl,Zk,Z0]at hx;rcases hx with rfl|rfl|rfl|rfl <;>rfl
def citRs(U:E->E)(w:Zw):∀(l:H Ig),RepL U w (l.map Vap) (l.map citV)
 |[]=>rfl
 |c::l=>⟨_,_,rfl,citR U w c,citRs U w l⟩
def citVs:∀(l:H Ig),Va3 (l.map citV)=l.flatMap citL
 |[]=>rfl
 |c::l=>by
  have:=citVs l;simp only[Va3,Xa,List.flatMap_cons]at this ⊢;rw[this];rfl
def ctsG(s:Zc):H Ig×Bool:=Zu (ctnG s CTN) ([],Ze) (Zu ((prt s).all (λx=>(citF x).2)) (cuts (prt s),Zs) ([],Ze))
def ctsG_to(s:Zc)(hs:s.size<=1073741824):Va1 Zg 189 [jS s] [] [] (.av (.tup [.sl ((ctsG s).1.map Vap),vB (ctsG s).2])) [] []:=by
 unfold ctsG;cases h:ctnG s CTN with
 |true=>
  have hc:=ctnN_to s hs;refine bG I8 ?_;refine gO (m8 hc<|kb h j6) ?_;exact eN
 | false=>
  simp only[Zi];refine⟨⟨Tryz.f189,I8,kx,kx⟩,λG w us hw hr _ _=>?_⟩;rw[args1 hr];refine(Xw.1 (cts_calls s hs h w)).mono ?_;rintro e w' ⟨hb,⟨hall,v,rfl,hown⟩|⟨⟨x,hx,hxf⟩,rfl⟩⟩
  ·have ha:(prt s).all (λx=>(citF x).2)=true:=Y5.2 hall;rw[ha];simp only[Zj];have hl:(cuts (prt s)).length=(prt s).length:=by simp[cuts]
   rcases hown.2 with⟨rfl,h0⟩|⟨g,cap,cur,rfl,hg,hc,hcap,hml,hsz,htk⟩
   ·obtain⟨s1,s2,s3⟩:=Vc9 hw hb;have hnil:cuts (prt s)=[]:=Q3.1 (by rw[hl];exact h0);rw[hnil];exact⟨_,G,rfl,s1,s2,⟨_,rfl,⟨_,_,rfl,Vfj _ _,_,_,rfl,⟨rfl,rfl⟩,rfl⟩⟩,ku,λi _=>s3 _,λ_ _=>rfl,λκ=>rfl⟩
   ·have hg2:g<w'.heap.size:=(Zr.1 hc).1;obtain⟨s1,s2,s3⟩:=step_belowU hw hb g ((prt s).length*4) hg hg2;have hvc:Va3 ((cuts (prt s)).map citV)=cutC (prt s):=citVs _;refine⟨_,_,rfl,s1,s2,⟨_,rfl,⟨_,_,rfl,⟨Zq ⟨g,0,Zp⟩,cap,(cuts (prt s)).map citV,4,by rw[Zx,hl],citRs _ _ _,?_,λh=>by simp at h,by rw[Zx,hl];exact hcap,λ_ ad h=>by simp at h;subst h;rfl,.inr ⟨g,0,rfl,?_,λj x hx=>?_⟩⟩,_,_,rfl,⟨rfl,rfl⟩,rfl⟩⟩,ku,λi _=>s3 _,λ_ _=>rfl,λκ=>rfl⟩
    ·intro e he;obtain⟨c,_,rfl⟩:=Yk.1 he;rfl
    ·rw[hvc,hown.1];simp
    ·rw[hvc]at hx;have hlt:j<(prt s).length*4:=by rw[<-hown.1];exact(Xo.1 hx).1
     rw[<-htk,Qr,Qa hlt]at hx;refine⟨?_,?_⟩
     ·simp only[Z7,hc,J3];simpa using hx
     ·rw[<-htk]at hvc;have hm:x∈(cuts (prt s)).flatMap citL:=by
       rw[<-citVs,hvc];exact Iv (by rw[Qr,Qa hlt];exact hx)
      obtain⟨c,_,hxc⟩:=List.mem_flatMap.1 hm;simp only[citL,Zl,Zk,Z0]at hxc;rcases hxc with rfl|rfl|rfl|rfl <;>rfl
  ·have ha:(prt s).all (λx=>(citF x).2)=false:=by
    rw[Bool.eq_false_iff];intro ht;have:=Y5.1 ht x hx;rw[hxf]at this;cases this
   rw[ha];simp only[Zi];obtain⟨s1,s2,s3⟩:=Vc9 hw hb;exact⟨_,G,rfl,s1,s2,⟨_,rfl,⟨_,_,rfl,Vfj _ _,_,_,rfl,⟨rfl,rfl⟩,rfl⟩⟩,ku,λi _=>s3 _,λ_ _=>rfl,λκ=>rfl⟩
end
section
open Go Go.Eng
def cteG(s:Zc)(i:F):(Zf×F):=Zu (Zu (Zn ((idxA (Za s (Zb (i+1)) (Zd s)) (⟨#[91,93]⟩):F)<0)) Zs (((Jc s (Zb ((i+1)+(idxA (Za s (Zb (i+1)) (Zd s)) (⟨#[91,93]⟩)))):E):F) !=93)) (Xm 0 (⟨#[]⟩) (⟨#[]⟩) (⟨#[]⟩) (DAttr.mk (⟨#[]⟩) ([]) ([])) ([]) ([]) ([]),0) (Zu (!(ctsG (Za s (Zb (i+1)) (Zb ((i+1)+(idxA (Za s (Zb (i+1)) (Zd s)) (⟨#[91,93]⟩)))))).2) (Xm 0 (⟨#[]⟩) (⟨#[]⟩) (⟨#[]⟩) (DAttr.mk (⟨#[]⟩) ([]) ([])) ([]) ([]) ([]),0) (Xm 13 (⟨#[]⟩) (⟨#[]⟩) (⟨#[]⟩) (DAttr.mk (⟨#[]⟩) ([]) ([])) ([]) ((ctsG (Za s (Zb (i+1)) (Zb ((i+1)+(idxA (Za s (Zb (i+1)) (Zd s)) (⟨#[91,93]⟩)))))).1) ([]),(i+(idxA (Za s (Zb (i+1)) (Zd s)) (⟨#[91,93]⟩)))+2))
def cteG_to(s:Zc)(i:F)(hs:s.size<=1073741824)(h0:0<=i)(h1:i<s.size):Va1 Zg 142 [(jS s),(jI i)] [] [] (.av (.tup [(Vaq ((cteG s i).1)),(vI ((cteG s i).2))])) [] []:=by
 refine BEG (λr:(Zf×F)=>(.av (.tup [(Vaq r.1),(vI r.2)]))) (cteG s i) Tryz.func142 kx ?_;refine UF (cteG.eq_1 ..) ?_;have:=Vai s (Zb (i+1)) (Zd s);have:=Vlj (Za s (Zb (i+1)) (Zd s)) (⟨#[91,93]⟩);refine gO (yq (wrE (i+1) (i+1) kv)<|kp (show 0<=(i+1:F)/\(i+1:F)<=((Zd s:E):F)/\((Zd s:E):F)<=((Zd s:E):F)from(by first|omega|(simp only[Va6,Qp];omega)))<|kc (idxG_to (Za s (Zb (i+1)) (Zd s)) (⟨#[91,93]⟩) ky ky (by first|decide|assumption) (by first|assumption|exact A7.lit gj))<|j8 (Zn ((idxA (Za s (Zb (i+1)) (Zd s)) (⟨#[91,93]⟩):F)<0)) z (dq (λh=>by have j0:=h.2;have j0p:=Zh j0;exact(wrE (i+1) (i+1) kv))<|tn 1<|hn (λh=>by have j0:=h.2;have j0p:=Zh j0;exact(wrE ((i+1)+(idxA (Za s (Zb (i+1)) (Zd s)) (⟨#[91,93]⟩))) ((i+1)+(idxA (Za s (Zb (i+1)) (Zd s)) (⟨#[91,93]⟩))) kv))<|hp (λh=>by have j0:=h.2;have j0p:=Zh j0;exact(ib s ((i+1)+(idxA (Za s (Zb (i+1)) (Zd s)) (⟨#[91,93]⟩))) kv)) m5) z) ?_;refine CS (λh1=>?_) (λh1=>?_)
 ·refine gO (kb h1 i6) ?_;exact EN kx
 ·obtain⟨h1a,h1o⟩:=Va8 h1;have h1ap:=Zh h1a;have h1op:=Va7 h1o;have:=Vai s (Zb (i+1)) (Zb ((i+1)+(idxA (Za s (Zb (i+1)) (Zd s)) (⟨#[91,93]⟩))));refine gO (kb h1<|p8 (wrE (i+1) (i+1) kv)<|m6 (wrE (i+1) (i+1) kv)<|m6 (wrE ((i+1)+(idxA (Za s (Zb (i+1)) (Zd s)) (⟨#[91,93]⟩))) ((i+1)+(idxA (Za s (Zb (i+1)) (Zd s)) (⟨#[91,93]⟩))) kv)<|kp (show 0<=(i+1:F)/\(i+1:F)<=(i+1)+(idxA (Za s (Zb (i+1)) (Zd s)) (⟨#[91,93]⟩))/\(i+1)+(idxA (Za s (Zb (i+1)) (Zd s)) (⟨#[91,93]⟩))<=((Zd s:E):F)from(by first|omega|(simp only[Va6,Qp];omega)))<|kc (ctsG_to (Za s (Zb (i+1)) (Zb ((i+1)+(idxA (Za s (Zb (i+1)) (Zd s)) (⟨#[91,93]⟩))))) ky) lq) ?_;refine CS (λh2=>?_) (λh2=>?_)
  ·have h2n:=nott h2;refine gO (kb h2 i6) ?_;exact EN kx
  ·have h2n:=notf h2;refine gO (kb h2<|yq (wrE (i+(idxA (Za s (Zb (i+1)) (Zd s)) (⟨#[91,93]⟩))) (i+(idxA (Za s (Zb (i+1)) (Zd s)) (⟨#[91,93]⟩))) kv)<|kn (wrE ((i+(idxA (Za s (Zb (i+1)) (Zd s)) (⟨#[91,93]⟩)))+2) ((i+(idxA (Za s (Zb (i+1)) (Zd s)) (⟨#[91,93]⟩)))+2) kv) j6) ?_;exact EN kx
def TB(s:Zc)(r:Zc×F×Qj):Prop:=0<=r.2.1/\r.2.1<=s.size/\(r.1.size:F)<=s.size
def TB0(s:Zc):TB s (⟨#[]⟩,0,Ze):=⟨Ym 0,Yi _,Yi _⟩
def TBe(s:Zc)(a b:E)(j:F)(h0:0<=j)(h1:j<=s.size):TB s (uneS (Za s a b),j,Zs):=by
 refine⟨h0,h1,?_⟩;have h2:=Vkj (Za s a b);rw[Yc]at h2
 show((uneS (Za s a b)).size:F)<=s.size;omega
def Vji(s:Zc)(i:F):∀(n:E)(v:F),0<=v->TB s (angS_L0 s i n v)
 |0,v,_=>⟨Ym 0,Yi _,Yi _⟩
 |n+1,v,h=>by
  rw[angS_L0];refine Va5 (TB s) (λq=>?_) (λ_=>TB0 s);have q:=Zo q;refine Va5 (TB s) (λ_=>Vji s i n _ kv) (λ_=>Va5 (TB s) (λ_=>TBe s _ _ _ kv kv) (λ_=>Va5 (TB s) (λ_=>TB0 s) (λ_=>Vji s i n _ kv)))
def Viy(s:Zc)(i last:F):∀(n:E)(v:F),0<=v->TB s (quoS_L0 s i last n v)
 |0,v,_=>⟨Ym 0,Yi _,Yi _⟩
 |n+1,v,h=>by
  rw[quoS_L0];refine Va5 (TB s) (λq=>?_) (λ_=>TB0 s);have q:=Zo q;refine Va5 (TB s) (λ_=>Viy s i last n _ kv) (λ_=>Va5 (TB s) (λ_=>TBe s _ _ _ kv kv) (λ_=>Va5 (TB s) (λ_=>TB0 s) (λ_=>Viy s i last n _ kv)))
def Vnp(s:Zc)(i:F):∀(n:E)(w v:F),0<=v->v<=s.size->TB s (dstG_L0 s i n w v)
 |0,w,v,_,_=>⟨Ym 0,Yi _,Yi _⟩
 |n+1,w,v,h,h1=>by
  rw[dstG_L0];refine Va5 (TB s) (λq=>?_) (λ_=>Va5 (TB s) (λ_=>TB0 s) (λ_=>TBe s _ _ _ h h1));have q:=Zo q;have hb:=Vjc s v ⟨h,q⟩;refine Va5 (TB s) (λ_=>Va5 (TB s) (λ_=>TB0 s) (λ_=>TBe s _ _ _ h h1)) (λ_=>Va5 (TB s) (λ_=>TB0 s) (λ_=>Vnp s i n _ _ kv kv))
def angS_bd(s:Zc)(i:F)(h:0<=i):TB s (angS s i):=Vji s i _ _ kv
def quoS_bd(s:Zc)(i last:F)(h:0<=i):TB s (quoS s i last):=Viy s i last _ _ kv
def dstG_bd(s:Zc)(i:F)(h:0<=i):TB s (dstG s i):=by
 unfold dstG;refine Va5 (TB s) (λ_=>TB0 s) (λq=>?_);obtain⟨q1,q2⟩:=Va8 q;have q2:=Zh q2;exact Va5 (TB s) (λ_=>angS_bd s i h) (λ_=>Vnp s i _ _ _ h kv)
def titM_bd(s:Zc)(i:F)(h:0<=i):TB s (titM s i):=by
 unfold titM;exact Va5 (TB s) (λ_=>quoS_bd s i _ h) (λ_=>Va5 (TB s) (λ_=>quoS_bd s i _ h) (λ_=>TB0 s))
def tlM(s:Zc)(i:F):(Zc×Zc×Zc×F×Qj):=Zu (Zu (Zn ((i:F)<0)) Zs (Zn ((i:F)>=((Zd s:E):F)))) (⟨#[]⟩,⟨#[]⟩,⟨#[]⟩,0,Ze) (Zu (((Jc s (Zb i):E):F) !=40) (⟨#[]⟩,⟨#[]⟩,(brkM s i).1,(brkM s i).2.1,(brkM s i).2.2) (Zu (Zu (Zn ((skpL s (i+1):F)<((Zd s:E):F))) (((Jc s (Zb (skpL s (i+1))):E):F)==41) Ze) (⟨#[]⟩,⟨#[]⟩,⟨#[]⟩,(skpL s (i+1))+1,Zs) (Zu (!(dstG s (skpL s (i+1))).2.2) (⟨#[]⟩,⟨#[]⟩,⟨#[]⟩,0,Ze) (Zu (Zu (Zu (Zn ((skpL s ((dstG s (skpL s (i+1))).2.1):F)<((Zd s:E):F))) (((Jc s (Zb (skpL s ((dstG s (skpL s (i+1))).2.1))):E):F) !=41) Ze) (Zn ((skpL s ((dstG s (skpL s (i+1))).2.1):F)>(dstG s (skpL s (i+1))).2.1)) Ze) (Zu (!(titM s (skpL s ((dstG s (skpL s (i+1))).2.1))).2.2) (⟨#[]⟩,⟨#[]⟩,⟨#[]⟩,0,Ze) (Zu (Zu (Zn ((skpL s ((titM s (skpL s ((dstG s (skpL s (i+1))).2.1))).2.1):F)>=((Zd s:E):F))) Zs (((Jc s (Zb (skpL s ((titM s (skpL s ((dstG s (skpL s (i+1))).2.1))).2.1))):E):F) !=41)) (⟨#[]⟩,⟨#[]⟩,⟨#[]⟩,0,Ze) ((dstG s (skpL s (i+1))).1,(titM s (skpL s ((dstG s (skpL s (i+1))).2.1))).1,⟨#[]⟩,(skpL s ((titM s (skpL s ((dstG s (skpL s (i+1))).2.1))).2.1))+1,Zs))) (Zu (Zu (Zn ((skpL s ((dstG s (skpL s (i+1))).2.1):F)>=((Zd s:E):F))) Zs (((Jc s (Zb (skpL s ((dstG s (skpL s (i+1))).2.1))):E):F) !=41)) (⟨#[]⟩,⟨#[]⟩,⟨#[]⟩,0,Ze) ((dstG s (skpL s (i+1))).1,⟨#[]⟩,⟨#[]⟩,(skpL s ((dstG s (skpL s (i+1))).2.1))+1,Zs))))))
def tlM_to(s:Zc)(i:F)(hs:s.size<=100000000)(h0:0<=i)(h1:i<=1073741833):Va1 Zg 194 [(jS s),(jI i)] [] [] (.av (.tup [(vS ((tlM s i).1)),(vS ((tlM s i).2.1)),(vS ((tlM s i).2.2.1)),(vI ((tlM s i).2.2.2.1)),(vB ((tlM s i).2.2.2.2))])) [] []:=by
 refine BEG (λr:(Zc×Zc×Zc×F×Qj)=>(.av (.tup [(vS r.1),(vS r.2.1),(vS r.2.2.1),(vI r.2.2.2.1),(vB r.2.2.2.2)]))) (tlM s i) Tryz.func194 kx ?_;refine UF (tlM.eq_1 ..) ?_;refine gO (tn 8<|kj (Zn ((i:F)<0)) z i7 z) ?_;refine CS (λh1=>?_) (λh1=>?_)
 ·refine gO (kb h1 n8) ?_;exact EN kx
 ·obtain⟨h1a,h1o⟩:=Va8 h1;have h1ap:=Zh h1a;have h1op:=Zh h1o;refine gO (kb h1<|p7 (ib s i kv) m5) ?_;refine CSn (λh2p h2=>?_) (λh2p h2=>?_)
  ·refine gO (kb h2<|j7 (brkM_to s i ky ky ky)<|tn 15 z) ?_;exact EN kx
  ·have:=Vit s (i+1) gk;refine gO (kb h2<|p8 (wrE (i+1) (i+1) kv)<|kc (skpL_to s (i+1) ky ky ky)<|tn 6<|kj (Zn ((skpL s (i+1):F)<((Zd s:E):F))) (m9 (λh=>by have j0:=h.2;have j0p:=Zo j0;exact(ib s (skpL s (i+1)) kv)) m5) z z) ?_;refine CS (λh3=>?_) (λh3=>?_)
   ·obtain⟨h3a,h3o⟩:=Va9 h3;have h3ap:=Zo h3a;have h3op:=eq_of_beq h3o;refine gO (kb h3<|m6 (wrE ((skpL s (i+1))+1) ((skpL s (i+1))+1) kv) n8) ?_;exact EN kx
   ·have:=dstG_bd s (skpL s (i+1)) kv;unfold TB at this;refine gO (kb h3<|j7 (dstG_to s (skpL s (i+1)) ky ky ky)<|tn 9 z) ?_;refine CS (λh4=>?_) (λh4=>?_)
    ·have h4n:=nott h4;refine gO (kb h4 n8) ?_;exact EN kx
    ·have h4n:=notf h4;have:=Vit s ((dstG s (skpL s (i+1))).2.1) gk;refine gO (kb h4<|j7 (skpL_to s ((dstG s (skpL s (i+1))).2.1) ky ky ky)<|tn 6<|kj (Zn ((skpL s ((dstG s (skpL s (i+1))).2.1):F)<((Zd s:E):F))) (m9 (λh=>by have j0:=h.2;have j0p:=Zo j0;exact(ib s (skpL s ((dstG s (skpL s (i+1))).2.1)) kv)) m5) z<|m7 (Zu (Zn ((skpL s ((dstG s (skpL s (i+1))).2.1):F)<((Zd s:E):F))) (((Jc s (Zb (skpL s ((dstG s (skpL s (i+1))).2.1))):E):F) !=41) Ze) i6 z z) ?_;refine CS (λh5=>?_) (λh5=>?_)
     ·obtain⟨h5a,h5o⟩:=Va9 h5;obtain⟨h5aa,h5ao⟩:=Va9 h5a;have h5aap:=Zo h5aa;have h5aop:=Q6.1 h5ao;have h5op:=Zo h5o;have:=titM_bd s (skpL s ((dstG s (skpL s (i+1))).2.1)) kv;unfold TB at this;refine gO (kb h5<|j7 (titM_to s (skpL s ((dstG s (skpL s (i+1))).2.1)) ky ky ky)<|tn 9 z) ?_;refine CS (λh6=>?_) (λh6=>?_)
      ·have h6n:=nott h6;refine gO (kb h6 n8) ?_;exact EN kx
      ·have h6n:=notf h6;have:=Vit s ((titM s (skpL s ((dstG s (skpL s (i+1))).2.1))).2.1) gk;refine gO (kb h6<|j7 (skpL_to s ((titM s (skpL s ((dstG s (skpL s (i+1))).2.1))).2.1) ky ky ky)<|tn 6<|kj (Zn ((skpL s ((titM s (skpL s ((dstG s (skpL s (i+1))).2.1))).2.1):F)>=((Zd s:E):F))) z (m9 (λh=>by have j0:=h.2;have j0p:=Zh j0;exact(ib s (skpL s ((titM s (skpL s ((dstG s (skpL s (i+1))).2.1))).2.1)) kv)) m5) z) ?_;refine CS (λh7=>?_) (λh7=>?_)
       ·refine gO (kb h7 n8) ?_;exact EN kx
       ·obtain⟨h7a,h7o⟩:=Va8 h7;have h7ap:=Zh h7a;have h7op:=Va7 h7o;refine gO (kb h7<|t8 (wrE ((skpL s ((titM s (skpL s ((dstG s (skpL s (i+1))).2.1))).2.1))+1) ((skpL s ((titM s (skpL s ((dstG s (skpL s (i+1))).2.1))).2.1))+1) kv) n8) ?_;exact EN kx
     ·refine gO (kb h5<|jq (Zn ((skpL s ((dstG s (skpL s (i+1))).2.1):F)>=((Zd s:E):F))) z (m9 (λh=>by have j0:=h.2;have j0p:=Zh j0;exact(ib s (skpL s ((dstG s (skpL s (i+1))).2.1)) kv)) m5) z) ?_;refine CS (λh8=>?_) (λh8=>?_)
      ·refine gO (kb h8 n8) ?_;exact EN kx
      ·obtain⟨h8a,h8o⟩:=Va8 h8;have h8ap:=Zh h8a;have h8op:=Va7 h8o;refine gO (kb h8<|t8 (wrE ((skpL s ((dstG s (skpL s (i+1))).2.1))+1) ((skpL s ((dstG s (skpL s (i+1))).2.1))+1) kv) n8) ?_;exact EN kx
def Vnb(s:Zc)(i:F)(h0:0<=i)(h1:i<s.size)(hw:1<=wdtI ((Jc s (Zb i):E):F)/\wdtI ((Jc s (Zb i):E):F)<=s.size-i):∀(n:E)(v:F)(k:E),k<=3->4-k<n->1<=(Dc s i n v k).2/\i+(Dc s i n v k).2<=s.size
 |0,v,k,h,h2=>by omega
 |n+1,v,k,h,h2=>by
  rw[Dc];have hb:=wdtI_bd ((Jc s (Zb i):E):F);refine Va5 (λr:F×F=>1<=r.2/\i+r.2<=s.size) (λq=>?_) (λ_=>by simp only;omega);have q:=Zo q;exact Va5 (λr:F×F=>1<=r.2/\i+r.2<=s.size) (λ_=>by simp only;omega) (λ_=>Vnb s i h0 h1 hw n _ (k+1) kv kv)
def Vd2(s:Zc)(i:F)(h0:0<=i)(h1:i<s.size):1<=(nxtN s i).2/\i+(nxtN s i).2<=s.size:=by
 unfold nxtN;have hb:=wdtI_bd ((Jc s (Zb i):E):F);refine Va5 (λr:F×F=>1<=r.2/\i+r.2<=s.size) (λq=>?_) (λ_=>?_)
 ·rcases cond_or2 q with q|q <;>(have:=Zo q;omega)
 refine Va5 (λr:F×F=>1<=r.2/\i+r.2<=s.size) (λ_=>by simp only;omega) (λq=>?_);obtain⟨q1,q2⟩:=Va8 q;have q1:=Ii q1;have q2:=Zh q2;refine Va5 (λr:F×F=>1<=r.2/\i+r.2<=s.size) (λ_=>by simp only;omega) (λ_=>?_);refine Va5 (λr:F×F=>1<=r.2/\i+r.2<=s.size) (λ_=>by simp only;omega) (λ_=>?_);exact Vnb s i h0 h1 kv _ _ 0 kv kv
def nxtN_bdc(s:Zc)(i:F):0<=i/\i<s.size->1<=(nxtN s i).2/\i+(nxtN s i).2<=s.size:=λh=>Vd2 s i h.1 h.2
def valG_L0(s:Zc):E->F->Qj
 |0,_=>default
 |n0+1,v3=>Zu (Zn ((v3:F)<((Zd s:E):F))) (Zu (Zu (Zu (((nxtN s v3).1:F)==65533) (((nxtN s v3).2:F)==1) Ze) Zs (uncB ((nxtN s v3).1))) Ze (valG_L0 s n0 (v3+((nxtN s v3).2)))) Zs
def valG(s:Zc):Bool:=valG_L0 s ((s.size-Zb 0)+1) 0
def valG_to(s:Zc)(hs:s.size<=1073741824):Va1 Zg 170 [(jS s)] [] [] (jB (valG s)) [] []:=by
 refine BEG (λr:Qj=>(jB r)) (valG s) Tryz.func170 kx ?_;refine UF (valG.eq_1 ..) ?_;refine gO j6 ?_;refine LP (λN M S=>∃ v3:F,(0<=v3/\v3<=s.size)/\(s.size-Zb v3<N)/\M=valG_L0 s N v3/\S=(sx 29 [(0,(jS s)),(3,(jI v3))] [] [])) kx ⟨_,by first|omega|assumption|(simp only[Va6];omega)|(simp;done)|(simp;omega),kv,rfl,rfl⟩ (WK kx) ?_;rintro n0 M S ⟨v3,hv,hF0,rfl,rfl⟩;obtain⟨n0,rfl⟩:∃ k,n0=k+1:=⟨n0-1,kv⟩
 refine UF (valG_L0.eq_2 ..) ?_;refine gO i7 ?_;refine CSd (λh1p h1=>?_) (λh1p h1=>?_)
 ·have:=nxtN_bdc s v3;refine gO (kb h1<|j7 (Vco s v3 ky ky ky)<|tn 8<|kj (((nxtN s v3).1:F)==65533) j6 z<|m7 (Zu (((nxtN s v3).1:F)==65533) (((nxtN s v3).2:F)==1) Ze) z (n7 (uncB_to ((nxtN s v3).1)) z) z) ?_;refine CS (λh2=>?_) (λh2=>?_)
  ·refine gO (kb h2 m5) ?_;refine Jp z kx ?_;exact EN kx
  ·obtain⟨h2a,h2o⟩:=Va8 h2;refine gO (kb h2<|p8 (wrE (v3+((nxtN s v3).2)) (v3+((nxtN s v3).2)) kv) m5) ?_;exact AG ⟨_,by first|omega|assumption|(simp only[Va6];omega)|(simp;done)|(simp;omega),kv,rfl,rfl⟩ (WK kx) kx (Zv _)
 ·refine gO (kb h1 z) ?_;refine Jp m5 kx ?_;exact EN kx
def clnG(s:Zc):Bool:=Zu (valG s) (Zn ((idxB s 10:F)<0)) Ze
def clnG_to(s:Zc)(hs:s.size<=1073741824):Va1 Zg 175 [(jS s)] [] [] (jB (clnG s)) [] []:=by
 refine BEG (λr:Qj=>(jB r)) (clnG s) Tryz.func175 kx ?_;refine UF (clnG.eq_1 ..) ?_;refine gO (j7 (valG_to s ky)<|m7 (valG s) (n7 (Vj9 s 10) m5) z m5) ?_;exact EN kx
def rdvN_L0(s:Zc)(i:F):E->F->Zc->(Zc×F×Qj)
 |0,_,_=>default
 |n0+1,v8,vb7_1=>Zu (Zn ((v8:F)<((Zd s:E):F))) (Zu (((Jc s (Zb v8):E):F)==34) (vb7_1,v8+1,clnG vb7_1) (Zu (((Jc s (Zb v8):E):F)==92) (Zu (Zu (Zn ((v8+1:F)>=((Zd s:E):F))) Zs (Zu (((Jc s (Zb (v8+1)):E):F) !=34) (((Jc s (Zb (v8+1)):E):F) !=92) Ze)) (⟨#[]⟩,0,Ze) (rdvN_L0 s i n0 ((v8+1)+1) (Jy vb7_1 (u8 ((Jc s (Zb (v8+1)):E):F))))) (rdvN_L0 s i n0 (v8+1) (Jy vb7_1 (u8 ((Jc s (Zb v8):E):F)))))) (⟨#[]⟩,0,Ze)
def rdvN(s:Zc)(i:F):(Zc×F×Qj):=Zu (Zu (Zn ((i:F)>=((Zd s:E):F))) Zs (((Jc s (Zb i):E):F) !=34)) (Za s (Zb (min i ((Zd s:E):F))) (Zb (wrdA s (min i ((Zd s:E):F)))),wrdA s (min i ((Zd s:E):F)),namA (Za s (Zb (min i ((Zd s:E):F))) (Zb (wrdA s (min i ((Zd s:E):F)))))) (rdvN_L0 s i ((s.size-Zb (i+1))+1) (i+1) (⟨#[]⟩))
def rdvN_to(s:Zc)(i:F)(hs:s.size<=1073741824)(h0:0<=i)(h1:i<=s.size)(hn:((Jc s (Zb i):E):F)=34->((Jc s (Zb (i+1)):E):F)≠34):Va1 Zg 283 [(jS s),(jI i)] [] [] (.av (.tup [(vS ((rdvN s i).1)),(vI ((rdvN s i).2.1)),(vB ((rdvN s i).2.2))])) [] []:=by
 refine BEG (λr:(Zc×F×Qj)=>(.av (.tup [(vS r.1),(vI r.2.1),(vB r.2.2)]))) (rdvN s i) Tryz.func283 kx ?_;refine UF (rdvN.eq_1 ..) ?_;refine gO (tn 8<|kj (Zn ((i:F)>=((Zd s:E):F))) z (m9 (λh=>by have j0:=h.2;have j0p:=Zh j0;exact(ib s i kv)) m5) z) ?_;refine CS (λh1=>?_) (λh1=>?_)
 ·have:=Vke s (min i ((Zd s:E):F)) gk;have:=Vai s (Zb (min i ((Zd s:E):F))) (Zb (wrdA s (min i ((Zd s:E):F))));refine gO (kb h1<|vq (wrdA_to s (min i ((Zd s:E):F)) ky ky ky)<|tn 7<|kp (show 0<=(min i ((Zd s:E):F):F)/\(min i ((Zd s:E):F):F)<=wrdA s (min i ((Zd s:E):F))/\wrdA s (min i ((Zd s:E):F))<=((Zd s:E):F)from(by first|omega|(simp only[Va6,Qp];omega)))<|cq (Vdl (Za s (Zb (min i ((Zd s:E):F))) (Zb (wrdA s (min i ((Zd s:E):F))))) ky) i6) ?_;exact EN kx
 ·obtain⟨h1a,h1o⟩:=Va8 h1;have h1ap:=Zh h1a;have h1op:=Va7 h1o;refine gO (kb h1<|tn 1<|kq 6 z) ?_;refine RT [(7,0,(.son 7)),(7,1,(.own (1300,6) 0 1 (Vab (⟨#[]⟩))))] (ac (show(AV.val (.pointer Zp))=.val (.pointer Zp)from rfl) (ac (show(Vab ⟨#[]⟩:H AV)=[]/\0<6/\(0:E)=0 from⟨rfl,gj,rfl⟩) an)) kx ?_;refine gO (m6 (wrE (i+1) (i+1) kv) m5) ?_;refine LP (λN M S=>∃ v8:F,∃gvb7_1:E,∃vb7_1:Zc,(i+1<=v8/\v8<=s.size+1)/\(i+1<v8\/((Jc s (Zb v8):E):F)≠34)/\((vb7_1.size:F)<=v8-i-1/\(i+1<v8->0<vb7_1.size))/\(s.size-Zb v8<N)/\M=rdvN_L0 s i N v8 vb7_1/\S=(sx 78 [(0,(jS s)),(7,(.ptr 7 0)),(8,(jI v8))] [(7,(.cells 80 [(.son 7),(.own (1300,6) gvb7_1 1 (Vab vb7_1))]))] [((1300,6),gvb7_1)])) kx ⟨_,0,_,kv,Or.inr (hn kv),⟨by have e0:(⟨#[]⟩:Zc).size=0:=rfl;omega,kv⟩,kv,rfl,rfl⟩ (WK kx) ?_;rintro n0 M S ⟨v8,gvb7_1,vb7_1,hv,hb,hz,hF0,rfl,rfl⟩;obtain⟨n0,rfl⟩:∃ k,n0=k+1:=⟨n0-1,kv⟩
  refine UF (rdvN_L0.eq_2 ..) ?_;refine gO i7 ?_;refine CSd (λh2p h2=>?_) (λh2p h2=>?_)
  ·refine gO (kb h2<|p7 (ib s v8 kv) j6) ?_;refine CSe (λh3p h3=>?_) (λh3p h3=>?_)
   ·refine gO (kb h3<|kg (Vac (Vah (7,0) (1000,0) rfl) (Vjk (.son 1000) 1300 gvb7_1 vb7_1 kv kv)) (show(gvb7_1:E)=gvb7_1/\Qb from⟨rfl,Zm⟩)<|m6 (wrE (v8+1) (v8+1) kv)<|kg (show Va1 Zg 38 [(.ptr 7 0)] [(7,(.cells 80 [(.son 7),(.av (.fz 5 (Vab vb7_1)))]))] [] (jS vb7_1) [(7,(.cells 80 [(.son 7),(.av (.fz 5 (Vab vb7_1)))]))] []from Vcz kx (Vac (Vah (7,0) (1000,0) rfl) (StringZ_to (.son 1000) vb7_1 kv kv))) Zm<|kc (clnG_to vb7_1 ky) i6) ?_;refine Jp z kx ?_;exact EN kx
   ·refine gO (kb h3 j6) ?_;refine CSe (λh4p h4=>?_) (λh4p h4=>?_)
    ·refine gO (kb h4<|m6 (wrE (v8+1) (v8+1) kv)<|tn 6<|kj (Zn ((v8+1:F)>=((Zd s:E):F))) z (m9 (λh=>by have j0:=h.2;have j0p:=Zh j0;exact(ib s (v8+1) kv))<|wq (((Jc s (Zb (v8+1)):E):F) !=34) (m9 (λh=>by have j0:=h.1.2;have j0p:=Zh j0;have j1:=h.2;have j1p:=Q6.1 j1;exact(ib s (v8+1) kv)) m5) z z) z) ?_;refine CS (λh5=>?_) (λh5=>?_)
     ·refine gO (kb h5 i6) ?_;refine Jp z kx ?_;exact EN kx
     ·obtain⟨h5a,h5o⟩:=Va8 h5;have h5ap:=Zh h5a;refine gO (kb h5<|p7 (ib s (v8+1) kv)<|kg (Vac (Vah (7,0) (1000,0) rfl) (Ve6 vb7_1 ((Jc s (Zb (v8+1)):E):F) gvb7_1 ky (bytI_lt _ _))) (show(gvb7_1:E)=gvb7_1/\Qb from⟨rfl,Zm⟩)<|m6 (wrE ((v8+1)+1) ((v8+1)+1) kv) m5) ?_;exact AG ⟨_,gvb7_1+1,_,kv,kv,by rw[Jd];omega,kv,rfl,rfl⟩ (WK kx) kx (Zv _)
    ·refine gO (kb h4<|p7 (ib s v8 kv)<|kg (Vac (Vah (7,0) (1000,0) rfl) (Ve6 vb7_1 ((Jc s (Zb v8):E):F) gvb7_1 ky (bytI_lt _ _))) (show(gvb7_1:E)=gvb7_1/\Qb from⟨rfl,Zm⟩)<|m6 (wrE (v8+1) (v8+1) kv) m5) ?_;exact AG ⟨_,gvb7_1+1,_,kv,kv,by rw[Jd];omega,kv,rfl,rfl⟩ (WK kx) kx (Zv _)
  ·refine gO (kb h2 z) ?_;refine Jp i6 kx ?_;exact EN kx
end
section
open Go Go.Eng
def encQ(r:Z5×Qj):SV:=.av (.tup [Vby r.1,vB r.2])
def fdR(x:Zf×F)(r:Z5×Qj):Z5×Bool:=Zu (Zn (x.2>0)) (DPiece.mk 0 x.1 ⟨#[]⟩ 0 Ze Ze Ze 0 x.2,Ze) r
def nxR(s:Zc)(i:F):Z5×Bool:=(litP s i (i+(nxtN s i).2),Zs)
def zI7:E×ABox:=(7,.cells 42 [jI 0,jS ⟨#[]⟩,jS ⟨#[]⟩,jS ⟨#[]⟩,jS ⟨#[]⟩,.nil,.nil,.nil,.nil,.nil])
def fA(x:Zf)(e:F):Va1 Zg 131 [.av (Vaq x),jI e,.ptr 7 0,.ptr 8 0] [(8,.cells 3 [jI 0]),zI7] [] (jB (Zn (e>0))) [(7,.cells 42 (Vf1 x)),(8,.cells 3 [jI e])] []:=
 Vhg (Vcz kx (Vac (Vah (7,0) (1000,0) rfl) (Vac (Vah (8,0) (1001,0) rfl) (fnd0_to x e 0))))
def fB(y x:Zf)(z e:F):Va1 Zg 131 [.av (Vaq x),jI e,.ptr 7 0,.ptr 8 0] [(8,.cells 3 [jI z]),(7,.cells 42 (Vf1 y))] [] (jB (Zn (e>0))) [(7,.cells 42 (Vf1 x)),(8,.cells 3 [jI e])] []:=
 Vhg (Vcz kx (Vac (Vah (7,0) (1000,0) rfl) (Vac (Vah (8,0) (1001,0) rfl) (fnd1_to y x e z))))
section
variable (s:Zc) (ka:H F) (la:H (H F)) (kd:H F) (ld:H (H F)) (m i:F)
def pc92(hs:s.size<=1073741824)(h0:0<=i)(h1:i<s.size)(hta:TkOk s la)(htd:TkOk s ld)(q92:(Z2 s i==92)=Zs):Va1 Zg 90 [.av (rdV s ka la kd ld),jI i] [glM m] [] (encQ (fdR (bslP s i) (nxR s i))) [glM m] []:=by
 have hib:=ib s i ⟨h0,h1⟩;have hNx:=Vco s i hs h0 kv;have nb:=Vd2 s i h0 h1;have wn:=wrE (i+(nxtN s i).2) (i+(nxtN s i).2) kv;have hLt:=Vcr s i (i+(nxtN s i).2) hs h0 kv kv;have k:=bslP_to s i hs h0 h1;refine bGs Yg ?_;unfold fdR;cases d:Zn ((bslP s i).2>0)with
 |true=>
  simp only[Zj];refine gO (j9 hib<|z6 q92<|m8 k<|o8 (fA (bslP s i).1 (bslP s i).2) Zm<|z6 d n8) ?_;exact eNs
 |false=>
  simp only[Zi];refine gO (j9 hib<|z6 q92<|m8 k<|o8 (fA (bslP s i).1 (bslP s i).2) Zm<|z6 d<|j7 hNx<|mq wn<|kc hLt j6) ?_;exact eNs
def pc38(hs:s.size<=1073741824)(h0:0<=i)(h1:i<s.size)(hta:TkOk s la)(htd:TkOk s ld)(q92:(Z2 s i==92)=Ze)(q32:(Z2 s i==32)=Ze)(q10:(Z2 s i==10)=Ze)(q38:(Z2 s i==38)=Zs):Va1 Zg 90 [.av (rdV s ka la kd ld),jI i] [glM m] [] (encQ (fdR (refP s i) (nxR s i))) [glM m] []:=by
 have hib:=ib s i ⟨h0,h1⟩;have hNx:=Vco s i hs h0 kv;have nb:=Vd2 s i h0 h1;have wn:=wrE (i+(nxtN s i).2) (i+(nxtN s i).2) kv;have hLt:=Vcr s i (i+(nxtN s i).2) hs h0 kv kv;have k:=refP_to s i hs h0 h1;refine bGs Yg ?_;unfold fdR;cases d:Zn ((refP s i).2>0)with
 |true=>
  simp only[Zj];refine gO (j9 hib<|z6 q92<|z6 q32<|z6 q10<|z6 q38<|m8 k<|o8 (fA (refP s i).1 (refP s i).2) Zm<|z6 d n8) ?_;exact eNs
 |false=>
  simp only[Zi];refine gO (j9 hib<|z6 q92<|z6 q32<|z6 q10<|z6 q38<|m8 k<|o8 (fA (refP s i).1 (refP s i).2) Zm<|z6 d<|j7 hNx<|mq wn<|kc hLt j6) ?_;exact eNs
def pc60(hs:s.size<=1073741824)(h0:0<=i)(h1:i<s.size)(hta:TkOk s la)(htd:TkOk s ld)(q92:(Z2 s i==92)=Ze)(q32:(Z2 s i==32)=Ze)(q10:(Z2 s i==10)=Ze)(q38:(Z2 s i==38)=Ze)(q36:(Z2 s i==36)=Ze)(q96:(Z2 s i==96)=Ze)(q60:(Z2 s i==60)=Zs):Va1 Zg 90 [.av (rdV s ka la kd ld),jI i] [glM m] [] (encQ (fdR (autP s i) (nxR s i))) [glM m] []:=by
 have hib:=ib s i ⟨h0,h1⟩;have hNx:=Vco s i hs h0 kv;have nb:=Vd2 s i h0 h1;have wn:=wrE (i+(nxtN s i).2) (i+(nxtN s i).2) kv;have hLt:=Vcr s i (i+(nxtN s i).2) hs h0 kv kv;have k:=autP_to s i hs h0 h1;refine bGs Yg ?_;unfold fdR;cases d:Zn ((autP s i).2>0)with
 |true=>
  simp only[Zj];refine gO (j9 hib<|z6 q92<|z6 q32<|z6 q10<|z6 q38<|z6 q36<|z6 q96<|z6 q60<|m8 k<|o8 (fA (autP s i).1 (autP s i).2) Zm<|z6 d n8) ?_;exact eNs
 |false=>
  simp only[Zi];refine gO (j9 hib<|z6 q92<|z6 q32<|z6 q10<|z6 q38<|z6 q36<|z6 q96<|z6 q60<|m8 k<|o8 (fA (autP s i).1 (autP s i).2) Zm<|z6 d<|j7 hNx<|mq wn<|kc hLt j6) ?_;exact eNs
def pc123(hs:s.size<=1073741824)(h0:0<=i)(h1:i<s.size)(hta:TkOk s la)(htd:TkOk s ld)(q92:(Z2 s i==92)=Ze)(q32:(Z2 s i==32)=Ze)(q10:(Z2 s i==10)=Ze)(q38:(Z2 s i==38)=Ze)(q36:(Z2 s i==36)=Ze)(q96:(Z2 s i==96)=Ze)(q60:(Z2 s i==60)=Ze)(q123:(Z2 s i==123)=Zs):Va1 Zg 90 [.av (rdV s ka la kd ld),jI i] [glM m] [] (encQ (fdR (useP s i) (nxR s i))) [glM m] []:=by
 have hib:=ib s i ⟨h0,h1⟩;have hNx:=Vco s i hs h0 kv;have nb:=Vd2 s i h0 h1;have wn:=wrE (i+(nxtN s i).2) (i+(nxtN s i).2) kv;have hLt:=Vcr s i (i+(nxtN s i).2) hs h0 kv kv;have k:=useP_to s i hs h0 h1;refine bGs Yg ?_;unfold fdR;cases d:Zn ((useP s i).2>0)with
 |true=>
  simp only[Zj];refine gO (j9 hib<|z6 q92<|z6 q32<|z6 q10<|z6 q38<|z6 q36<|z6 q96<|z6 q60<|z6 q123<|m8 k<|o8 (fA (useP s i).1 (useP s i).2) Zm<|z6 d n8) ?_;exact eNs
 |false=>
  simp only[Zi];refine gO (j9 hib<|z6 q92<|z6 q32<|z6 q10<|z6 q38<|z6 q36<|z6 q96<|z6 q60<|z6 q123<|m8 k<|o8 (fA (useP s i).1 (useP s i).2) Zm<|z6 d<|j7 hNx<|mq wn<|kc hLt j6) ?_;exact eNs
def pc36(hs:s.size<=1073741824)(h0:0<=i)(h1:i<s.size)(hta:TkOk s la)(htd:TkOk s ld)(q92:(Z2 s i==92)=Ze)(q32:(Z2 s i==32)=Ze)(q10:(Z2 s i==10)=Ze)(q38:(Z2 s i==38)=Ze)(q36:(Z2 s i==36)=Zs):Va1 Zg 90 [.av (rdV s ka la kd ld),jI i] [glM m] [] (encQ (fdR (mtcP s kd ld i) (fdR (dolG s i) (nxR s i)))) [glM m] []:=by
 have hib:=ib s i ⟨h0,h1⟩;have hNx:=Vco s i hs h0 kv;have nb:=Vd2 s i h0 h1;have wn:=wrE (i+(nxtN s i).2) (i+(nxtN s i).2) kv;have hLt:=Vcr s i (i+(nxtN s i).2) hs h0 kv kv;have k:=mtcP_to s ka la kd ld m i hs h0 h1 htd;have k2:=dolG_to s i hs h0 h1;refine bGs Yg ?_;cases d:Zn ((mtcP s kd ld i).2>0)with
 |true=>
  rw[show fdR (mtcP s kd ld i) (fdR (dolG s i) (nxR s i))=(DPiece.mk 0 (mtcP s kd ld i).1 ⟨#[]⟩ 0 Ze Ze Ze 0 (mtcP s kd ld i).2,Ze) by unfold fdR;rw[d];rfl];refine gO (j9 hib<|z6 q92<|z6 q32<|z6 q10<|z6 q38<|z6 q36<|tn 3<|kg k Zm<|o8 (fA (mtcP s kd ld i).1 (mtcP s kd ld i).2) Zm<|kb d<|z6 d n8) ?_;exact eNs
 | false=>
  rw[show fdR (mtcP s kd ld i) (fdR (dolG s i) (nxR s i))=fdR (dolG s i) (nxR s i) by rw[fdR,d];rfl];unfold fdR;cases d2:Zn ((dolG s i).2>0)with
  |true=>
   simp only[Zj];refine gO (j9 hib<|z6 q92<|z6 q32<|z6 q10<|z6 q38<|z6 q36<|tn 3<|kg k Zm<|o8 (fA (mtcP s kd ld i).1 (mtcP s kd ld i).2) Zm<|kb d<|m8 k2<|o8 (fB (mtcP s kd ld i).1 (dolG s i).1 (mtcP s kd ld i).2 (dolG s i).2) Zm<|z6 d2 n8) ?_;exact eNs
  |false=>
   simp only[Zi];refine gO (j9 hib<|z6 q92<|z6 q32<|z6 q10<|z6 q38<|z6 q36<|tn 3<|kg k Zm<|o8 (fA (mtcP s kd ld i).1 (mtcP s kd ld i).2) Zm<|kb d<|m8 k2<|o8 (fB (mtcP s kd ld i).1 (dolG s i).1 (mtcP s kd ld i).2 (dolG s i).2) Zm<|z6 d2<|j7 hNx<|mq wn<|kc hLt j6) ?_;exact eNs
def pc96(hs:s.size<=1073741824)(h0:0<=i)(h1:i<s.size)(hta:TkOk s la)(htd:TkOk s ld)(q92:(Z2 s i==92)=Ze)(q32:(Z2 s i==32)=Ze)(q10:(Z2 s i==10)=Ze)(q38:(Z2 s i==38)=Ze)(q36:(Z2 s i==36)=Ze)(q96:(Z2 s i==96)=Zs):Va1 Zg 90 [.av (rdV s ka la kd ld),jI i] [glM m] [] (encQ (fdR (codP s ka la i) (litP s i (runE s i),Zs))) [glM m] []:=by
 have hib:=ib s i ⟨h0,h1⟩;have k:=codP_to s ka la kd ld m i hs h0 h1 hta;have hRn:=Vky s i hs h0 h1;have hb:=Vf3 s i h0;have hLt:=Vcr s i (runE s i) hs h0 kv kv;refine bGs Yg ?_;unfold fdR;cases d:Zn ((codP s ka la i).2>0)with
 |true=>
  simp only[Zj];refine gO (j9 hib<|z6 q92<|z6 q32<|z6 q10<|z6 q38<|z6 q36<|z6 q96<|tn 3<|kg k Zm<|o8 (fA (codP s ka la i).1 (codP s ka la i).2) Zm<|m0 (b:= !Zn ((codP s ka la i).2>0)) (d:=Ze) (by rw[d];rfl)<|z6 d n8) ?_;exact eNs
 |false=>
  simp only[Zi];refine gO (j9 hib<|z6 q92<|z6 q32<|z6 q10<|z6 q38<|z6 q36<|z6 q96<|tn 3<|kg k Zm<|o8 (fA (codP s ka la i).1 (codP s ka la i).2) Zm<|m0 (b:= !Zn ((codP s ka la i).2>0)) (d:=Zs) (by rw[d];rfl)<|cq hRn<|kc hLt j6) ?_;exact eNs
def pc32(hs:s.size<=1073741824)(h0:0<=i)(h1:i<s.size)(hta:TkOk s la)(htd:TkOk s ld)(q92:(Z2 s i==92)=Ze)(q32:(Z2 s i==32)=Zs):Va1 Zg 90 [.av (rdV s ka la kd ld),jI i] [glM m] [] (encQ (Zu (Zu (Zn (skpS s i>=((Zd s:E):F))) Zs (Z2 s (skpS s i) !=10)) (litP s i (skpS s i),Zs) (fdR (coI 2 ⟨#[]⟩,skpS s (skpS s i+1)) (nxR s i)))) [glM m] []:=by
 have hib:=ib s i ⟨h0,h1⟩;have hNx:=Vco s i hs h0 kv;have nb:=Vd2 s i h0 h1;have wn:=wrE (i+(nxtN s i).2) (i+(nxtN s i).2) kv;have hLt:=Vcr s i (i+(nxtN s i).2) hs h0 kv kv;have hSk:=Vkv s i hs h0 kv;have sb:=Vc4 s i h0;have hLt2:=Vcr s i (skpS s i) hs h0 kv kv;refine bGs Yg ?_;cases d1:Zn (skpS s i>=((Zd s:E):F))with
 |true=>
  simp only[Zj];refine gO (j9 hib<|z6 q92<|z6 q32<|kb q32<|j7 hSk<|zq d1<|kb d1<|kb d1<|kb d1<|kb d1<|kb (b:=Zs) (d:=Zs) rfl<|m8 hLt2 j6) ?_;exact eNs
 | false=>
  have d1p:=Zh d1;have hib2:=ib s (skpS s i) ⟨kv,kv⟩;cases d2:(Z2 s (skpS s i) !=10)with
  |true=>
   simp only[Zj,Zi];refine gO (j9 hib<|z6 q92<|z6 q32<|kb q32<|j7 hSk<|zq d1<|m0 d1<|m0 d1<|kp hib2<|kb d1<|m0 d1<|kb d2<|m8 hLt2 j6) ?_;exact eNs
  | false=>
   simp only[Zi];have w2:=wrE (skpS s i+1) (skpS s i+1) kv;have hSk2:=Vkv s (skpS s i+1) hs kv kv;unfold fdR;cases d3:Zn ((coI 2 ⟨#[]⟩,skpS s (skpS s i+1)).2>0)with
   |true=>
    simp only[Zj];refine gO (j9 hib<|z6 q92<|z6 q32<|kb q32<|j7 hSk<|zq d1<|m0 d1<|m0 d1<|kp hib2<|kb d1<|m0 d1<|kb d2<|yq w2<|kc hSk2<|kg (fA (coI 2 ⟨#[]⟩) (skpS s (skpS s i+1))) Zm<|z6 d3 n8) ?_;exact eNs
   |false=>
    simp only[Zi];refine gO (j9 hib<|z6 q92<|z6 q32<|kb q32<|j7 hSk<|zq d1<|m0 d1<|m0 d1<|kp hib2<|kb d1<|m0 d1<|kb d2<|yq w2<|kc hSk2<|kg (fA (coI 2 ⟨#[]⟩) (skpS s (skpS s i+1))) Zm<|z6 d3<|j7 hNx<|mq wn<|kc hLt j6) ?_;exact eNs
def pc10(hs:s.size<=1073741824)(h0:0<=i)(h1:i<s.size)(hta:TkOk s la)(htd:TkOk s ld)(q92:(Z2 s i==92)=Ze)(q32:(Z2 s i==32)=Ze)(q10:(Z2 s i==10)=Zs):Va1 Zg 90 [.av (rdV s ka la kd ld),jI i] [glM m] [] (encQ (Zu (Zu (Zn (skpS s i>=((Zd s:E):F))) Zs (Z2 s (skpS s i) !=10)) (litP s i (skpS s i),Zs) (fdR (coI 2 ⟨#[]⟩,skpS s (skpS s i+1)) (nxR s i)))) [glM m] []:=by
 have hib:=ib s i ⟨h0,h1⟩;have hNx:=Vco s i hs h0 kv;have nb:=Vd2 s i h0 h1;have wn:=wrE (i+(nxtN s i).2) (i+(nxtN s i).2) kv;have hLt:=Vcr s i (i+(nxtN s i).2) hs h0 kv kv;have hSk:=Vkv s i hs h0 kv;have sb:=Vc4 s i h0;have hLt2:=Vcr s i (skpS s i) hs h0 kv kv;refine bGs Yg ?_;cases d1:Zn (skpS s i>=((Zd s:E):F))with
 |true=>
  simp only[Zj];refine gO (j9 hib<|z6 q92<|z6 q32<|z6 q10<|j7 hSk<|zq d1<|kb d1<|kb d1<|kb d1<|kb d1<|kb (b:=Zs) (d:=Zs) rfl<|m8 hLt2 j6) ?_;exact eNs
 | false=>
  have d1p:=Zh d1;have hib2:=ib s (skpS s i) ⟨kv,kv⟩;cases d2:(Z2 s (skpS s i) !=10)with
  |true=>
   simp only[Zj,Zi];refine gO (j9 hib<|z6 q92<|z6 q32<|z6 q10<|j7 hSk<|zq d1<|m0 d1<|m0 d1<|kp hib2<|kb d1<|m0 d1<|kb d2<|m8 hLt2 j6) ?_;exact eNs
  | false=>
   simp only[Zi];have w2:=wrE (skpS s i+1) (skpS s i+1) kv;have hSk2:=Vkv s (skpS s i+1) hs kv kv;unfold fdR;cases d3:Zn ((coI 2 ⟨#[]⟩,skpS s (skpS s i+1)).2>0)with
   |true=>
    simp only[Zj];refine gO (j9 hib<|z6 q92<|z6 q32<|z6 q10<|j7 hSk<|zq d1<|m0 d1<|m0 d1<|kp hib2<|kb d1<|m0 d1<|kb d2<|yq w2<|kc hSk2<|kg (fA (coI 2 ⟨#[]⟩) (skpS s (skpS s i+1))) Zm<|z6 d3 n8) ?_;exact eNs
   |false=>
    simp only[Zi];refine gO (j9 hib<|z6 q92<|z6 q32<|z6 q10<|j7 hSk<|zq d1<|m0 d1<|m0 d1<|kp hib2<|kb d1<|m0 d1<|kb d2<|yq w2<|kc hSk2<|kg (fA (coI 2 ⟨#[]⟩) (skpS s (skpS s i+1))) Zm<|z6 d3<|j7 hNx<|mq wn<|kc hLt j6) ?_;exact eNs
end
end
section
open Go Go.Eng
def pcR(k:F)(img:Qj)(e:F):Z5×Bool:=(DPiece.mk k zI ⟨#[]⟩ 0 Ze Ze img 0 e,Ze)
section
variable (s:Zc) (ka:H F) (la:H (H F)) (kd:H F) (ld:H (H F)) (m i:F)
def pc91(hs:s.size<=1073741824)(h0:0<=i)(h1:i<s.size)(hta:TkOk s la)(htd:TkOk s ld)(q92:(Z2 s i==92)=Ze)(q32:(Z2 s i==32)=Ze)(q10:(Z2 s i==10)=Ze)(q38:(Z2 s i==38)=Ze)(q36:(Z2 s i==36)=Ze)(q96:(Z2 s i==96)=Ze)(q60:(Z2 s i==60)=Ze)(q123:(Z2 s i==123)=Ze)(q91:(Z2 s i==91)=Zs):Va1 Zg 90 [.av (rdV s ka la kd ld),jI i] [glM m] [] (encQ (fdR (nmdP s i) (fdR (cteG s i) (pcR 2 Ze (i+1))))) [glM m] []:=by
 have hib:=ib s i ⟨h0,h1⟩;have k:=nmdP_to s i hs h0 h1;have k2:=cteG_to s i hs h0 h1;have w1:=wrE (i+1) (i+1) kv;refine bGs Yg ?_;cases d:Zn ((nmdP s i).2>0)with
 |true=>
  rw[show fdR (nmdP s i) (fdR (cteG s i) (pcR 2 Ze (i+1)))=(DPiece.mk 0 (nmdP s i).1 ⟨#[]⟩ 0 Ze Ze Ze 0 (nmdP s i).2,Ze) by unfold fdR;rw[d];rfl];refine gO (j9 hib<|z6 q92<|z6 q32<|z6 q10<|z6 q38<|z6 q36<|z6 q96<|z6 q60<|z6 q123<|z6 q91<|m8 k<|o8 (fA (nmdP s i).1 (nmdP s i).2) Zm<|m0 d<|kb d<|kb d<|kb d<|kb d<|kb d<|kb d<|kb d<|kb (b:=Zs) (d:=Zs) rfl<|z6 d n8) ?_;exact eNs
 | false=>
  rw[show fdR (nmdP s i) (fdR (cteG s i) (pcR 2 Ze (i+1)))=fdR (cteG s i) (pcR 2 Ze (i+1)) by rw[fdR,d];rfl];unfold fdR;cases d2:Zn ((cteG s i).2>0)with
  |true=>
   simp only[Zj];refine gO (j9 hib<|z6 q92<|z6 q32<|z6 q10<|z6 q38<|z6 q36<|z6 q96<|z6 q60<|z6 q123<|z6 q91<|m8 k<|o8 (fA (nmdP s i).1 (nmdP s i).2) Zm<|m0 d<|m0 d<|m0 d<|m0 d<|kc k2<|kb d<|m0 d<|m0 d<|kg (fB (nmdP s i).1 (cteG s i).1 (nmdP s i).2 (cteG s i).2) Zm<|kb d<|kb d2<|z6 d2 n8) ?_;exact eNs
  |false=>
   simp only[Zi];refine gO (j9 hib<|z6 q92<|z6 q32<|z6 q10<|z6 q38<|z6 q36<|z6 q96<|z6 q60<|z6 q123<|z6 q91<|m8 k<|o8 (fA (nmdP s i).1 (nmdP s i).2) Zm<|m0 d<|m0 d<|m0 d<|m0 d<|kc k2<|kb d<|m0 d<|m0 d<|kg (fB (nmdP s i).1 (cteG s i).1 (nmdP s i).2 (cteG s i).2) Zm<|kb d<|kb d2<|m6 w1 i6) ?_;exact eNs
def pc33(hs:s.size<=1073741824)(h0:0<=i)(h1:i<s.size)(hta:TkOk s la)(htd:TkOk s ld)(q92:(Z2 s i==92)=Ze)(q32:(Z2 s i==32)=Ze)(q10:(Z2 s i==10)=Ze)(q38:(Z2 s i==38)=Ze)(q36:(Z2 s i==36)=Ze)(q96:(Z2 s i==96)=Ze)(q60:(Z2 s i==60)=Ze)(q123:(Z2 s i==123)=Ze)(q91:(Z2 s i==91)=Ze)(q33:(Z2 s i==33)=Zs):Va1 Zg 90 [.av (rdV s ka la kd ld),jI i] [glM m] [] (encQ (Zu (Zu (Zn (i+1<((Zd s:E):F))) (Z2 s (i+1)==91) Ze) (pcR 2 Zs (i+2)) (nxR s i))) [glM m] []:=by
 have hib:=ib s i ⟨h0,h1⟩;have hNx:=Vco s i hs h0 kv;have nb:=Vd2 s i h0 h1;have wn:=wrE (i+(nxtN s i).2) (i+(nxtN s i).2) kv;have hLt:=Vcr s i (i+(nxtN s i).2) hs h0 kv kv;have w1:=wrE (i+1) (i+1) kv;have w2:=wrE (i+2) (i+2) kv;refine bGs Yg ?_;cases d1:Zn (i+1<((Zd s:E):F))with
 |false=>
  simp only[Zi];refine gO (j9 hib<|z6 q92<|z6 q32<|z6 q10<|z6 q38<|z6 q36<|z6 q96<|z6 q60<|z6 q123<|z6 q91<|z6 q33<|m6 w1<|i8 d1<|kb d1<|kb d1<|kb d1<|kb d1<|kb d1<|kb (b:=Ze) (d:=Ze) rfl<|z6 (b:=Zn ((0:F)>0)) (d:=Ze) rfl<|j7 hNx<|mq wn<|kc hLt j6) ?_;exact eNs
 | true=>
  have d1p:=Zo d1;have hib2:=ib s (i+1) ⟨kv,kv⟩;cases d2:(Z2 s (i+1)==91)with
  |true=>
   simp only[Zj];refine gO (j9 hib<|z6 q92<|z6 q32<|z6 q10<|z6 q38<|z6 q36<|z6 q96<|z6 q60<|z6 q123<|z6 q91<|z6 q33<|m6 w1<|i8 d1<|m0 d1<|m0 d1<|kn w1<|kb d1<|kp hib2<|kb d1<|m0 d1<|kb d2<|m6 w2 i6) ?_;exact eNs
  |false=>
   simp only[Zj,Zi];refine gO (j9 hib<|z6 q92<|z6 q32<|z6 q10<|z6 q38<|z6 q36<|z6 q96<|z6 q60<|z6 q123<|z6 q91<|z6 q33<|m6 w1<|i8 d1<|m0 d1<|m0 d1<|kn w1<|kb d1<|kp hib2<|kb d1<|m0 d1<|kb d2<|z6 (b:=Zn ((0:F)>0)) (d:=Ze) rfl<|j7 hNx<|mq wn<|kc hLt j6) ?_;exact eNs
def pc93(hs:s.size<=1073741824)(h0:0<=i)(h1:i<s.size)(hta:TkOk s la)(htd:TkOk s ld)(q92:(Z2 s i==92)=Ze)(q32:(Z2 s i==32)=Ze)(q10:(Z2 s i==10)=Ze)(q38:(Z2 s i==38)=Ze)(q36:(Z2 s i==36)=Ze)(q96:(Z2 s i==96)=Ze)(q60:(Z2 s i==60)=Ze)(q123:(Z2 s i==123)=Ze)(q91:(Z2 s i==91)=Ze)(q33:(Z2 s i==33)=Ze)(q93:(Z2 s i==93)=Zs):Va1 Zg 90 [.av (rdV s ka la kd ld),jI i] [glM m] [] (encQ (pcR 3 Ze (i+1))) [glM m] []:=by
 have hib:=ib s i ⟨h0,h1⟩;have w1:=wrE (i+1) (i+1) kv;refine bGs Yg ?_;refine gO (j9 hib<|z6 q92<|z6 q32<|z6 q10<|z6 q38<|z6 q36<|z6 q96<|z6 q60<|z6 q123<|z6 q91<|z6 q33<|z6 q93<|m6 w1 i6) ?_;exact eNs
def pc42(hs:s.size<=1073741824)(h0:0<=i)(h1:i<s.size)(hta:TkOk s la)(htd:TkOk s ld)(q92:(Z2 s i==92)=Ze)(q32:(Z2 s i==32)=Ze)(q10:(Z2 s i==10)=Ze)(q38:(Z2 s i==38)=Ze)(q36:(Z2 s i==36)=Ze)(q96:(Z2 s i==96)=Ze)(q60:(Z2 s i==60)=Ze)(q123:(Z2 s i==123)=Ze)(q91:(Z2 s i==91)=Ze)(q33:(Z2 s i==33)=Ze)(q93:(Z2 s i==93)=Ze)(q42:(Z2 s i==42)=Zs):Va1 Zg 90 [.av (rdV s ka la kd ld),jI i] [glM m] [] (encQ (runP s ka (tkV la) kd (tkV ld) i)) [glM m] []:=by
 have hib:=ib s i ⟨h0,h1⟩;have k:=runP_to s ka (tkV la) kd (tkV ld) i hs h0 h1;refine bGs Yg ?_;refine gO (j9 hib<|z6 q92<|z6 q32<|z6 q10<|z6 q38<|z6 q36<|z6 q96<|z6 q60<|z6 q123<|z6 q91<|z6 q33<|z6 q93<|z6 q42<|kb q42<|j7 k i7) ?_;exact eNs
def pc95(hs:s.size<=1073741824)(h0:0<=i)(h1:i<s.size)(hta:TkOk s la)(htd:TkOk s ld)(q92:(Z2 s i==92)=Ze)(q32:(Z2 s i==32)=Ze)(q10:(Z2 s i==10)=Ze)(q38:(Z2 s i==38)=Ze)(q36:(Z2 s i==36)=Ze)(q96:(Z2 s i==96)=Ze)(q60:(Z2 s i==60)=Ze)(q123:(Z2 s i==123)=Ze)(q91:(Z2 s i==91)=Ze)(q33:(Z2 s i==33)=Ze)(q93:(Z2 s i==93)=Ze)(q42:(Z2 s i==42)=Ze)(q95:(Z2 s i==95)=Zs):Va1 Zg 90 [.av (rdV s ka la kd ld),jI i] [glM m] [] (encQ (runP s ka (tkV la) kd (tkV ld) i)) [glM m] []:=by
 have hib:=ib s i ⟨h0,h1⟩;have k:=runP_to s ka (tkV la) kd (tkV ld) i hs h0 h1;refine bGs Yg ?_;refine gO (j9 hib<|z6 q92<|z6 q32<|z6 q10<|z6 q38<|z6 q36<|z6 q96<|z6 q60<|z6 q123<|z6 q91<|z6 q33<|z6 q93<|z6 q42<|z6 q95<|kb q95<|j7 k i7) ?_;exact eNs
def pc126(hs:s.size<=1073741824)(h0:0<=i)(h1:i<s.size)(hta:TkOk s la)(htd:TkOk s ld)(q92:(Z2 s i==92)=Ze)(q32:(Z2 s i==32)=Ze)(q10:(Z2 s i==10)=Ze)(q38:(Z2 s i==38)=Ze)(q36:(Z2 s i==36)=Ze)(q96:(Z2 s i==96)=Ze)(q60:(Z2 s i==60)=Ze)(q123:(Z2 s i==123)=Ze)(q91:(Z2 s i==91)=Ze)(q33:(Z2 s i==33)=Ze)(q93:(Z2 s i==93)=Ze)(q42:(Z2 s i==42)=Ze)(q95:(Z2 s i==95)=Ze)(q126:(Z2 s i==126)=Zs):Va1 Zg 90 [.av (rdV s ka la kd ld),jI i] [glM m] [] (encQ (runP s ka (tkV la) kd (tkV ld) i)) [glM m] []:=by
 have hib:=ib s i ⟨h0,h1⟩;have k:=runP_to s ka (tkV la) kd (tkV ld) i hs h0 h1;refine bGs Yg ?_;refine gO (j9 hib<|z6 q92<|z6 q32<|z6 q10<|z6 q38<|z6 q36<|z6 q96<|z6 q60<|z6 q123<|z6 q91<|z6 q33<|z6 q93<|z6 q42<|z6 q95<|z6 q126<|j7 k i7) ?_;exact eNs
def pc0(hs:s.size<=1073741824)(h0:0<=i)(h1:i<s.size)(hta:TkOk s la)(htd:TkOk s ld)(q92:(Z2 s i==92)=Ze)(q32:(Z2 s i==32)=Ze)(q10:(Z2 s i==10)=Ze)(q38:(Z2 s i==38)=Ze)(q36:(Z2 s i==36)=Ze)(q96:(Z2 s i==96)=Ze)(q60:(Z2 s i==60)=Ze)(q123:(Z2 s i==123)=Ze)(q91:(Z2 s i==91)=Ze)(q33:(Z2 s i==33)=Ze)(q93:(Z2 s i==93)=Ze)(q42:(Z2 s i==42)=Ze)(q95:(Z2 s i==95)=Ze)(q126:(Z2 s i==126)=Ze):Va1 Zg 90 [.av (rdV s ka la kd ld),jI i] [glM m] [] (encQ (nxR s i)) [glM m] []:=by
 have hib:=ib s i ⟨h0,h1⟩;have hNx:=Vco s i hs h0 kv;have nb:=Vd2 s i h0 h1;have wn:=wrE (i+(nxtN s i).2) (i+(nxtN s i).2) kv;have hLt:=Vcr s i (i+(nxtN s i).2) hs h0 kv kv;refine bGs Yg ?_;refine gO (j9 hib<|z6 q92<|z6 q32<|z6 q10<|z6 q38<|z6 q36<|z6 q96<|z6 q60<|z6 q123<|z6 q91<|z6 q33<|z6 q93<|z6 q42<|z6 q95<|z6 q126<|z6 (b:=Zn ((0:F)>0)) (d:=Ze) rfl<|j7 hNx<|mq wn<|kc hLt j6) ?_;exact eNs
end
end
section
open Go Go.Eng
def spR(s:Zc)(i:F):Z5×Bool:=Zu (Zu (Zn (skpS s i>=((Zd s:E):F))) Zs (Z2 s (skpS s i) !=10)) (litP s i (skpS s i),Zs) (fdR (coI 2 ⟨#[]⟩,skpS s (skpS s i+1)) (nxR s i))
def pceG(s:Zc)(ka:H F)(la:H (H F))(kd:H F)(ld:H (H F))(i:F):Z5×Bool:=
 Zu (Z2 s i==92) (fdR (bslP s i) (nxR s i)) (
 Zu (Z2 s i==32) (spR s i) (
 Zu (Z2 s i==10) (spR s i) (
 Zu (Z2 s i==38) (fdR (refP s i) (nxR s i)) (
 Zu (Z2 s i==36) (fdR (mtcP s kd ld i) (fdR (dolG s i) (nxR s i))) (
 Zu (Z2 s i==96) (fdR (codP s ka la i) (litP s i (runE s i),Zs)) (
 Zu (Z2 s i==60) (fdR (autP s i) (nxR s i)) (
 Zu (Z2 s i==123) (fdR (useP s i) (nxR s i)) (
 Zu (Z2 s i==91) (fdR (nmdP s i) (fdR (cteG s i) (pcR 2 Ze (i+1)))) (
 Zu (Z2 s i==33) (Zu (Zu (Zn (i+1<((Zd s:E):F))) (Z2 s (i+1)==91) Ze) (pcR 2 Zs (i+2)) (nxR s i)) (
 Zu (Z2 s i==93) (pcR 3 Ze (i+1)) (
 Zu (Z2 s i==42) (runP s ka (tkV la) kd (tkV ld) i) (
 Zu (Z2 s i==95) (runP s ka (tkV la) kd (tkV ld) i) (
 Zu (Z2 s i==126) (runP s ka (tkV la) kd (tkV ld) i) (
 nxR s i))))))))))))))
def pceG_to(s:Zc)(ka:H F)(la:H (H F))(kd:H F)(ld:H (H F))(m i:F)(hs:s.size<=1073741824)(h0:0<=i)(h1:i<s.size)(hta:TkOk s la)(htd:TkOk s ld):
  Va1 Zg 90 [.av (rdV s ka la kd ld),jI i] [glM m] [] (encQ (pceG s ka la kd ld i)) [glM m] []:=by
 unfold pceG;cases q92:Z2 s i==92 with
 |true=>
  simp only[Zj];exact pc92 s ka la kd ld m i hs h0 h1 hta htd q92
 | false=>
  simp only[Zi];cases q32:Z2 s i==32 with
  |true=>
   simp only[Zj];exact pc32 s ka la kd ld m i hs h0 h1 hta htd q92 q32
  | false=>
   simp only[Zi];cases q10:Z2 s i==10 with
   |true=>
    simp only[Zj];exact pc10 s ka la kd ld m i hs h0 h1 hta htd q92 q32 q10
   | false=>
    simp only[Zi];cases q38:Z2 s i==38 with
    |true=>
     simp only[Zj];exact pc38 s ka la kd ld m i hs h0 h1 hta htd q92 q32 q10 q38
    | false=>
     simp only[Zi];cases q36:Z2 s i==36 with
     |true=>
      simp only[Zj];exact pc36 s ka la kd ld m i hs h0 h1 hta htd q92 q32 q10 q38 q36
     | false=>
      simp only[Zi];cases q96:Z2 s i==96 with
      |true=>
       simp only[Zj];exact pc96 s ka la kd ld m i hs h0 h1 hta htd q92 q32 q10 q38 q36 q96
      | false=>
       simp only[Zi];cases q60:Z2 s i==60 with
       |true=>
        simp only[Zj];exact pc60 s ka la kd ld m i hs h0 h1 hta htd q92 q32 q10 q38 q36 q96 q60
       | false=>
        simp only[Zi];cases q123:Z2 s i==123 with
        |true=>
         simp only[Zj];exact pc123 s ka la kd ld m i hs h0 h1 hta htd q92 q32 q10 q38 q36 q96 q60 q123
        | false=>
         simp only[Zi];cases q91:Z2 s i==91 with
         |true=>
          simp only[Zj];exact pc91 s ka la kd ld m i hs h0 h1 hta htd q92 q32 q10 q38 q36 q96 q60 q123 q91
         | false=>
          simp only[Zi];cases q33:Z2 s i==33 with
          |true=>
           simp only[Zj];exact pc33 s ka la kd ld m i hs h0 h1 hta htd q92 q32 q10 q38 q36 q96 q60 q123 q91 q33
          | false=>
           simp only[Zi];cases q93:Z2 s i==93 with
           |true=>
            simp only[Zj];exact pc93 s ka la kd ld m i hs h0 h1 hta htd q92 q32 q10 q38 q36 q96 q60 q123 q91 q33 q93
           | false=>
            simp only[Zi];cases q42:Z2 s i==42 with
            |true=>
             simp only[Zj];exact pc42 s ka la kd ld m i hs h0 h1 hta htd q92 q32 q10 q38 q36 q96 q60 q123 q91 q33 q93 q42
            | false=>
             simp only[Zi];cases q95:Z2 s i==95 with
             |true=>
              simp only[Zj];exact pc95 s ka la kd ld m i hs h0 h1 hta htd q92 q32 q10 q38 q36 q96 q60 q123 q91 q33 q93 q42 q95
             | false=>
              simp only[Zi];cases q126:Z2 s i==126 with
              |true=>
               simp only[Zj];exact pc126 s ka la kd ld m i hs h0 h1 hta htd q92 q32 q10 q38 q36 q96 q60 q123 q91 q33 q93 q42 q95 q126
              |false=>
               simp only[Zi];exact pc0 s ka la kd ld m i hs h0 h1 hta htd q92 q32 q10 q38 q36 q96 q60 q123 q91 q33 q93 q42 q95 q126
end
end Go.Proofs.YthbpjmogdonlkaaGreatDoor
namespace Go.Eng
section
variable {P:Xs}
end
end Go.Eng
namespace Go.Proofs.YthbpjmogdonlkaaGreatDoor
open Go Go.Eng
def pcH(s:Zc)(ka:H F)(la:H (H F))(kd:H F)(ld:H (H F))(i:F):DPiece:={(pceG s ka la kd ld i).1 with fAt:=i}
def rdY(s:Zc)(ka:H F)(la:H (H F))(kd:H F)(ld:H (H F))(m:F):H (E×Jk):=[(1000,rdX s ka la kd ld),glM m]
def pcs1G_to(s:Zc)(ka:H F)(la:H (H F))(kd:H F)(ld:H (H F))(m i:F)(hs:s.size<=1073741824)(h0:0<=i)(h1:i<s.size)(hta:TkOk s la)(htd:TkOk s ld):
  Va1 Zg 89 [jI i,.ptr 1000 0] (rdY s ka la kd ld m) [] (.av (.tup [Vby (pcH s ka la kd ld i),vB (pceG s ka la kd ld i).2])) (rdY s ka la kd ld m) []:=by
 have k:=pceG_to s ka la kd ld m i hs h0 h1 hta htd;unfold pcH;generalize pceG s ka la kd ld i=r at k ⊢;refine bGs Tryz.func89 ?_;refine gO (tn 4<|kg k Zm<|tn 13 z) ?_;exact eNs
def RnsTo(s:Zc)(ka:H F)(la:H (H F))(kd:H F)(ld:H (H F)):Prop:=Va1 Zg 88 [jS s] [] [] (.av (.agg [.im ka (tkV la),.im kd (tkV ld)])) [] []
def pisG_to(s:Zc)(ka:H F)(la:H (H F))(kd:H F)(ld:H (H F))(hr:RnsTo s ka la kd ld):Vml Zg 51 [jS s] [(3,rdX s ka la kd ld)] (.fn 89 [] [.ptr 3 0]):=by
 unfold RnsTo at hr;refine BEGn Tryz.func51 kx ?_;refine gO (m8 hr n8) ?_;exact eNs
def Bd(s:Zc)(i:F)(r:Zf×F):Prop:=r.2=0\/(i<r.2/\r.2<=3*s.size+10)
def Bd.mk{s:Zc}{i:F}{x:Zf}{e:F}(h:i<e)(h2:e<=3*s.size+10):Bd s i (x,e):=.inr ⟨h,h2⟩
def bslP_bd(s:Zc)(i:F)(h0:0<=i)(h1:i<s.size):Bd s i (bslP s i):=by
 have hb:=Vc4 s (i+2) kv;unfold bslP
 repeat' (first|exact .inl rfl|exact Bd.mk kv kv|refine Va5 (Bd s i) (λ_=>?_) (λ_=>?_))
def nmdP_bd(s:Zc)(i:F)(h0:0<=i)(h1:i<s.size):Bd s i (nmdP s i):=by
 have hb:=Vg0 s (i+2) kv;unfold nmdP
 repeat' (first|exact .inl rfl|exact Bd.mk kv kv|refine Va5 (Bd s i) (λ_=>?_) (λ_=>?_))
def dolG_bd(s:Zc)(i:F)(h0:0<=i)(h1:i<s.size):Bd s i (dolG s i):=by
 have hz:=Vai s (Zb (i+1)) s.size;have hb:=Vlj (Za s (Zb (i+1)) (Zd s)) ⟨#[36,10]⟩;unfold dolG;refine Va5 (Bd s i) (λ_=>.inl rfl) (λq=>?_);have q:=Zh q
 repeat' (first|exact .inl rfl|exact Bd.mk kv kv|refine Va5 (Bd s i) (λ_=>?_) (λ_=>?_))
def cteG_bd(s:Zc)(i:F)(h0:0<=i)(h1:i<s.size):Bd s i (cteG s i):=by
 have hz:=Vai s (Zb (i+1)) s.size;have hb:=Vlj (Za s (Zb (i+1)) (Zd s)) ⟨#[91,93]⟩;unfold cteG;refine Va5 (Bd s i) (λ_=>.inl rfl) (λq=>?_);obtain⟨q,_⟩:=Va8 q;have q:=Zh q
 repeat' (first|exact .inl rfl|exact Bd.mk kv kv|refine Va5 (Bd s i) (λ_=>?_) (λ_=>?_))
def Vf2(s:Zc)(i:F)(h0:0<=i)(h1:i<s.size):i+1<=runE s i:=by
 have hd:Zn (i<((Zd s:E):F))=true:=Xc h1;have hr:∀ n,Q5 s i (n+1) i=Q5 s i n (i+1):=λn=>by rw[Q5,hd];simp
 have hf:∀(n:E)(v:F),0<=v->s.size-v.toNat<n->v<=Q5 s i n v:=by
  intro n v hv hn;refine(Vf0 s (Q5 s i) (λn v=>?_) n v hv hn).1;rw[Q5];refine Va5 (λr:F=>r=v\/(v<(s.size:F)/\r=Q5 s i n (v+1))) (λq=>Va5 (λr:F=>r=v\/(v<(s.size:F)/\r=Q5 s i n (v+1))) (λ_=>.inr ⟨Zo q,rfl⟩) (λ_=>.inl rfl)) (λq=>.inl rfl)
 unfold runE;obtain⟨n,hn⟩:∃ n,s.size-Zb i=n+1:=⟨s.size-Zb i-1,kv⟩
 rw[hn,hr];exact hf _ _ kv kv
def codP_bd(s:Zc)(ka:H F)(la:H (H F))(i:F)(h0:0<=i)(h1:i<s.size)(h:TkOk s la):Bd s i (codP s ka la i):=by
 have hb:=Vf3 s i h0;unfold codP;refine Va5 (Bd s i) (λ_=>.inl rfl) (λq=>?_);have q:=Zh q;have h2:=codJ_bd (ka:=ka) i h q;have h3:=Vf2 s i h0 h1;exact Bd.mk kv kv
def mtcP_bd(s:Zc)(kd:H F)(ld:H (H F))(i:F)(h0:0<=i)(h1:i<s.size)(h:TkOk s ld):Bd s i (mtcP s kd ld i):=by
 have hb:=Vf3 s (i+1) kv;unfold mtcP;refine Va5 (Bd s i) (λ_=>.inl rfl) (λ_=>Va5 (Bd s i) (λ_=>.inl rfl) (λq=>?_));have q:=Zh q;have h2:=mtcJ_bd (kd:=kd) i h q;exact Bd.mk (by unfold mtcN;omega) (by unfold mtcN;omega)
def Vnv(s:Zc)(i v6:F)(k0:F->(Zf×F))(h0:0<=i):∀(n:E)(w:F),i<w->Bd s i (autP_L1 s i v6 k0 n w)
 |0,w,_=>.inl rfl
 |n+1,w,h=>by
  rw[autP_L1];refine Va5 (Bd s i) (λ_=>Vnv s i v6 k0 h0 n _ kv) (λ_=>Va5 (Bd s i) (λ_=>.inl rfl) (λq=>?_));obtain⟨q,_⟩:=Va8 q;have q:=Zh q;exact Bd.mk kv kv
def Vnx(s:Zc)(i:F)(h0:0<=i):∀(n:E)(w:F),i<w->Bd s i (autP_L0 s i n w)
 |0,w,_=>.inl rfl
 |n+1,w,h=>by
  rw[autP_L0];exact Va5 (Bd s i) (λ_=>Vnx s i h0 n _ kv) (λ_=>Va5 (Bd s i) (λ_=>.inl rfl) (λ_=>Vnv s i _ _ h0 _ _ h))
def autP_bd(s:Zc)(i:F)(h0:0<=i):Bd s i (autP s i):=Vnx s i h0 _ _ kv
def usL_bd(s t:Zc)(i:F)(h0:0<=i):∀(n:E)(v:F)(l:H Zc),i<v->v<=s.size+1->Bd s i (usL s t n v l)
 |0,v,l,_,_=>.inl rfl
 |n+1,v,l,h,h2=>by
  rw[usL];refine Va5 (Bd s i) (λq=>Va5 (Bd s i) (λ_=>.inl rfl) (λ_=>?_)) (λ_=>Va5 (Bd s i) (λ_=>.inl rfl) (λ_=>Bd.mk kv kv));have q:=Zo (Va9 q).1;have hb:=usE_bd s (v+1) kv;exact usL_bd s t i h0 n _ _ kv kv
def useP_bd(s:Zc)(i:F)(h0:0<=i)(h1:i<s.size):Bd s i (useP s i):=by
 have hb:=Vg0 s (i+2) kv;unfold useP;exact Va5 (Bd s i) (λ_=>.inl rfl) (λ_=>Va5 (Bd s i) (λ_=>.inl rfl) (λ_=>usL_bd s _ i h0 _ _ _ kv kv))
def refL_bd(s r:Zc)(i:F)(h0:0<=i)(h1:i<s.size):∀(m:E)(n k:F),2<=k->k<=9->Bd s i (refL r i m n k)
 |0,n,k,_,_=>.inl rfl
 |m+1,n,k,h,h2=>by
  rw[refL];refine Va5 (Bd s i) (λq=>?_) (λ_=>?_)
  ·unfold refC at q;have q:=Zo (Va9 (Va9 q).1).2;exact refL_bd s r i h0 h1 m _ _ kv kv
  ·unfold refT;exact Va5 (Bd s i) (λ_=>.inl rfl) (λ_=>Va5 (Bd s i) (λ_=>.inl rfl) (λ_=>Bd.mk kv kv))
def refP_bd(s:Zc)(i:F)(h0:0<=i)(h1:i<s.size):Bd s i (refP s i):=by
 unfold refP
 repeat' (first|exact .inl rfl|exact refL_bd s _ i h0 h1 _ _ _ kv kv|exact Bd.mk kv kv|refine Va5 (Bd s i) (λ_=>?_) (λ_=>?_))
def Pd(s:Zc)(i:F)(r:Z5×Qj):Prop:=i<r.1.fTo/\r.1.fTo<=3*s.size+10
def Vgy{s:Zc}{i:F}{x:Zf×F}{r:Z5×Qj}(hx:Bd s i x)(hr:Pd s i r):Pd s i (fdR x r):=by
 unfold fdR;refine Va5 (Pd s i) (λq=>?_) (λ_=>hr);have q:=Zo q;rcases hx with e|e
 ·omega
 ·exact e
def Vp3{s:Zc}{i e:F}(h:i<e)(h2:e<=3*s.size+10):Pd s i (litP s i e,Zs):=⟨h,h2⟩
def nxR_pd(s:Zc)(i:F)(h0:0<=i)(h1:i<s.size):Pd s i (nxR s i):=by
 have nb:=Vd2 s i h0 h1;exact Vp3 kv kv
def pcR_pd(s:Zc)(i k e:F)(g:Qj)(h:i<e)(h2:e<=3*s.size+10):Pd s i (pcR k g e):=⟨h,h2⟩
def runP_pd(s:Zc)(ka:H F)(va:H AV)(kd:H F)(vd:H AV)(i:F)(h0:0<=i)(h1:i<s.size):Pd s i (runP s ka va kd vd i):=by
 have h2:=Vf2 s i h0 h1;have h3:=Vf3 s i h0;unfold runP;exact Va5 (Pd s i) (λ_=>Vp3 kv kv) (λ_=>⟨by show i<runE s i;omega,by show runE s i<=_;omega⟩)
def skpS_lt(s:Zc)(i:F)(h0:0<=i)(h1:i<s.size)(hb:Z2 s i=32):i+1<=skpS s i:=by
 have hd:Zn (i<((Zd s:E):F))=true:=Xc h1;have he:(((Jc s (Zb i):E):F)==32)=true:=by unfold Z2 at hb;rw[hb];rfl
 have hr:∀ n,Qe s i (n+1) i=Qe s i n (i+1):=λn=>by rw[Qe,hd,he];rfl
 have hf:∀(n:E)(v:F),0<=v->s.size-v.toNat<n->v<=Qe s i n v:=by
  intro n v hv hn;refine(Vf0 s (Qe s i) (λn v=>?_) n v hv hn).1;rw[Qe];exact Va5 (λr:F=>r=v\/(v<(s.size:F)/\r=Qe s i n (v+1))) (λq=>.inr ⟨Zo (Va9 q).1,rfl⟩) (λq=>.inl rfl)
 unfold skpS;obtain⟨n,hn⟩:∃ n,s.size-Zb i=n+1:=⟨s.size-Zb i-1,kv⟩
 rw[hn,hr];exact hf _ _ kv kv
def skpS_at(s:Zc)(i:F)(h1:i<s.size)(hb:Z2 s i=10):skpS s i=i:=by
 have hd:Zn (i<((Zd s:E):F))=true:=Xc h1;have he:(((Jc s (Zb i):E):F)==32)=false:=by unfold Z2 at hb;rw[hb];rfl
 unfold skpS;rw[Qe,hd,he];rfl
def spR_pd(s:Zc)(i:F)(h0:0<=i)(h1:i<s.size)(hb:Z2 s i=32\/Z2 s i=10):Pd s i (spR s i):=by
 have hs:=Vc4 s i h0;have hs2:=Vc4 s (skpS s i+1) kv;have hN:=nxR_pd s i h0 h1;have h2:Pd s i (fdR (coI 2 ⟨#[]⟩,skpS s (skpS s i+1)) (nxR s i)):=Vgy (Bd.mk kv kv) hN;unfold spR;rcases hb with hb|hb
 ·have h3:=skpS_lt s i h0 h1 hb;exact Va5 (Pd s i) (λ_=>Vp3 kv kv) (λ_=>h2)
 ·have h3:=skpS_at s i h1 hb;refine Va5 (Pd s i) (λq=>?_) (λ_=>h2);exfalso;rw[h3,hb]at q;have hd:Zn (i>=((Zd s:E):F))=false:=Qk kv;rw[hd]at q;exact Yr q gj
def pceG_pd(s:Zc)(ka:H F)(la:H (H F))(kd:H F)(ld:H (H F))(i:F)(h0:0<=i)(h1:i<s.size)(hta:TkOk s la)(htd:TkOk s ld):Pd s i (pceG s ka la kd ld i):=by
 have hN:=nxR_pd s i h0 h1;have hE:=Vf2 s i h0 h1;have hE2:=Vf3 s i h0;unfold pceG;refine Va5 (Pd s i) (λ_=>Vgy (bslP_bd s i h0 h1) hN) (λ_=>?_);refine Va5 (Pd s i) (λq=>spR_pd s i h0 h1 (.inl (eq_of_beq q))) (λ_=>?_);refine Va5 (Pd s i) (λq=>spR_pd s i h0 h1 (.inr (eq_of_beq q))) (λ_=>?_);refine Va5 (Pd s i) (λ_=>Vgy (refP_bd s i h0 h1) hN) (λ_=>?_);refine Va5 (Pd s i) (λ_=>Vgy (mtcP_bd s kd ld i h0 h1 htd) (Vgy (dolG_bd s i h0 h1) hN)) (λ_=>?_);refine Va5 (Pd s i) (λ_=>Vgy (codP_bd s ka la i h0 h1 hta) (Vp3 kv kv)) (λ_=>?_);refine Va5 (Pd s i) (λ_=>Vgy (autP_bd s i h0) hN) (λ_=>?_);refine Va5 (Pd s i) (λ_=>Vgy (useP_bd s i h0 h1) hN) (λ_=>?_);refine Va5 (Pd s i) (λ_=>Vgy (nmdP_bd s i h0 h1) (Vgy (cteG_bd s i h0 h1) (pcR_pd s i _ _ _ kv kv))) (λ_=>?_);refine Va5 (Pd s i) (λ_=>Va5 (Pd s i) (λ_=>pcR_pd s i _ _ _ kv kv) (λ_=>hN)) (λ_=>?_);refine Va5 (Pd s i) (λ_=>pcR_pd s i _ _ _ kv kv) (λ_=>?_);refine Va5 (Pd s i) (λ_=>runP_pd s ka _ kd _ i h0 h1) (λ_=>?_);refine Va5 (Pd s i) (λ_=>runP_pd s ka _ kd _ i h0 h1) (λ_=>?_);exact Va5 (Pd s i) (λ_=>runP_pd s ka _ kd _ i h0 h1) (λ_=>hN)
def idxS_L0(s:H Zc)(v:Zc):E->E->F
 |0,_=>default
 |n0+1,v8=>Zu (Zn (((v8:E):F)<((lenM Vak s:E):F))) (Zu (eqs v (el s v8)) ((v8:E):F) (idxS_L0 s v n0 (v8+1))) (-1)
def idxS(s:H Zc)(v:Zc):Int:=idxS_L0 s v ((Qi s-0)+1) 0
def idxS_to(s:H Zc)(v:Zc)(hs:s.length<=1073741824):Va1 Zg 316 [(jL (s.map Vak)),(jS v)] [] [] (jI (idxS s v)) [] []:=by
 refine BEG (λr:F=>(jI r)) (idxS s v) Tryz.func316 kx ?_;refine UF (idxS.eq_1 ..) ?_;refine GO i7 kx ?_;refine LP (λN M S=>∃ v8:E,(Qi s-v8<N)/\M=idxS_L0 s v N v8/\S=(sx 19 [(0,(jL (s.map Vak))),(1,(jS v)),(7,(jI ((lenM Vak s:E):F))),(8,(jI ((v8:E):F)))] [] [])) kx ⟨_,kv,rfl,rfl⟩ (WK kx) ?_;rintro n0 M S ⟨v8,hF0,rfl,rfl⟩;obtain⟨n0,rfl⟩:∃ k,n0=k+1:=⟨n0-1,kv⟩
 refine UF (idxS_L0.eq_2 ..) ?_;refine GO m5 kx ?_;refine CSd (λh1p h1=>?_) (λh1p h1=>?_)
 ·have:=Va6 Vak s;refine GO (kb h1<|tn 5<|ke (Vi3 s v8 (by first|omega|(simp only[Va6,Qp];omega))) j6) kx ?_;refine CS (λh2=>?_) (λh2=>?_)
  ·refine GO (kb h2 j6) kx ?_;refine Jp z kx ?_;exact EN kx
  ·refine GO (kb h2<|kn (wrE (((v8:E):F)+1) ((v8+1:E):F) kv) m5) kx ?_;exact AG ⟨_,kv,rfl,rfl⟩ (WK kx) kx (Zv _)
 ·have:=Va6 Vak s;refine GO (kb h1 z) kx ?_;refine Jp m5 kx ?_;exact EN kx
def ctnS(s:H Zc)(v:Zc):Bool:=Zn ((idxS s v:F)>=0)
def ctnS_to(s:H Zc)(v:Zc)(hs:s.length<=1073741824):Va1 Zg 314 [(jL (s.map Vak)),(jS v)] [] [] (jB (ctnS s v)) [] []:=by
 refine BEG (λr:Qj=>(jB r)) (ctnS s v) Tryz.func314 kx ?_;refine UF (ctnS.eq_1 ..) ?_;refine GO (m8 (idxS_to s v ky) j6) kx ?_;exact EN kx
def getG_L0(a:Yn)(key:Zc):E->E->(Zc×Qj)
 |0,_=>default
 |n0+1,v11=>Zu (Zn (((v11:E):F)<((lenM Vaz a.fPairs:E):F))) (Zu (eqs ((el a.fPairs v11).fKey) key) ((el a.fPairs v11).fValue,Zs) (getG_L0 a key n0 (v11+1))) (⟨#[]⟩,Ze)
def getG(a:Yn)(key:Zc):(Zc×Qj):=getG_L0 a key ((Qi a.fPairs-0)+1) 0
def getG_to(a:Yn)(key:Zc)(hc:a.fClasses.length<=1073741824)(hp:a.fPairs.length<=1073741824):Va1 Zg 304 [(.av (Vph a)),(jS key)] [] [] (.av (.tup [(vS ((getG a key).1)),(vB ((getG a key).2))])) [] []:=by
 refine BEG (λr:(Zc×Qj)=>(.av (.tup [(vS r.1),(vB r.2)]))) (getG a key) Tryz.func304 kx ?_;refine UF (getG.eq_1 ..) ?_;refine gO lq ?_;refine LP (λN M S=>∃ v11:E,(Qi a.fPairs-v11<N)/\M=getG_L0 a key N v11/\S=(sx 22 [(1,(jS key)),(9,(jL (a.fPairs.map Vaz))),(10,(jI ((lenM Vaz a.fPairs:E):F))),(11,(jI ((v11:E):F)))] [] [])) kx ⟨_,kv,rfl,rfl⟩ (WK kx) ?_;rintro n0 M S ⟨v11,hF0,rfl,rfl⟩;obtain⟨n0,rfl⟩:∃ k,n0=k+1:=⟨n0-1,kv⟩
 refine UF (getG_L0.eq_2 ..) ?_;refine gO m5 ?_;refine CSd (λh1p h1=>?_) (λh1p h1=>?_)
 ·have:=Va6 Vaz a.fPairs;refine gO (kb h1<|ke (Vkb a.fPairs v11 (by first|omega|(simp only[Va6,Qp];omega))) lq) ?_;refine CS (λh2=>?_) (λh2=>?_)
  ·refine gO (kb h2 i7) ?_;refine Jp z kx ?_;exact EN kx
  ·refine gO (kb h2<|kn (wrE (((v11:E):F)+1) ((v11+1:E):F) kv) m5) ?_;exact AG ⟨_,kv,rfl,rfl⟩ (WK kx) kx (Zv _)
 ·have:=Va6 Vaz a.fPairs;refine gO (kb h1 z) ?_;refine Jp j6 kx ?_;exact EN kx
def hasG(a:Yn)(c:Zc):Bool:=ctnS a.fClasses c
def hasG_to(a:Yn)(c:Zc)(hc:a.fClasses.length<=1073741824)(hp:a.fPairs.length<=1073741824):Va1 Zg 303 [(.av (Vph a)),(jS c)] [] [] (jB (hasG a c)) [] []:=by
 refine BEG (λr:Qj=>(jB r)) (hasG a c) Tryz.func303 kx ?_;refine UF (hasG.eq_1 ..) ?_;refine gO (vq (ctnS_to a.fClasses c ky) m5) ?_;exact EN kx
def kA:Key:=(1301,10)
def kP:Key:=(1302,169)
def atG(i:E)(a:Yn):E×ABox:=(i,.cells 39 [jS a.fID,.own kA a.fClasses.length 1 (a.fClasses.map Vak),.own kP a.fPairs.length 2 (a.fPairs.map Vaz)])
def gnA(a:Yn):H (Key×E):=[(kA,a.fClasses.length),(kP,a.fPairs.length)]
def okAG(i:E)(a:Yn):∀ p∈[atG i a],∀s∈p.2.svs,Qc [i] (gnA a) s:=by
 intro p hp s hs;simp only[Zl,Zk,Z0]at hp;subst hp;simp only[atG,ABox.svs,Zl,Zk,Z0]at hs;rcases hs with rfl|rfl|rfl
 ·simp[Qc,Yq]
 ·simp[Qc,gnA,kA,kP,Qu]
 ·simp[Qc,gnA,kA,kP,Qu];rfl
def Few(a:Yn):Prop:=a.fClasses.length<=40/\a.fPairs.length<=40
def addC(a:Yn)(y:Zc):DAttr:=⟨a.fID,a.fClasses++[y],a.fPairs⟩
def addP(a:Yn)(y v:Zc):DAttr:=⟨a.fID,a.fClasses,a.fPairs++[⟨y,v⟩]⟩
def aclG(a:Yn)(y:Zc):F×DAttr:=Zu (hasG a y) (7,a) (Zu (Zn (((a.fClasses.map Vak).length:F)>=32)) (3,a) (0,addC a y))
def aprG(a:Yn)(y v:Zc):F×DAttr:=Zu (getG a y).2 (7,a) (Zu (Zn (((a.fPairs.map Vaz).length:F)>=32)) (3,a) (0,addP a y v))
def aclG_to(a:Yn)(y:Zc)(ha:Few a):Va1 Zg 282 [.ptr 1000 0,jS y] [atG 1000 a] (gnA a) (jI (aclG a y).1) [atG 1000 (aclG a y).2] (gnA (aclG a y).2):=by
 have hh:=hasG_to a y (by have:=ha.1;omega) (by have:=ha.2;omega);unfold aclG;cases hb:hasG a y with
 |true=>
  simp only[Zj];refine J8 (λ_:Jt=>jI 7) () I7 kx (by simp[atG]) (by simp[kA,kP,gnA]) (by simp[Qc,Yq,atG]) (okAG 1000 a) (by simp[Qc,Yq]) (okAG 1000 a) rfl rfl ?_ (by simp[atG]);refine gO (vq hh<|kb hb m5) ?_;refine J7 kx ?_ ?_
  all_goals (intro p hp;simp only[gnA,Zl,Zk,Z0]at hp;rcases hp with rfl|rfl <;>kernel_rfl)
 | false=>
  simp only[Zi];cases hd:Zn (((a.fClasses.map Vak).length:F)>=32)with
  |true=>
   simp only[Zj];refine J8 (λ_:Jt=>jI 3) () I7 kx (by simp[atG]) (by simp[kA,kP,gnA]) (by simp[Qc,Yq,atG]) (okAG 1000 a) (by simp[Qc,Yq]) (okAG 1000 a) rfl rfl ?_ (by simp[atG]);refine gO (vq hh<|kb hb<|zq hd m5) ?_;refine J7 kx ?_ ?_
   all_goals (intro p hp;simp only[gnA,Zl,Zk,Z0]at hp;rcases hp with rfl|rfl <;>kernel_rfl)
  | false=>
   simp only[Zi];have hu:Da 1 [vS y]:=Vim rfl rfl;have hap:a.fClasses.length=a.fClasses.length/\Da 1 [vS y]/\((a.fClasses.map Vak).length+([vS y]:H AV).length)*16<=140737488355328:=⟨rfl,hu,by have:=ha.1;simp;omega⟩
   have e1:(addC a y).fClasses.length=a.fClasses.length+1:=by simp[addC]
   have e2:((a.fClasses.map Vak)++[vS y]:H AV)=((addC a y).fClasses).map Vak:=by simp[addC,Vak]
   refine J8 (λ_:Jt=>jI 0) () I7 kx (by simp[atG]) (by simp[kA,kP,gnA]) (by simp[Qc,Yq,atG]) (okAG 1000 a) (by simp[Qc,Yq]) (okAG 1000 (addC a y)) rfl rfl ?_ (by simp[atG]);refine gO (vq hh<|kb hb<|zq hd<|nq hu<|kp hap<|kw e2 i7) ?_;refine J7 kx ?_ ?_
   ·intro p hp;simp only[Zl,Zk,Z0]at hp;subst hp;unfold atG;rw[e1];kernel_rfl
   ·intro p hp;simp only[gnA,Zl,Zk,Z0]at hp;rcases hp with rfl|rfl
    ·rw[e1];kernel_rfl
    ·kernel_rfl
def aprG_to(a:Yn)(y v:Zc)(ha:Few a):Va1 Zg 284 [.ptr 1000 0,jS y,jS v] [atG 1000 a] (gnA a) (jI (aprG a y v).1) [atG 1000 (aprG a y v).2] (gnA (aprG a y v).2):=by
 have hh:=getG_to a y (by have:=ha.1;omega) (by have:=ha.2;omega);unfold aprG;cases hb:(getG a y).2 with
 |true=>
  simp only[Zj];refine J8 (λ_:Jt=>jI 7) () I6 kx (by simp[atG]) (by simp[kA,kP,gnA]) (by simp[Qc,Yq,atG]) (okAG 1000 a) (by simp[Qc,Yq]) (okAG 1000 a) rfl rfl ?_ (by simp[atG]);refine gO (vq hh<|zq hb m5) ?_;refine J7 kx ?_ ?_
  all_goals (intro p hp;simp only[gnA,Zl,Zk,Z0]at hp;rcases hp with rfl|rfl <;>kernel_rfl)
 | false=>
  simp only[Zi];cases hd:Zn (((a.fPairs.map Vaz).length:F)>=32)with
  |true=>
   simp only[Zj];refine J8 (λ_:Jt=>jI 3) () I6 kx (by simp[atG]) (by simp[kA,kP,gnA]) (by simp[Qc,Yq,atG]) (okAG 1000 a) (by simp[Qc,Yq]) (okAG 1000 a) rfl rfl ?_ (by simp[atG]);refine gO (vq hh<|zq hb<|zq hd m5) ?_;refine J7 kx ?_ ?_
   all_goals (intro p hp;simp only[gnA,Zl,Zk,Z0]at hp;rcases hp with rfl|rfl <;>kernel_rfl)
  | false=>
   simp only[Zi];have hu:Da 2 [Vaz ⟨y,v⟩]:=Vim rfl rfl;have hap:a.fPairs.length=a.fPairs.length/\Da 2 [Vaz ⟨y,v⟩]/\((a.fPairs.map Vaz).length+([Vaz ⟨y,v⟩]:H AV).length)*32<=140737488355328:=⟨rfl,hu,by have:=ha.2;simp;omega⟩
   have e1:(addP a y v).fPairs.length=a.fPairs.length+1:=by simp[addP]
   have e2:((a.fPairs.map Vaz)++[Vaz ⟨y,v⟩]:H AV)=((addP a y v).fPairs).map Vaz:=by simp[addP]
   refine J8 (λ_:Jt=>jI 0) () I6 kx (by simp[atG]) (by simp[kA,kP,gnA]) (by simp[Qc,Yq,atG]) (okAG 1000 a) (by simp[Qc,Yq]) (okAG 1000 (addP a y v)) rfl rfl ?_ (by simp[atG]);refine gO (vq hh<|zq hb<|zq hd<|tn 8<|kp hu<|kp hap<|kw e2 i7) ?_;refine J7 kx ?_ ?_
   ·intro p hp;simp only[Zl,Zk,Z0]at hp;subst hp;unfold atG;rw[e1];kernel_rfl
   ·intro p hp;simp only[gnA,Zl,Zk,Z0]at hp;rcases hp with rfl|rfl
    ·kernel_rfl
    ·rw[e1];kernel_rfl
def byt_ne0{s:Zc}{j:E}(h:Jc s j≠0):j<s.size:=by
 rcases Xe j s.size with h2|h2
 ·exact h2
 ·exfalso;apply h
  show(s.data.getD j 0).toNat=0;have:s.data[j]? =none:=Ih h2;rw[Array.getD_eq_getD_getElem?,this];rfl
def rdv0_to(s:Zc)(i:F)(hs:s.size<=1073741824)(h0:0<=i)(h1:i+1<s.size)(hb:Z2 s i=34)(hb1:Z2 s (i+1)=34):Va1 Zg 283 [jS s,jI i] [] [] (.av (.tup [vS e0,vI (i+2),vB (clnG e0)])) [] []:=by
 have hst:Va1 Zg 38 [.ptr 7 0] [(7,.cells 80 [.av (.val (.pointer Zp)),.nil])] [] (jS e0) [(7,.cells 80 [.av (.val (.pointer Zp)),.nil])] []:=Vcz kx (Vac (Vah (7,0) (1000,0) rfl) (Vo2 (.av (.val (.pointer Zp)))));have hcl:=clnG_to e0 gj;have d1:Zn (i>=((Zd s:E):F))=false:=Qk kv;have d2:(Z2 s i !=34)=false:=by rw[hb];rfl
 have d3:Zn (i+1<((Zd s:E):F))=true:=Xc kv;have d4:(Z2 s (i+1)==34)=true:=by rw[hb1];rfl
 have w1:=wrE (i+1) (i+1) kv;have w2:=wrE (i+1+1) (i+2) kv;refine bG Tryz.func283 ?_;refine gO (tn 8<|kb d1<|m0 d1<|m0 d1<|kp (ib s i ⟨h0,kv⟩)<|kb d1<|m0 d1<|kb d2<|p8 w1 m5) ?_;refine uN (sx 78 [(0,jS s),(1,jI i),(7,.ptr 7 0),(8,jI (i+1))] [(7,.cells 80 [.av (.val (.pointer Zp)),.nil])] []) 1 ?_;refine gO (i8 d3<|p7 (ib s (i+1) ⟨kv,kv⟩)<|z6 d4<|kg hst Zm<|m6 w2<|kg hst Zm<|kc hcl i6) ?_;refine uO z ?_;exact eN
def rdvG(s:Zc)(i:F):Zc×F×Bool:=Zu (Zu (Z2 s i==34) (Z2 s (i+1)==34) Ze) (e0,i+2,clnG e0) (rdvN s i)
def rdvG_to(s:Zc)(i:F)(hs:s.size<=1073741824)(h0:0<=i)(h1:i<=s.size):Va1 Zg 283 [jS s,jI i] [] [] (.av (.tup [vS (rdvG s i).1,vI (rdvG s i).2.1,vB (rdvG s i).2.2])) [] []:=by
 unfold rdvG;cases hb:Zu (Z2 s i==34) (Z2 s (i+1)==34) Ze with
 | true=>
  simp only[Zj];have hq:Z2 s i=34/\Z2 s (i+1)=34:=by
   cases h:Z2 s i==34 with
   |false=>rw[h]at hb;simp at hb
   |true=>rw[h,Zj]at hb;exact⟨eq_of_beq h,eq_of_beq hb⟩
  refine rdv0_to s i hs h0 ?_ hq.1 hq.2;have h2:=hq.2;unfold Z2 at h2;have:Jc s (Zb (i+1))≠0:=kv;have:=byt_ne0 this;omega
 |false=>
  simp only[Zi];refine rdvN_to s i hs h0 h1 (λh=>?_);have h':(Z2 s i==34)=true:=by unfold Z2;rw[h];rfl
  rw[h',Zj]at hb;exact Ii hb
def TV(s:Zc)(i:F)(r:Zc×F×Qj):Prop:=TB s r/\(r.2.2=Zs->i<=r.2.1)
def TV0(s:Zc)(i:F):TV s i (⟨#[]⟩,0,Ze):=⟨TB0 s,λh=>by simp at h⟩
def Vix(s:Zc)(i:F)(h0:0<=i):∀(n:E)(v:F)(b:Zc),i+1<=v->v<=s.size+1->(b.size:F)<=v-i-1->s.size-v.toNat<n->TV s i (rdvN_L0 s i n v b)
 |0,v,b,_,_,_,h=>by omega
 |n+1,v,b,h1,h2,h3,h4=>by
  rw[rdvN_L0];refine Va5 (TV s i) (λq=>?_) (λ_=>TV0 s i);have q:=Zo q;refine Va5 (TV s i) (λ_=>⟨⟨by show 0<=v+1;omega,by show v+1<=_;omega,by show(b.size:F)<=_;omega⟩,λ_=>by show i<=v+1;omega⟩) (λ_=>Va5 (TV s i) (λ_=>?_) (λ_=>?_))
  ·refine Va5 (TV s i) (λ_=>TV0 s i) (λq2=>?_);obtain⟨q2,_⟩:=Va8 q2;have q2:=Zh q2;exact Vix s i h0 n _ _ kv kv (by rw[Jd];omega) kv
  ·exact Vix s i h0 n _ _ kv kv (by rw[Jd];omega) kv
def rdvG_bd(s:Zc)(i:F)(h0:0<=i)(h1:i<=s.size):TV s i (rdvG s i):=by
 unfold rdvG;refine Va5 (TV s i) (λq=>?_) (λ_=>?_)
 ·have hq:Z2 s (i+1)=34:=by
   cases h:Z2 s i==34 with
   |false=>rw[h]at q;simp at q
   |true=>rw[h,Zj]at q;exact eq_of_beq q
  unfold Z2 at hq;have:Jc s (Zb (i+1))≠0:=kv;have:=byt_ne0 this;exact⟨⟨by show 0<=i+2;omega,by show i+2<=_;omega,by show((0:E):F)<=_;omega⟩,λ_=>by show i<=i+2;omega⟩
 ·unfold rdvN;refine Va5 (TV s i) (λq=>?_) (λq=>?_)
  ·have h2:=Vke s (min i ((Zd s:E):F)) kv;have h3:=Vai s (Zb (min i ((Zd s:E):F))) (Zb (wrdA s (min i ((Zd s:E):F))));exact⟨⟨by show 0<=wrdA s _;omega,by show wrdA s _<=_;omega,by show((Zd (Za s _ _):E):F)<=_;rw[h3];omega⟩,λ_=>by show i<=wrdA s _;omega⟩
  ·obtain⟨q1,_⟩:=Va8 q;have q1:=Zh q1;exact Vix s i h0 _ _ _ kv kv (by show((0:E):F)<=_;omega) kv
def nmI(s:Zc)(i:F):Int:=Zu (Zu (Z2 s i==35) Zs (Z2 s i==46)) (i+1) i
def toI(s:Zc)(i:F):Int:=wrdA s (nmI s i)
def naI(s:Zc)(i:F):ByteArray:=Za s (Zb (nmI s i)) (Zb (toI s i))
def setI(a:Yn)(y:Zc):DAttr:=⟨y,a.fClasses,a.fPairs⟩
def rdiV(s:Zc)(i:F)(a:Yn):(F×F)×DAttr:=Zu (!(rdvG s (toI s i+1)).2.2) ((0,5),a) (((rdvG s (toI s i+1)).2.1,(aprG a (naI s i) (rdvG s (toI s i+1)).1).1),(aprG a (naI s i) (rdvG s (toI s i+1)).1).2)
def rdiE(s:Zc)(i:F)(a:Yn):(F×F)×DAttr:=Zu (Zu (Zn (toI s i>=((Zd s:E):F))) Zs (Z2 s (toI s i) !=61)) ((0,5),a) (rdiV s i a)
def rdiG(s:Zc)(i:F)(a:Yn):(F×F)×DAttr:=
 Zu (!namA (naI s i)) ((0,5),a) (Zu (Z2 s i==35) (Zu (!eqs a.fID e0) ((0,7),a) ((toI s i,0),setI a (naI s i)))
  (Zu (Z2 s i==46) ((toI s i,(aclG a (naI s i)).1),(aclG a (naI s i)).2) (rdiE s i a)))
def rdiG_to(s:Zc)(i:F)(a:Yn)(ha:Few a)(hs:s.size<=1073741824)(h0:0<=i)(h1:i<s.size):
  Va1 Zg 243 [.ptr 1000 0,jS s,jI i] [atG 1000 a] (gnA a) (.av (.tup [vI (rdiG s i a).1.1,vI (rdiG s i a).1.2])) [atG 1000 (rdiG s i a).2] (gnA (rdiG s i a).2):=by
 have hib:=ib s i ⟨h0,h1⟩;have hn1:i<=nmI s i/\nmI s i<=s.size:=by unfold nmI;cases(Zu (Z2 s i==35) Zs (Z2 s i==46)) <;>simp <;>omega
 have hto:=Vke s (nmI s i) kv;have hto2:nmI s i<=toI s i/\toI s i<=s.size:=by unfold toI;omega
 have k1:Va1 Zg 227 [jS s,jI (nmI s i)] [] [] (jI (toI s i)) [] []:=wrdA_to s (nmI s i) hs kv kv;have hsl:0<=nmI s i/\nmI s i<=toI s i/\toI s i<=((Zd s:E):F):=⟨kv,hto2.1,hto2.2⟩
 have hnz:(naI s i).size<=s.size:=by unfold naI;rw[Vai];omega
 have k2:=Vdl (naI s i) kv;have hbeg:∀(z:F×F)(a':Yn),Nx Zg (KE Zg Tryz.f243 (λ_:Jt=>.av (.tup [vI z.1,vI z.2])) [atG 1000 a'] (gnA a')) () (Go.Eng.start (Vbf Tryz.f243) ⟨[.ptr 1000 0,jS s,jI i]++Ju (Tryz.f243.ntmps-[SV.ptr 1000 0,jS s,jI i].length) .junk,[atG 1000 a],gnA a⟩)->
   Va1 Zg 243 [.ptr 1000 0,jS s,jI i] [atG 1000 a] (gnA a) (.av (.tup [vI z.1,vI z.2])) [atG 1000 a'] (gnA a'):=λz a' h=>
  J8 (λ_:Jt=>.av (.tup [vI z.1,vI z.2])) () Tryz.func243 kx (by simp[atG]) (by simp[kA,kP,gnA]) (by simp[Qc,Yq,atG]) (okAG 1000 a) (by simp[Qc,Yq]) (okAG 1000 a') rfl rfl h (by simp[atG])
 have w1:IntKind.i64.wrap (i+1)=i+1:=wrE (i+1) (i+1) kv;unfold rdiG rdiE rdiV;cases c1:Z2 s i==35 with
 | true=>
  have en:nmI s i=i+1:=by unfold nmI;rw[c1];rfl
  rw[en]at k1 hsl;have en2:naI s i=(Za s (Zb (i+1)) (Zb (toI s i))):=by unfold naI;rw[en]
  rw[en2]at k2 ⊢;cases hn:namA (Za s (Zb (i+1)) (Zb (toI s i)))with
  |false=>
   simp only[Yu,Zj];refine hbeg (0,5) a ?_;refine gO (z8 hib<|i8 c1<|kb c1<|kb c1<|kb (b:=Zs) (d:=Zs) rfl<|m6 w1<|m8 k1<|z8 hsl<|j7 k2<|m0 (b:= !namA (Za s (Zb (i+1)) (Zb (toI s i)))) (d:=Zs) (by rw[hn];rfl) j6) ?_;refine J7 kx ?_ ?_
   all_goals (intro p hp;simp only[gnA,Zl,Zk,Z0]at hp;rcases hp with rfl|rfl <;>kernel_rfl)
  | true=>
   simp only[Y4,Zj,Zi];cases he:eqs a.fID e0 with
   |false=>
    simp only[Yu,Zj];refine hbeg (0,7) a ?_;refine gO (z8 hib<|i8 c1<|kb c1<|kb c1<|kb (b:=Zs) (d:=Zs) rfl<|m6 w1<|m8 k1<|z8 hsl<|j7 k2<|m0 (b:= !namA (Za s (Zb (i+1)) (Zb (toI s i)))) (d:=Ze) (by rw[hn];rfl)<|w7 c1<|o9 (b:= !eqs a.fID e0) (d:=Zs) (by rw[he];rfl) j6) ?_;refine J7 kx ?_ ?_
    all_goals (intro p hp;simp only[gnA,Zl,Zk,Z0]at hp;rcases hp with rfl|rfl <;>kernel_rfl)
   |true=>
    simp only[Y4,Zi];refine hbeg (toI s i,0) (setI a (Za s (Zb (i+1)) (Zb (toI s i)))) ?_;refine gO (z8 hib<|i8 c1<|kb c1<|kb c1<|kb (b:=Zs) (d:=Zs) rfl<|m6 w1<|m8 k1<|z8 hsl<|j7 k2<|m0 (b:= !namA (Za s (Zb (i+1)) (Zb (toI s i)))) (d:=Ze) (by rw[hn];rfl)<|w7 c1<|o9 (b:= !eqs a.fID e0) (d:=Ze) (by rw[he];rfl)<|tn 8 z) ?_;refine J7 kx ?_ ?_
    all_goals (intro p hp;simp only[gnA,Zl,Zk,Z0]at hp;rcases hp with rfl|rfl <;>kernel_rfl)
 | false=>
  simp only[Zi];cases c2:Z2 s i==46 with
  | true=>
   have en:nmI s i=i+1:=by unfold nmI;rw[c1,c2];rfl
   have c12:Zu (Z2 s i==35) Zs (Z2 s i==46)=true:=by rw[c1,c2];rfl
   rw[en]at k1 hsl;have en2:naI s i=(Za s (Zb (i+1)) (Zb (toI s i))):=by unfold naI;rw[en]
   rw[en2]at k2 ⊢;simp only[Zj];cases hn:namA (Za s (Zb (i+1)) (Zb (toI s i)))with
   |false=>
    simp only[Yu,Zj];refine hbeg (0,5) a ?_;refine gO (z8 hib<|i8 c1<|m0 c1<|m0 c1<|kb c2<|m6 w1<|m8 k1<|z8 hsl<|j7 k2<|m0 (b:= !namA (Za s (Zb (i+1)) (Zb (toI s i)))) (d:=Zs) (by rw[hn];rfl) j6) ?_;refine J7 kx ?_ ?_
    all_goals (intro p hp;simp only[gnA,Zl,Zk,Z0]at hp;rcases hp with rfl|rfl <;>kernel_rfl)
   |true=>
    simp only[Y4,Zi];have k3:=aclG_to a (Za s (Zb (i+1)) (Zb (toI s i))) ha;refine hbeg (toI s i,(aclG a (Za s (Zb (i+1)) (Zb (toI s i)))).1) (aclG a (Za s (Zb (i+1)) (Zb (toI s i)))).2 ?_;refine gO (z8 hib<|i8 c1<|m0 c1<|m0 c1<|kb c2<|m6 w1<|m8 k1<|z8 hsl<|j7 k2<|m0 (b:= !namA (Za s (Zb (i+1)) (Zb (toI s i)))) (d:=Ze) (by rw[hn];rfl)<|w7 c1<|z6 c2<|tn 3<|kg k3 (show a.fClasses.length=a.fClasses.length/\a.fPairs.length=a.fPairs.length/\Qb from⟨rfl,rfl,Zm⟩) j6) ?_;refine J7 kx ?_ ?_
    all_goals (intro p hp;simp only[gnA,Zl,Zk,Z0]at hp;rcases hp with rfl|rfl <;>kernel_rfl)
  | false=>
   have en:nmI s i=i:=by unfold nmI;rw[c1,c2];rfl
   have c12:Zu (Z2 s i==35) Zs (Z2 s i==46)=false:=by rw[c1,c2];rfl
   rw[en]at k1 hsl;have en2:naI s i=(Za s (Zb i) (Zb (toI s i))):=by unfold naI;rw[en]
   rw[en2]at k2 ⊢;simp only[Zi];cases hn:namA (Za s (Zb i) (Zb (toI s i)))with
   |false=>
    simp only[Yu,Zj];refine hbeg (0,5) a ?_;refine gO (z8 hib<|i8 c1<|m0 c1<|m0 c1<|kb c2<|j7 k1<|z8 hsl<|j7 k2<|m0 (b:= !namA (Za s (Zb i) (Zb (toI s i)))) (d:=Zs) (by rw[hn];rfl) j6) ?_;refine J7 kx ?_ ?_
    all_goals (intro p hp;simp only[gnA,Zl,Zk,Z0]at hp;rcases hp with rfl|rfl <;>kernel_rfl)
   | true=>
    simp only[Y4,Zi];cases d1:Zn (toI s i>=((Zd s:E):F))with
    |true=>
     simp only[Zj];refine hbeg (0,5) a ?_;refine gO (z8 hib<|i8 c1<|m0 c1<|m0 c1<|kb c2<|j7 k1<|z8 hsl<|j7 k2<|m0 (b:= !namA (Za s (Zb i) (Zb (toI s i)))) (d:=Ze) (by rw[hn];rfl)<|w7 c1<|z6 c2<|o9 d1<|kb d1<|kb d1<|kb d1<|kb d1<|kb (b:=Zs) (d:=Zs) rfl j6) ?_;refine J7 kx ?_ ?_
     all_goals (intro p hp;simp only[gnA,Zl,Zk,Z0]at hp;rcases hp with rfl|rfl <;>kernel_rfl)
    | false=>
     have d1':=Zh d1;have hib2:=ib s (toI s i) ⟨kv,kv⟩;cases d2:Z2 s (toI s i) !=61 with
     |true=>
      simp only[Zi,Zj];refine hbeg (0,5) a ?_;refine gO (z8 hib<|i8 c1<|m0 c1<|m0 c1<|kb c2<|j7 k1<|z8 hsl<|j7 k2<|m0 (b:= !namA (Za s (Zb i) (Zb (toI s i)))) (d:=Ze) (by rw[hn];rfl)<|w7 c1<|z6 c2<|o9 d1<|m0 d1<|m0 d1<|kp hib2<|kb d1<|m0 d1<|kb d2 j6) ?_;refine J7 kx ?_ ?_
      all_goals (intro p hp;simp only[gnA,Zl,Zk,Z0]at hp;rcases hp with rfl|rfl <;>kernel_rfl)
     | false=>
      simp only[Zi];have w2:IntKind.i64.wrap (toI s i+1)=toI s i+1:=wrE _ _ kv;have k4:=rdvG_to s (toI s i+1) hs kv kv;cases d3:(rdvG s (toI s i+1)).2.2 with
      |false=>
       simp only[Yu,Zj];refine hbeg (0,5) a ?_;refine gO (z8 hib<|i8 c1<|m0 c1<|m0 c1<|kb c2<|j7 k1<|z8 hsl<|j7 k2<|m0 (b:= !namA (Za s (Zb i) (Zb (toI s i)))) (d:=Ze) (by rw[hn];rfl)<|w7 c1<|z6 c2<|o9 d1<|m0 d1<|m0 d1<|kp hib2<|kb d1<|m0 d1<|kb d2<|p8 w2<|kc k4<|tn 9<|kb (b:= !(rdvG s (toI s i+1)).2.2) (d:=Zs) (by rw[d3];rfl) j6) ?_;refine J7 kx ?_ ?_
       all_goals (intro p hp;simp only[gnA,Zl,Zk,Z0]at hp;rcases hp with rfl|rfl <;>kernel_rfl)
      |true=>
       simp only[Y4,Zi];have k5:=aprG_to a (Za s (Zb i) (Zb (toI s i))) (rdvG s (toI s i+1)).1 ha;refine hbeg ((rdvG s (toI s i+1)).2.1,(aprG a (Za s (Zb i) (Zb (toI s i))) (rdvG s (toI s i+1)).1).1) (aprG a (Za s (Zb i) (Zb (toI s i))) (rdvG s (toI s i+1)).1).2 ?_;refine gO (z8 hib<|i8 c1<|m0 c1<|m0 c1<|kb c2<|j7 k1<|z8 hsl<|j7 k2<|m0 (b:= !namA (Za s (Zb i) (Zb (toI s i)))) (d:=Ze) (by rw[hn];rfl)<|w7 c1<|z6 c2<|o9 d1<|m0 d1<|m0 d1<|kp hib2<|kb d1<|m0 d1<|kb d2<|p8 w2<|kc k4<|tn 9<|kb (b:= !(rdvG s (toI s i+1)).2.2) (d:=Ze) (by rw[d3];rfl)<|tn 4<|kg k5 (show a.fClasses.length=a.fClasses.length/\a.fPairs.length=a.fPairs.length/\Qb from⟨rfl,rfl,Zm⟩) j6) ?_;refine J7 kx ?_ ?_
       all_goals (intro p hp;simp only[gnA,Zl,Zk,Z0]at hp;rcases hp with rfl|rfl <;>kernel_rfl)
def Few2(a:Yn):Prop:=a.fClasses.length<=32/\a.fPairs.length<=32
def Few2.few{a:Yn}(h:Few2 a):Few a:=⟨by have:=h.1;omega,by have:=h.2;omega⟩
def aclG_few(a:Yn)(y:Zc)(h:Few2 a):Few2 (aclG a y).2:=by
 unfold aclG;refine Va5 (λr:F×Yn=>Few2 r.2) (λ_=>h) (λ_=>Va5 (λr:F×Yn=>Few2 r.2) (λ_=>h) (λq=>?_));have q:=Zh q;simp only[Zx]at q;refine⟨?_,h.2⟩
 show(a.fClasses++[y]).length<=32;rw[Y6];simp only[Yj,Y0];omega
def aprG_few(a:Yn)(y v:Zc)(h:Few2 a):Few2 (aprG a y v).2:=by
 unfold aprG;refine Va5 (λr:F×Yn=>Few2 r.2) (λ_=>h) (λ_=>Va5 (λr:F×Yn=>Few2 r.2) (λ_=>h) (λq=>?_));have q:=Zh q;simp only[Zx]at q;refine⟨h.1,?_⟩;have e:(addP a y v).fPairs.length=a.fPairs.length+1:=by simp[addP]
 show(addP a y v).fPairs.length<=32;omega
def RI(s:Zc)(i:F)(r:(F×F)×Yn):Prop:=Few2 r.2/\0<=r.1.1/\r.1.1<=s.size/\(r.1.2=0->i<r.1.1)
def namA_ne{y:Zc}(h:namA y=Zs):0<y.size:=by
 rcases Qq y.size with h0|h0
 ·exfalso;have:=size0 h0;subst this;exact Yr h gj
 ·exact h0
def rdiG_bd(s:Zc)(i:F)(a:Yn)(ha:Few2 a)(h0:0<=i)(h1:i<s.size):RI s i (rdiG s i a):=by
 have hn1:i<=nmI s i/\nmI s i<=s.size:=by unfold nmI;cases(Zu (Z2 s i==35) Zs (Z2 s i==46)) <;>simp <;>omega
 have hto:=Vke s (nmI s i) kv;have hto2:nmI s i<=toI s i/\toI s i<=s.size:=by unfold toI;omega
 unfold rdiG;refine Va5 (RI s i) (λ_=>⟨ha,Ym 0,by show(0:F)<=_;omega,λh=>by simp at h⟩) (λhn=>?_);have hn:namA (naI s i)=true:=by simpa using hn
 have hnz:=namA_ne hn;unfold naI at hnz;rw[Vai]at hnz;have hlt:i<toI s i:=kv;refine Va5 (RI s i) (λ_=>Va5 (RI s i) (λ_=>⟨ha,Ym 0,by show(0:F)<=_;omega,λh=>by simp at h⟩) (λ_=>⟨ha,by show 0<=toI s i;omega,hto2.2,λ_=>hlt⟩)) (λ_=>?_);refine Va5 (RI s i) (λ_=>⟨aclG_few a _ ha,by show 0<=toI s i;omega,hto2.2,λ_=>hlt⟩) (λ_=>?_);unfold rdiE;refine Va5 (RI s i) (λ_=>⟨ha,Ym 0,by show(0:F)<=_;omega,λh=>by simp at h⟩) (λq=>?_);obtain⟨q1,_⟩:=Va8 q;have q1:=Zh q1;unfold rdiV;have hv:=rdvG_bd s (toI s i+1) kv kv;refine Va5 (RI s i) (λ_=>⟨ha,Ym 0,by show(0:F)<=_;omega,λh=>by simp at h⟩) (λq3=>?_);have q3:(rdvG s (toI s i+1)).2.2=true:=by simpa using q3
 have h5:=hv.2 q3;exact⟨aprG_few a _ _ ha,hv.1.1,hv.1.2.1,λ_=>by show i<(rdvG s (toI s i+1)).2.1;omega⟩
def paG(s:Zc)(v:F)(a:Yn):H (E×Jk):=[(1002,.cells 3 [jI v]),atG 1000 a,(1001,.cells 9 [jS s])]
def okPG(s:Zc)(v:F)(a:Yn):∀ p∈paG s v a,∀s∈p.2.svs,Qc [1002,1000,1001] (gnA a) s:=by
 intro p hp s hs;simp only[paG,Zl,Zk,Z0]at hp;rcases hp with rfl|rfl|rfl
 ·simp only[ABox.svs,Zl,Zk,Z0]at hs;subst hs;simp[Qc,Yq]
 ·simp only[atG,ABox.svs,Zl,Zk,Z0]at hs;rcases hs with rfl|rfl|rfl
  ·simp[Qc,Yq]
  ·simp[Qc,gnA,kA,kP,Qu]
  ·simp[Qc,gnA,kA,kP,Qu];rfl
 ·simp only[ABox.svs,Zl,Zk,Z0]at hs;subst hs;simp[Qc,Yq]
def itcG_to(s:Zc)(v:F)(a:Yn)(ha:Few a)(hs:s.size<=1073741824)(h0:0<=v)(h1:v<s.size):
  Va1 Zg 242 [.ptr 1000 0,.ptr 1001 0,.ptr 1002 0] (paG s v a) (gnA a) (jI (rdiG s v a).1.2) (paG s (rdiG s v a).1.1 (rdiG s v a).2) (gnA (rdiG s v a).2):=by
 have hi:=rdiG_to s v a ha hs h0 h1;generalize rdiG s v a=r at hi ⊢;refine J8 (λ_:Jt=>jI r.1.2) () Tryz.func242 kx (by simp[paG,atG]) (by simp[kA,kP,gnA]) (by simp[Qc,Yq,paG,atG]) (okPG s v a) (by simp[Qc,Yq]) (okPG s r.1.1 r.2) rfl rfl ?_ (by simp[paG,atG]);refine gO (tn 3<|kg hi (show a.fClasses.length=a.fClasses.length/\a.fPairs.length=a.fPairs.length/\Qb from⟨rfl,rfl,Zm⟩)<|tn 9 z) ?_;refine J7 kx ?_ ?_
 ·intro p hp;simp only[paG,Zl,Zk,Z0]at hp;rcases hp with rfl|rfl|rfl <;>kernel_rfl
 ·intro p hp;simp only[gnA,Zl,Zk,Z0]at hp;rcases hp with rfl|rfl <;>kernel_rfl
def spG(s:Zc)(a:F):H (E×Jk):=[(1002,.cells 3 [jI a]),(1001,.cells 9 [jS s])]
def spcG_to(s:Zc)(a:F)(hs:s.size<=1073741824)(h0:0<=a)(h1:a<=s.size):Va1 Zg 241 [.ptr 1002 0,.ptr 1001 0] (spG s a) [] (jB (Zn (skpS s a>a))) (spG s (skpS s a)) []:=by
 refine bGs Tryz.func241 ?_;refine gO i6 ?_;refine LP (n:=(s.size-Zb a)+1) (λN M S=>∃ v:F,a<=v/\v<=s.size/\Qe s a N v=skpS s a/\s.size-Zb v<N/\M=()/\S=sx 20 [(0,.ptr 1002 0),(1,.ptr 1001 0),(3,jI a)] (spG s v) []) kx ⟨a,kv,h1,rfl,kv,rfl,rfl⟩ (WK kx) ?_;rintro n0 M S ⟨v,hv,hv2,hM,hF,rfl,rfl⟩;obtain⟨n0,rfl⟩:∃ k,n0=k+1:=⟨n0-1,kv⟩
 rw[Qe]at hM;cases d1:Zn (v<((Zd s:E):F))with
 |false=>
  have hM:v=skpS s a:=by rw[d1]at hM;exact hM
  refine gO (o9 d1<|kb d1<|kb d1<|kb d1<|kb d1<|kb (b:=Ze) (d:=Ze) rfl z) ?_;refine Jp i7 kx ?_;rw[<-hM];exact eNs
 | true=>
  have d1':=Zo d1;have hib:=ib s v ⟨kv,kv⟩;cases d2:(Z2 s v==32)with
  |false=>
   have hM:v=skpS s a:=by rw[d1]at hM;unfold Z2 at d2;rw[d2]at hM;exact hM
   refine gO (o9 d1<|m0 d1<|m0 d1<|kp hib<|kb d1<|m0 d1<|kb d2 z) ?_;refine Jp i7 kx ?_;rw[<-hM];exact eNs
  |true=>
   have hM:Qe s a n0 (v+1)=skpS s a:=by rw[d1]at hM;unfold Z2 at d2;rw[d2]at hM;exact hM
   have w1:=wrE (v+1) (v+1) kv;refine gO (o9 d1<|m0 d1<|m0 d1<|kp hib<|kb d1<|m0 d1<|kb d2<|m6 w1 m5) ?_;exact AG (m:=n0) ⟨v+1,kv,kv,hM,kv,rfl,rfl⟩ (WK kx) kx (Zv _)
def aZ:DAttr:=⟨e0,[],[]⟩
def prsL(s:Zc):E->F->Yn->Qj->Yn×F×F
  |0,_,_,_=>default
  |n+1,v,a,sep=>Zu (Zn (v>=((Zd s:E):F))) (aZ,0,5) (Zu (Z2 s v==125) (a,v+1,0) (Zu (!sep) (aZ,0,5)
      (Zu ((rdiG s v a).1.2 !=0) (aZ,0,(rdiG s v a).1.2) (prsL s n (skpS s (rdiG s v a).1.1) (rdiG s v a).2 (Zn (skpS s (rdiG s v a).1.1>(rdiG s v a).1.1))))))
def prsA(s:Zc)(i:F):Yn×F×Int:=Zu (Zu (Zu (Zn (i<0)) Zs (Zn (i>=((Zd s:E):F)))) Zs (Z2 s i !=123)) (aZ,0,5) (prsL s (s.size+2) (skpS s (i+1)) aZ Zs)
end Go.Proofs.YthbpjmogdonlkaaGreatDoor
