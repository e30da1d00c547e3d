/- Texts joined by a program (merge.py). -/
import Derived.Test.YthbpjmogdonlkaaGreatDoorMeb
import Derived.Test.YthbpjmogdonlkaaGreatDoorMea
import Derived.KernelRfl
import Derived.Scope
import Derived.Shelf.Lays
import Derived.Test.YthbpjmogdonlkaaGreatDoorProg
import Derived.Shelf.Small.Strs
import Derived.Shelf.Unicode.WordAny
import Derived.Shelf.Strings.IndexAny
import Derived.Shelf.Strings.SlTrimAscii
import Derived.Shelf.Strings.Prefix
import Derived.Below
import Derived.StillTail
set_option linter.unusedSimpArgs false
set_option linter.unusedVariables false
set_option maxRecDepth 100000
set_option maxHeartbeats 4000000
set_option linter.defProp false
open Option.some renaming injEq->Za,inj->Bl
open Prod.mk renaming injEq->Zb
open Int renaming toNat->Zc
open Decidable renaming decide->O
open _root_ renaming of_decide_eq_true->Zd,List->D,congrArg->Zf,Int->J,cond->Zg,ByteArray->Zh,Nat->E,of_decide_eq_false->Zk,Option->Zn,Bool->Zs,if_pos->Z1,bne_iff_ne->Z2,decide_eq_true_eq->Z7,trivial->Yf,Array->Yj,Inhabited->Yp,true_and->Y6,if_true->Xp,if_neg->Xw,if_false->Xy,ne_of_beq_false->Q0,beq_iff_eq->I1,absurd->Jt,and_true->J8,True->Bb
open Option renaming some->Y,none->Zo,map_eq_some_iff->Zr,isSome_iff_exists->Zy,bind_some->Ye,getD_some->Xf,map_some->D7
open ByteArray renaming size->Ze,extract->Zi
open Bool renaming false->V,true->R,and_eq_true->Zm,false_eq_true->Zw,not_eq_true'->Z8,or_eq_true->Yv,or_false->Bc
open Go renaming Program->Zj,Oper->Zt,World->Zx,Exit->Yk,Value->Yq,run_storeCells_at->Qc,TypeId->Qm,FuncId->Qr,Operand->Q5,IntKind->Q8,Act->Iz,setRow_other->I0,setRow_heap->Jb,getD_replicate_false->Jc,Code->Jm,mem_ready->Dt,wp_region_any->Fs,getD_set_true->Ft,Tmp->Bj,Func->Bq
open Nat renaming lt_or_ge->Zl,lt_succ_self->Yo,le_refl->Yr,mul_le_mul_right->Qx,add_mul->Qy,zero_add->Q6,add_sub_cancel_left->Iw,lt_trichotomy->Dq,add_zero->Dr,le_trans->Bi
open Array renaming getD_eq_getD_getElem?->Zp,getElem?_eq_getElem->Y5,getElem?_setIfInBounds_ne->Xc,replicate->Xm,getElem?_eq_none->Qk,length_toList->Q4,getElem?_eq_some_iff->Ic,ext_getElem?->Ie,getElem?_replicate->Iq,getElem?_modify->I9
open Go.Proofs.Tryz renaming prog->Zq,underlying9->Z5,underlying3->Z6,zeroValue9->Yb,zeroValue3->Yc,underlying4->Yd,zeroValue4->Yh,underlying5->Ym,underlying208->Yn,zeroValue208->Ys,zeroValue5->Yt,sizeOf9->Yy,sizeOf3->Yz,sizeOf4->Y7,isAgg9->Y8,isAgg3->Y9,underlying0->Xd,sizeOf208->Xe,isAgg4->Xh,underlying291->Xi,sizeOf5->Xj,zeroValue0->Xl,isAgg208->Xn,zeroValue291->Xq,isAgg5->Xt,underlying33->Qd,underlying21->Qe,underlying20->Qf,sizeOf291->Qg,sizeOf0->Qh,zeroValue33->Qn,zeroValue21->Qo,zeroValue20->Qp,isAgg291->Qs,isAgg0->Qw,underlying294->Q9,underlying255->Ia,underlying132->Ib,zeroValue294->Ig,zeroValue255->Ih,zeroValue132->Ii,underlying92->Ij,underlying91->Ik,sizeOf33->Il,sizeOf21->Im,sizeOf20->Ip,zeroValue92->Ir,zeroValue91->Iu,isAgg33->I2,isAgg21->I3,isAgg20->I4,sizeOf294->Jd,sizeOf255->Je,sizeOf132->Jf,sizeOf92->Jo,sizeOf91->Jp,isAgg294->Jq,isAgg255->Jr,isAgg132->Js,underlying313->Ju,underlying312->Jv,underlying292->Jw,underlying290->Jy,underlying258->Jz,underlying254->J0,underlying211->J1,underlying210->J2,underlying207->J3,underlying174->J4,underlying141->J5,underlying100->J6,zeroValue313->J9,zeroValue312->Da,zeroValue290->Db,zeroValue258->Dc,zeroValue254->Dd,zeroValue211->De,zeroValue210->Df,zeroValue174->Dg,zeroValue141->Dh,zeroValue100->Di,underlying97->Dj,underlying96->Dk,underlying80->Dl,underlying78->Dm,isAgg92->Do,isAgg91->Dp,zeroValue97->Du,zeroValue80->Dv,zeroValue78->Dw,underlying2->Dx,zeroValue2->D6,sizeOf313->Fc,sizeOf312->Fe,sizeOf292->Ff,sizeOf290->Fg,sizeOf258->Fh,sizeOf254->Fi,sizeOf211->Fj,sizeOf210->Fk,sizeOf207->Fl,sizeOf174->Fo,sizeOf141->Fp,sizeOf100->Fq,sizeOf97->Fu,sizeOf96->Fv,sizeOf80->Fw,sizeOf78->Fy,isAgg313->Fz,isAgg312->F0,isAgg292->F1,isAgg290->F2,isAgg258->F3,isAgg254->F4,isAgg211->F5,isAgg210->F6,isAgg207->F7,isAgg174->F8,isAgg141->F9,isAgg100->Ba,isAgg97->Bf,isAgg96->Bg
open Go.Region renaming wanted->Zu,ready->Z4,binds->Y0
open List renaming getElem?_eq_none->Zv,all_eq_true->Zz,map_cons->Z0,getElem?_set->Z3,mem_range->Z9,mem_cons->Ya,mem_map->Yg,getElem?_append_left->Yl,mem_append->Yu,cons_append->Y1,range->Y2,mem_filterMap->Y3,length_append->Y4,mem_of_getElem?->Xa,append_assoc->Xb,lookup_eq_none_iff->Xg,any_eq_false->Xr,getElem?_append_right->Xu,mem_map_of_mem->Xx,getElem?_eq_getElem->Xz,length_set->Qa,length_eq_zero_iff->Qb,size_toArray->Qi,getElem?_toArray->Ql,getD->Qq,mem_of_mem_drop->Qz,nil_append->Q3,drop_eq_nil_of_le->I6,dropWhile_sublist->I7,mem_iff_getElem?->I8,replicate->Jh,mem_of_mem_take->Ji,mem_cons_of_mem->Jj,contains_eq_mem->Jk,getElem_of_mem->Jn,getElem?_take->J7,ext_getElem?->Ds,lookup_cons->Dy,length_take->Dz,length_drop->D0,length_cons->D2,drop_append->D3,any_eq_true->D4,take_left'->D8,drop_left'->D9
open List.cons renaming injEq->Yi
open Go.Eng renaming byt->Yw,ABox->Yx,Key->Xs,RepS->Xv,Weak->Qv,Step->Iv,All->Iy,Rel->Ja,RepSs->D5,RepL->Fr,RepB->Bh,Uni->Bk,Rep->Bm,OkSV->Bo
open Go.Eng.Gh renaming next->Xk,setU->Qj
open Go.Eng.St renaming put->Xo
open Go.Lib renaming indexByte->Qt,indexAny->Q7,size_eq->Jl,trimS->Be
open Iff renaming rfl->Qu
open Go.Oper renaming upon_value->Q1,upon_skip->Jg,wp->Fb
open Ne renaming symm->I5
namespace Go.Eng
section
structure DS where
 ors:D Or
 gd:Zn Zs
 v:SV
 out:Zn (D (E×Yx)×D (Xs×E))
abbrev BG:=D (E×Yx)×D (Xs×E)
def putF(f:D SV)(d:Zn Bj)(v:SV):D SV:=
 match d with
 |some d=>f.set d v
 |none=>f
def Vem(ops:D Zt)(k:E):Zn Tmp:=(ops[k]?).bind (·.dst)
def valOf(st:D DS)(k:E):SV:=((st[k]?).map (·.v)).getD .junk
def Vb5(st:D DS)(k:E):Zn BG:=(st[k]?).bind (·.out)
def frD(ops:D Zt)(st:D DS)(f0:D SV)(L:E->Zs):E->D SV
 |0=>f0
 |m+1=>if L m then putF (frD ops st f0 L m) (Vem ops m) (valOf st m)else frD ops st f0 L m
def bxD(st:D DS)(b0:BG)(L:E->Zs):E->BG
 |0=>b0
 |m+1=>if L m then(Vb5 st m).getD (bxD st b0 L m)else bxD st b0 L m
def maskOf(o:Zt)(acc:D E):Nat:=o.after.toList.foldl (λs e=>if Y0 .any e then s ||| (1 <<< e.on) ||| acc.getD e.on 0 else s) 0
def Vh9:D Zt->D E->D E
 |[],acc=>acc
 |o::l,acc=>Vh9 l (acc++[maskOf o acc])
def looks(ops:D Zt)(o:Zt):D Nat:=
 (o.op.operands.toList.filterMap λ| .tmp t=>Y t|_=>Zo)++(match o.guard with|some (j,_)=>(Vem ops j).toList|none=>[])++o.dst.toList
def Vdk(M:D E)(i k:E):Bool:=(O (k<i)&&(M.getD i 0).testBit k)||(O (i<k)&&(M.getD k 0).testBit i)
def Vlx(ops:D Zt)(st:D DS)(M:D E):Bool:=
 (Y2 ops.length).all fun i=>
  (match ops[i]? with|some o=>o.after.toList.all (λe=> !Y0 .any e||decide (e.on<i))|none=>R)&&
  (Y2 ops.length).all fun k=>i==k||Vdk M i k||
   (!(match ops[i]?,Vem ops k with|some o,Y t=>(looks ops o).contains t|_,_=>V)&& !((Vb5 st i).isSome&&(Vb5 st k).isSome))
def Vd9(st:D DS)(b0:BG):Zn E->BG
 |none=>b0
 |some e=>(Vb5 st e).getD b0
def Vd3(st:D DS):E->Zn E
 |0=>Zo
 |m+1=>if(Vb5 st m).isSome then Y m else Vd3 st m
def cands(st:D DS)(M:D E)(n i:E):D (Zn E):=
 if(Vb5 st i).isSome then[Vd3 st i]else
 (if(Y2 n).any (fun k=>(Vb5 st k).isSome&&(M.getD i 0).testBit k)then[]else[Zo])++
  ((Y2 n).filter (λe=>(Vb5 st e).isSome&& !(M.getD e 0).testBit i&& !(Y2 n).any (λk=>decide (e<k)&&(Vb5 st k).isSome&&(M.getD i 0).testBit k))).map Y
def guardOk(sv:Zn SV)(want:Zs)(gd:Zn Zs):Zn (D Prop×Zs):=
 match sv,gd with
 |some (.av (.tup [])),Zo=>Y ([],V)
 |some (.av (.val (.bool b))),Y d=>Y ([b=d],d==want)
 |_,_=>Zo
def dRuns(P:Zj)(o:Zt)(s:DS)(f:D SV)(st:D DS)(b0:BG):D (Zn E)->Zn (D Prop)
 |[]=>Y []
 |c::l=>match runV P o s.ors ⟨f,(Vd9 st b0 c).1,(Vd9 st b0 c).2⟩,dRuns P o s f st b0 l with
  |some (cs,v,bx,gn),Y r=>Y (cs++(v=s.v/\(bx,gn)=s.out.getD (Vd9 st b0 c))::r)
  |_,_=>Zo
def alOk(ops:D Zt)(st:D DS)(M:D E)(f0:D SV)(i:E)(o:Zt):Bool:=
 match Vd4 o.op,o.dst with
 |true,Y id=>f0.all (λs=> !s.names id)&&(Y2 ops.length).all (λk=> !(valOf st k).names id||k==i||(M.getD k 0).testBit i)
 |_,_=>R
section
variable {P:Zj} {ops:D Zt} {st:D DS} {M:D E} {f0:D SV} {b0:BG}
def getElem?_putF{f:D SV}{d:Zn Bj}{v:SV}{t:E}(h:d≠Y t):(putF f d v)[t]? =f[t]? :=by
 cases d with
 |none=>rfl
 |some d=>simp only[putF];rw[List.getElem?_set_ne (by intro e;exact h (by rw[e]))]
def length_putF{f:D SV}{d:Zn Bj}{v:SV}:(putF f d v).length=f.length:=by cases d <;>simp[putF]
def slot_agrees{L:E->Zs}{i t:E}(hi:L i=V)(h:∀ k,Vem ops k=Y t->(k<i->L k=R)/\(i<k->L k=V)):∀ m,(frD ops st f0 L m)[t]? =(frD ops st f0 (λ_=>R) (min m i))[t]? :=by
 intro m
 induction m with
 |zero=>simp[frD]
 | succ m ih=>
  simp only[frD]
  by_cases hd:Vem ops m=Y t
  ·rcases Dq m i with hlt|heq|hgt
   ·have:=(h m hd).1 hlt;rw[Z1 this,show min (m+1) i=m+1 by omega];simp only[frD,Xp,hd,putF];rw[Z3,Z3,show min m i=m by omega]at *
    simp only[Xp];have hl:(frD ops st f0 L m).length=(frD ops st f0 (λ_=>R) m).length:=by
     have:∀(L:E->Zs) m,(frD ops st f0 L m).length=f0.length:=by
      intro L m
      induction m with
      |zero=>rfl
      |succ m ih=>simp only[frD];split <;>simp[length_putF,ih]
     rw[this,this]
    rw[hl]
   ·subst heq;rw[hi];simp only[Zw,Xy];rw[ih];congr 2;omega
   ·rw[(h m hd).2 hgt];simp only[Zw,Xy];rw[ih];congr 2;omega
  ·have e1:(if L m then putF (frD ops st f0 L m) (Vem ops m) (valOf st m)else frD ops st f0 L m)[t]? =(frD ops st f0 L m)[t]? :=by
    split
    ·exact getElem?_putF hd
    ·rfl
   rw[e1,ih];rcases Zl m i with hlt|hge
   ·rw[show min (m+1) i=m+1 by omega,show min m i=m by omega];simp only[frD,Xp];rw[getElem?_putF hd]
   ·congr 2;omega
def putF_comm{f:D SV}{d e:Zn Bj}{u v:SV}(h:∀ t,d=Y t->e≠Y t):putF (putF f d u) e v=putF (putF f e v) d u:=by
 cases d with
 |none=>rfl
 |some d=>cases e with
  |none=>rfl
  |some e=>simp only[putF];exact List.set_comm _ _ (by intro he;exact h d rfl (by rw[he]))
def also(L:E->Zs)(i:E):E->Bool:=λk=>if k=i then R else L k
def fr_also{L:E->Zs}{i:E}(hi:L i=V)(h:∀ k,i<k->L k=R->∀ t,Vem ops i=Y t->Vem ops k≠Y t):∀ m,i<m->frD ops st f0 (also L i) m=putF (frD ops st f0 L m) (Vem ops i) (valOf st i):=by
 have below:∀ m,m<=i->frD ops st f0 (also L i) m=frD ops st f0 L m:=by
  intro m
  induction m with
  |zero=>intro _;rfl
  |succ m ih=>
   intro hm;simp only[frD,also,Xw (show ¬m=i by omega)];rw[<-ih kv]
 intro m
 induction m with
 |zero=>intro hm;omega
 | succ m ih=>
  intro hm;rcases Zl i m with hlt|hge
  ·have ih':=ih hlt;simp only[frD];rw[show also L i m=L m by simp only[also,Xw (show ¬m=i by omega)]];cases hL:L m
   ·simp only[Zw,Xy];exact ih'
   ·simp only[Xp];rw[ih'];exact putF_comm (λt ht=>h m hlt hL t ht)
  ·have:m=i:=kv;subst this;simp only[frD,hi,Zw,Xy];rw[show also L m m=R by simp[also],Z1 rfl,below m (Yr _)]
def Vru{L:E->Zs}{i:E}(hp:Vb5 st i=Zo):∀ m,bxD st b0 (also L i) m=bxD st b0 L m:=by
 intro m
 induction m with
 |zero=>rfl
 |succ m ih=>
  simp only[bxD,ih]
  by_cases hm:m=i
  ·subst hm;simp[hp]
  ·rw[show also L i m=L m by simp only[also,Xw hm]]
def bx_also_eff{L:E->Zs}{i:E}{b:BG}(hp:Vb5 st i=Y b)(h:∀ k,i<k->(Vb5 st k).isSome=R->L k=V):∀ m,i<m->bxD st b0 (also L i) m=b:=by
 intro m
 induction m with
 |zero=>intro hm;omega
 | succ m ih=>
  intro hm;simp only[bxD];rcases Zl i m with hlt|hge
  ·rw[ih hlt,show also L i m=L m by simp only[also,Xw (show ¬m=i by omega)]];cases ho:Vb5 st m with
   |none=>simp
   |some c=>rw[h m hlt (by rw[ho];rfl)];simp
  ·have:m=i:=kv;subst this;rw[show also L m m=R by simp[also],Z1 rfl,hp];rfl
def bx_last{L:E->Zs}:∀ m,(bxD st b0 L m=b0/\∀ k,k<m->(Vb5 st k).isSome=R->L k=V)\/∃ e,e<m/\L e=R/\(Vb5 st e).isSome=R/\bxD st b0 L m=Vd9 st b0 (Y e)/\∀ k,e<k->k<m->(Vb5 st k).isSome=R->L k=false:=by
 intro m
 induction m with
 |zero=>exact .inl ⟨rfl,λk hk=>by omega⟩
 | succ m ih=>
  simp only[bxD];cases ho:Vb5 st m with
  | none=>
   have e1:(if L m=R then(Zo:Zn BG).getD (bxD st b0 L m)else bxD st b0 L m)=bxD st b0 L m:=by split <;>rfl
   rw[e1];rcases ih with⟨h1,h2⟩|⟨e,h1,h2,h3,h4,h5⟩
   ·refine .inl ⟨h1,λk hk hs=>?_⟩;rcases Zl k m with h|h
    ·exact h2 k h hs
    ·have:k=m:=kv;subst this;rw[ho]at hs;simp at hs
   ·refine .inr ⟨e,kv,h2,h3,h4,λk hk1 hk2 hs=>?_⟩;rcases Zl k m with h|h
    ·exact h5 k hk1 h hs
    ·have:k=m:=kv;subst this;rw[ho]at hs;simp at hs
  | some b=>
   cases hL:L m
   ·simp only[Zw,Xy];rcases ih with⟨h1,h2⟩|⟨e,h1,h2,h3,h4,h5⟩
    ·refine .inl ⟨h1,λk hk hs=>?_⟩;rcases Zl k m with h|h
     ·exact h2 k h hs
     ·have:k=m:=kv;subst this;exact hL
    ·refine .inr ⟨e,kv,h2,h3,h4,λk hk1 hk2 hs=>?_⟩;rcases Zl k m with h|h
     ·exact h5 k hk1 h hs
     ·have:k=m:=kv;subst this;exact hL
   ·exact .inr ⟨m,kv,hL,by rw[ho];rfl,by simp[Vd9,ho],λk hk1 hk2 _=>by omega⟩
def Vg3{L:E->Zs}:∀ i,(∀k,k<i->(Vb5 st k).isSome=R->L k=R)->bxD st b0 L i=Vd9 st b0 (Vd3 st i):=by
 intro i
 induction i with
 |zero=>intro _;rfl
 | succ i ih=>
  intro h;simp only[bxD,Vd3];cases ho:Vb5 st i with
  |none=>simp only[Option.isSome_none,Zw,Xy];rw[<-ih (λk hk=>h k kv)];split <;>rfl
  |some b=>
   rw[h i kv (by rw[ho];rfl)];simp[Vd9,ho]
def bx_upto{L:E->Zs}{i:E}(hi:L i=V)(h:∀ k,i<k->(Vb5 st k).isSome=R->L k=V):∀ m,i<=m->bxD st b0 L m=bxD st b0 L i:=by
  intro m
  induction m with
  | zero => intro hm;have:i=0:=by omega
            subst this;rfl
  | succ m ih=>
    intro hm;rcases Zl m i with hlt|hge
    · have:i=m+1:=kv;subst this;rfl
    · simp only[bxD];rw[<-ih hge];rcases Zl i m with h1|h1
      · cases ho:Vb5 st m with
        |none=>split <;>rfl
        |some b=>rw[h m h1 (by rw[ho];rfl)];simp
      · have:m=i:=kv;subst this;rw[hi];simp
def Vg2(L:E->Zs):∀(l:D Zt)(acc:D E),(∀j o,l[j]? =Y o->L (acc.length+j)=R->∀ e∈o.after,Y0 .any e=R->L e.on=R)->
  (∀k,k<acc.length->L k=R->∀ i,(acc.getD k 0).testBit i=R->L i=R)->∀ k,L k=R->∀ i,((Vh9 l acc).getD k 0).testBit i=R->L i=R
 |[],acc,_,ha,k,hk,i,hi=>by
  simp only[Vh9]at hi;rcases Zl k acc.length with h|h
  ·exact ha k h hk i hi
  ·simp[Qq,Zv h]at hi
 | o::l,acc,he,ha,k,hk,i,hi=>by
  simp only[Vh9]at hi;refine Vg2 L l (acc++[maskOf o acc]) (λj o' hj hL=>?_) (λk hk' hL i hi=>?_) k hk i hi
  ·exact he (j+1) o' (by simpa using hj) (by rw[<-hL];congr 1;simp;omega)
  ·simp at hk';rcases Zl k acc.length with h|h
   ·refine ha k h hL i ?_;simpa[Qq,Yl h]using hi
   ·have hk2:k=acc.length:=kv;subst hk2;simp only[Qq,Xu (Yr _),Nat.sub_self,List.getElem?_cons_zero,Xf]at hi;have hedge:∀ e∈o.after,Y0 .any e=R->L e.on=true:=he 0 o ku (by simpa using hL);unfold maskOf at hi;have key:∀(es:D Edge)(s:E),(∀e∈es,Y0 .any e=R->L e.on=R)->(∀i,s.testBit i=R->L i=R)->∀ i,(es.foldl (λs e=>if Y0 .any e then s ||| (1 <<< e.on) ||| acc.getD e.on 0 else s) s).testBit i=R->L i=true:=by
     intro es
     induction es with
     |nil=>intro s _ hs i hi;exact hs i hi
     | cons e es ih=>
      intro s hes hs i hi;simp only[List.foldl_cons]at hi;refine ih _ (λe' he'=>hes e' (by simp[he'])) (λi hi=>?_) i hi
      split at hi
      ·rename_i hb;have hLe:=hes e ku hb;simp only[Nat.testBit_or,Yv]at hi;rcases hi with(hi|hi)|hi
       ·exact hs i hi
       ·rw[Nat.testBit_shiftLeft]at hi;simp only[ge_iff_le,Zm,Z7]at hi;have:i=e.on:=by
         have h1:=hi.2;have:i-e.on=0:=by
          rcases Nat.eq_zero_or_pos (i-e.on)with h|h
          ·exact h
          ·rw[Nat.testBit_one_eq_true_iff_self_eq_zero]at h1;exact h1
         omega
        rw[this];exact hLe
       ·rcases Zl e.on acc.length with h|h
        ·exact ha e.on h hLe i hi
        ·simp[Qq,Zv h]at hi
      ·exact hs i hi
    exact key o.after.toList 0 (λe he'=>hedge e (by simpa using he')) (λi hi=>by simp at hi) i hi
end
end
section
section
variable {P:Zj} {ops:D Zt} {st:D DS} {M:D E} {f0:D SV} {b0:BG}
def Vrf{L L':E->Zs}:∀ m,(∀k,k<m->L k=L' k)->frD ops st f0 L m=frD ops st f0 L' m
 |0,_=>rfl
 |m+1,h=>by simp only[frD];rw[h m kv,Vrf m (λk hk=>h k kv)]
def Vrv{L L':E->Zs}:∀ m,(∀k,k<m->L k=L' k)->bxD st b0 L m=bxD st b0 L' m
 |0,_=>rfl
 |m+1,h=>by simp only[bxD];rw[h m kv,Vrv m (λk hk=>h k kv)]
def Vrm{o:Zt}{s:DS}{f:D SV}:∀ {l:D (Zn E)} {cs:D Prop},dRuns P o s f st b0 l=Y cs->Iy cs->∀ c∈l,∃cs',runV P o s.ors ⟨f,(Vd9 st b0 c).1,(Vd9 st b0 c).2⟩=Y (cs',s.v,(s.out.getD (Vd9 st b0 c)).1,(s.out.getD (Vd9 st b0 c)).2)/\Iy cs'
 |[],_,_,_,c,hc=>by simp at hc
 | d::l,cs,h,ha,c,hc=>by
  simp only[dRuns]at h
  split at h
  ·rename_i cs1 v bx gn r h1 h2;simp only[Za]at h;subst h;obtain⟨ha1,⟨hv,hb⟩,ha2⟩:=Vba ha;rcases Ya.1 hc with rfl|hc
   ·subst hv;rw[<-hb];exact⟨cs1,h1,ha1⟩
   ·exact Vrm h2 ha2 c hc
  ·simp at h
structure Good (ops:D Zt) (st:D DS) (M:D E) (L:E->Zs) (i:E) (o:Zt):Prop where
 un:L i=V
 slot:∀ t∈looks ops o,∀k,Vem ops k=Y t->(k<i->L k=R)/\(i<k->L k=V)
 eff:∀ k,(Vb5 st i).isSome=R->(Vb5 st k).isSome=R->(k<i->L k=R)/\(i<k->L k=V)
 down:∀ k,(M.getD i 0).testBit k=R->k≠i->L k=R
 up:∀ k,L k=R->(M.getD k 0).testBit i=V
def good_of{L:E->Zs}{i:E}{o:Zt}(hM:M=Vh9 ops [])(hs:Vlx ops st M=R)(hst:st.length<=ops.length)(hlt:∀ k,L k=R->k<ops.length)(hi:ops[i]? =Y o)(hun:L i=V)
  (hcl:∀ k ok,ops[k]? =Y ok->L k=R->∀ e∈ok.after,Y0 .any e=R->L e.on=R) (hr:∀ e∈o.after,Y0 .any e=R->L e.on=R):Good ops st M L i o:=by
 have hil:i<ops.length:=by
  rcases Zl i ops.length with h|h
  ·exact h
  ·simp[Zv h]at hi
 have down:∀ k,(M.getD i 0).testBit k=R->k≠i->L k=true:=by
  intro k hk hne
  have:=Vg2 (also L i) ops [] (λj oj hj hL e he hb=>by
   simp only[List.length_nil,Q6,also]at hL ⊢
   split at hL
   ·rename_i hji;subst hji;rw[hi]at hj;simp only[Za]at hj;subst hj
    split
    ·rfl
    ·exact hr e he hb
   ·split
    ·rfl
    ·exact hcl j oj hj hL e he hb) (λk hk=>by simp at hk) i (by simp[also]) k (by rw[<-hM];exact hk)
  simpa[also,hne]using this
 have up:∀ k,L k=R->(M.getD k 0).testBit i=false:=by
  intro k hk;cases hb:(M.getD k 0).testBit i with
  |false=>rfl
  |true=>
   have:=Vg2 L ops [] (λj oj hj hL e he hb=>hcl j oj hj (by simpa using hL) e he hb) (λk hk=>by simp at hk) k hk i (by rw[<-hM];exact hb);rw[hun]at this;simp at this
 have ord:∀ k,Vdk M i k=R->(k<i->L k=R)/\(i<k->L k=V):=by
  intro k ho;simp only[Vdk,Yv,Zm,Z7]at ho;rcases ho with⟨h1,h2⟩|⟨h1,h2⟩
  ·exact⟨λ_=>down k h2 kv,λh=>by omega⟩
  ·refine⟨λh=>by omega,λ_=>?_⟩;cases hL:L k with
   |false=>rfl
   |true=>rw[up k hL]at h2;simp at h2
 have stat:∀ k,k<ops.length->k≠i->Vdk M i k=R\/((∀t,Vem ops k=Y t->t ∉ looks ops o)/\¬ ((Vb5 st i).isSome=R/\(Vb5 st k).isSome=R)):=by
  intro k hk hne;simp only[Vlx,Zz,Z9]at hs;have h1:=hs i hil;simp only[hi,Zm]at h1;have h2:=h1.2;simp only[Zz,Z9]at h2;have h3:=h2 k hk;simp only[Yv,I1,Zm]at h3;rcases h3 with(h3|h3)|⟨h3,h4⟩
  ·exact Jt h3.symm hne
  ·exact .inl h3
  ·refine .inr ⟨λt ht hmem=>?_,λ⟨q1,q2⟩=>?_⟩
   ·rw[ht]at h3;simp only[Z8,Jk]at h3;simp[hmem]at h3
   ·simp[q1,q2]at h4
 refine⟨hun,λt ht k hk=>?_,λk h1 h2=>?_,down,up⟩
 ·have hkl:k<ops.length:=by
   rcases Zl k ops.length with h|h
   ·exact h
   ·simp[Vem,Zv h]at hk
  by_cases hne:k=i
  ·subst hne;exact⟨λh=>by omega,λh=>by omega⟩
  ·rcases stat k hkl hne with h|⟨h,_⟩
   ·exact ord k h
   ·exact Jt ht (h t hk)
 ·have hkl:k<ops.length:=by
   rcases Zl k ops.length with h|h
   ·exact h
   ·simp[Vb5,Zv (Bi hst h)]at h2
  by_cases hne:k=i
  ·subst hne;exact⟨λh=>by omega,λh=>by omega⟩
  ·rcases stat k hkl hne with h|⟨_,h⟩
   ·exact ord k h
   ·exact Jt ⟨h1,h2⟩ h
def cand_mem{L:E->Zs}{i:E}{o:Zt}(hg:Good ops st M L i o)(hil:i<ops.length):∃ c∈cands st M ops.length i,bxD st b0 L ops.length=Vd9 st b0 c:=by
 cases ho:(Vb5 st i).isSome with
 |true=>
  refine⟨Vd3 st i,by simp[cands,ho],?_⟩;rw[bx_upto hg.un (λk hk hs=>(hg.eff k ho hs).2 hk) ops.length kv];exact Vg3 i (λk hk hs=>(hg.eff k ho hs).1 hk)
 | false=>
  simp only[cands,ho,Zw,Xy];have hsome:∀ k,(Vb5 st k).isSome=R->k≠i:=by intro k hk e;subst e;rw[ho]at hk;simp at hk
  rcases bx_last (st:=st) (b0:=b0) (L:=L) ops.length with⟨h1,h2⟩|⟨e,h1,h2,h3,h4,h5⟩
  ·refine⟨Zo,List.mem_append_left _ ?_,h1⟩;rw[Xw]
   ·simp
   ·intro hany;simp only[D4,Z9,Zm]at hany;obtain⟨k,hk,hk1,hk2⟩:=hany;have:=hg.down k hk2 (hsome k hk1);rw[h2 k hk hk1]at this;simp at this
  ·refine⟨Y e,List.mem_append_right _ (Yg.2 ⟨e,List.mem_filter.2 ⟨Z9.2 h1,?_⟩,rfl⟩),h4⟩;simp only[Zm,h3,Y6,Z8];refine⟨hg.up e h2,?_⟩;rw[Bool.eq_false_iff];intro hany;simp only[D4,Z9,Zm,Z7]at hany;obtain⟨k,hk,⟨hk0,hk1⟩,hk2⟩:=hany;have:=hg.down k hk2 (hsome k hk1);rw[h5 k hk0 hk hk1]at this;simp at this
def Vo0{L:E->Zs}{i:E}{o:Zt}{s:DS}(hg:Good ops st M L i o)(hi:ops[i]? =Y o)(hil:i<ops.length)(hs:st[i]? =Y s):
  ({fr:=frD ops st f0 (also L i) ops.length,bx:=(bxD st b0 (also L i) ops.length).1,gn:=(bxD st b0 (also L i) ops.length).2}:St)
   =((⟨frD ops st f0 L ops.length,(s.out.getD (bxD st b0 L ops.length)).1,(s.out.getD (bxD st b0 L ops.length)).2⟩:St).put o.dst s.v):=by
 have hout:Vb5 st i=s.out:=by simp[Vb5,hs]
 have hd:Vem ops i=o.dst:=by simp[Vem,hi]
 have hv:valOf st i=s.v:=by simp[valOf,hs]
 have e1:bxD st b0 (also L i) ops.length=s.out.getD (bxD st b0 L ops.length):=by
  cases ho:s.out with
  |none=>rw[Vru (by rw[hout,ho])];rfl
  |some b=>rw[bx_also_eff (b:=b) (by rw[hout,ho]) (λk hk hks=>(hg.eff k (by rw[hout,ho];rfl) hks).2 hk) _ hil];rfl
 have e2:frD ops st f0 (also L i) ops.length=putF (frD ops st f0 L ops.length) o.dst s.v:=by
  rw[fr_also hg.un (λk hk hL t ht hkt=>?_) _ hil,hd,hv];have:=(hg.slot t (by rw[hd]at ht;simp[looks,ht]) k hkt).2 hk;rw[this]at hL;simp at hL
 rw[e1,e2];cases hd:o.dst <;>rfl
def Vqc{L:E->Zs}{i:E}{o:Zt}(hg:Good ops st M L i o)(hil:i<ops.length){t:E}(ht:t∈looks ops o):(frD ops st f0 L ops.length)[t]? =(frD ops st f0 (λ_=>R) i)[t]? :=by
 rw[slot_agrees hg.un (hg.slot t ht) ops.length,show min ops.length i=i by omega]
end
def Rel.draw{G:Gh}{w:Zx}{S:St}{a:Iz}(h:Ja G w S a):Iv G w G {w with drawn:=w.drawn+1}/\Ja G {w with drawn:=w.drawn+1} S a:=by
 have hs:Iv G w G {w with drawn:=w.drawn+1}:=⟨⟨λ_=>Yr _,⟨λ_ _ _=>rfl,λ_ _ _ _ h=>h,λ_ _ _ h=>h,λ_ _ _ _ _ h=>h,λ_ _ _ _ h=>h⟩,Yr _,rfl,rfl,rfl,λ_ _=>rfl,λ_=>Yr _,λ_ _ _=>⟨rfl,λ_ _=>⟨rfl,rfl⟩⟩⟩,λ_ _ _=>⟨rfl,rfl⟩,λκ _ h=>.inl ⟨κ,h⟩⟩
 exact⟨hs,h.keep hs.toExt ⟨h.wf.inj,h.wf.lt,h.wf.zero⟩ (λ_ _=>⟨rfl,λ_ _=>⟨rfl,rfl⟩⟩) rfl⟩
def least_false{n:E}{L:E->Zs}(h:¬ ∀i,i<n->L i=R):∃ i,i<n/\L i=V/\∀ k,k<i->L k=true:=by
 induction n with
 |zero=>exact Jt (λi hi=>by omega) h
 | succ n ih=>
  by_cases hn:∀ i,i<n->L i=R
  ·refine⟨n,kv,?_,hn⟩;cases hL:L n with
   |false=>rfl
   | true=>
    exact Jt (λi hi=>by
     rcases Zl i n with h1|h1
     ·exact hn i h1
     ·have:i=n:=kv
      subst this;exact hL) h
  ·obtain⟨i,h1,h2,h3⟩:=ih hn;exact⟨i,kv,h2,h3⟩
def left(L:E->Zs):E->E
 |0=>0
 |m+1=>left L m+if L m then 0 else 1
def Vr6{L:E->Zs}:∀ {m},left L m=0->∀ i,i<m->L i=R
 |0,_,i,hi=>by omega
 | m+1,h,i,hi=>by
  simp only[left]at h;rcases Zl i m with h1|h1
  ·exact Vr6 kv i h1
  ·have:i=m:=kv;subst this;cases hL:L i with
   |true=>rfl
   |false=>rw[hL]at h;simp at h
def Vr7{L:E->Zs}{i:E}(hL:L i=V):∀ {m},i<m->left (also L i) m+1=left L m
 |0,hi=>by omega
 | m+1,hi=>by
  simp only[left];rcases Zl i m with h1|h1
  ·have:=Vr7 hL h1;rw[show also L i m=L m by simp only[also,Xw (show ¬m=i by omega)]];omega
  ·have:i=m:=kv;subst this;have hb:∀ m,m<=i->left (also L i) m=left L m:=by
    intro m
    induction m with
    |zero=>intro _;rfl
    |succ m ih=>
     intro hm;simp only[left];rw[ih kv,show also L i m=L m by simp only[also,Xw (show ¬m=i by omega)]]
   rw[hb i (Yr _),hL];simp[also]
def Vm7{ops:D Zt}{st:D DS}{M:D E}{f0:D SV}{i:E}{o:Zt}{L:E->Zs}(h:alOk ops st M f0 i o=R)(hun:L i=V)(hup:∀ k,L k=R->(M.getD k 0).testBit i=V)(ha:Vd4 o.op=R)(id:E)(hd:o.dst=Y id):∀ n,n<=ops.length->(frD ops st f0 L n).any (SV.names id)=false:=by
 unfold alOk at h;rw[ha,hd]at h;simp only[Zm,Zz,Z9]at h;obtain⟨h1,h2⟩:=h;intro n
 induction n with
 |zero=>
  intro _;simp only[frD];rw[Xr];intro s hs;have:=h1 s hs;simpa using this
 | succ m ih=>
  intro hm;simp only[frD];have ih:=ih kv
  split
  ·rename_i hL;have hv:(valOf st m).names id=false:=by
    have:=h2 m kv;simp only[Yv,Z8,I1]at this;rcases this with(h|h)|h
    ·exact h
    ·subst h;rw[hun]at hL;simp at hL
    ·rw[hup m hL]at h;simp at h
   cases Vem ops m with
   |none=>exact ih
   |some d=>
    simp only[putF];rw[Xr]at ih ⊢;intro s hs;rcases List.mem_or_eq_of_mem_set hs with h|h
    ·exact ih s h
    ·subst h;simpa using hv
  ·exact ih
end
section
structure Inv (σ:Xs->Xs):Prop where
 inv:∀ κ,σ (σ κ)=κ
 snd:∀ κ,(σ κ).2=κ.2
def swapK(a b:Xs)(κ:Xs):Key:=if κ=a then b else if κ=b then a else κ
def Vah(a b:Xs)(h:a.2=b.2):Inv (swapK a b):=by
 refine⟨λκ=>?_,λκ=>?_⟩
 ·unfold swapK
  by_cases h1:κ=a
  ·subst h1
   by_cases h2:b=κ
   ·simp[h2]
   ·simp[h2]
  ·by_cases h2:κ=b
   ·subst h2;simp[h1]
   ·simp[h1,h2]
 ·unfold swapK
  by_cases h1:κ=a
  ·subst h1;simp[h]
  ·by_cases h2:κ=b
   ·subst h2;simp[h1,h]
   ·simp[h1,h2]
def PV.ren(σ:Xs->Xs):PV->PV
 | .av x=>.av x
 | .ptr b o=>.ptr (σ (b,0)).1 o
 | .mp b=>.mp (σ (b,0)).1
def CV.ren(σ:Xs->Xs):CV->CV
 | .own k g sz l=>.own (σ k) g sz l
 |x=>x
def XV.ren(σ:Xs->Xs):XV->XV
 | .c x=>.c (x.ren σ)
 | .a l=>.a (l.map (CV.ren σ))
def SV.ren(σ:Xs->Xs):SV->SV
 | .ptr b o=>.ptr (σ (b,0)).1 o
 | .mp b=>.mp (σ (b,0)).1
 | .own k g sz l=>.own (σ k) g sz l
 | .fn f fs cs=>.fn f (fs.map (PV.ren σ)) (cs.map (PV.ren σ))
 | .son b=>.son (σ (b,0)).1
 | .vs b n=>.vs (σ (b,0)).1 n
 | .vp b sz i o=>.vp (σ (b,0)).1 sz i o
 | .vw b sz o n=>.vw (σ (b,0)).1 sz o n
 | .ag l=>.ag (l.map (CV.ren σ))
 | .tp l=>.tp (l.map (XV.ren σ))
 |s=>s
def ABox.ren(σ:Xs->Xs):Yx->Yx
 | .cells t l=>.cells t (l.map (SV.ren σ))
 | .mi ks l=>.mi ks (l.map (SV.ren σ))
 |x=>x
def renB(σ:Xs->Xs)(bx:D (E×Yx)):D (E×Yx):=bx.map (λp=>((σ (p.1,0)).1,p.2.ren σ))
def renG(σ:Xs->Xs)(gn:D (Xs×E)):D (Xs×E):=gn.map (λp=>(σ p.1,p.2))
def Gh.ren(σ:Xs->Xs)(G:Gh):Gh:=⟨G.U,G.cp,λκ=>G.ow (σ κ),λκ=>G.gen (σ κ),G.df⟩
section
variable {σ:Xs->Xs} (hσ:Inv σ)
include hσ
def Gh.ren_ren(G:Gh):(G.ren σ).ren σ=G:=by
 obtain⟨U,cp,ow,gen,df⟩:=G;simp only[Gh.ren,hσ.inv]
def key0(b:E):((σ (b,0)).1,0)=σ (b,0):=by
 exact Prod.ext rfl (hσ.snd (b,0)).symm
def RepP_ren{G:Gh}{w:Zx}{p:PV}{u:Yq}:RepP (G.ren σ) w p u ↔ RepP G w (p.ren σ) u:=by
 cases p with
 |av x=>exact Qu
 |ptr b o=>simp only[RepP,PV.ren,Gh.ren,key0 hσ]
 |mp b=>simp only[RepP,PV.ren,Gh.ren,key0 hσ]
def Vsa{G:Gh}{w:Zx}:∀ {l:D PV} {us:D Yq},RepPs (G.ren σ) w l us ↔ RepPs G w (l.map (PV.ren σ)) us
 |[],us=>Qu
 |p::l,us=>by simp only[RepPs,Z0,RepP_ren hσ,Vsa (l:=l)]
def RepC_ren{G:Gh}{w:Zx}{s:CV}{u:Yq}:RepC (G.ren σ) w s u ↔ RepC G w (s.ren σ) u:=by
 cases s with
 |av x=>exact Qu
 |nil=>exact Qu
 |own k g sz l=>simp only[RepC,RepOwn,CapZ,CV.ren,Gh.ren,hσ.snd]
def Vmg{G:Gh}{w:Zx}:∀ {l:D CV} {us:D Yq},RepCs (G.ren σ) w l us ↔ RepCs G w (l.map (CV.ren σ)) us
 |[],us=>Qu
 |x::l,us=>by simp only[RepCs,Z0,RepC_ren hσ,Vmg (l:=l)]
def RepX_ren{G:Gh}{w:Zx}{s:XV}{u:Yq}:RepX (G.ren σ) w s u ↔ RepX G w (s.ren σ) u:=by
 cases s with
 |c x=>exact RepC_ren hσ
 |a l=>simp only[RepX,XV.ren,Vmg hσ]
def Vs9{G:Gh}{w:Zx}:∀ {l:D XV} {us:D Yq},RepXs (G.ren σ) w l us ↔ RepXs G w (l.map (XV.ren σ)) us
 |[],us=>Qu
 |x::l,us=>by simp only[RepXs,Z0,RepX_ren hσ,Vs9 (l:=l)]
def RepS_ren{G:Gh}{w:Zx}{s:SV}{u:Yq}:Xv (G.ren σ) w s u ↔ Xv G w (s.ren σ) u:=by
 cases s with
 |junk=>exact Qu
 |nil=>exact Qu
 |av x=>exact Qu
 |ptr b o=>simp only[Xv,SV.ren,Gh.ren,key0 hσ]
 |mp b=>simp only[Xv,SV.ren,Gh.ren,key0 hσ]
 |own k g sz l=>
  simp only[Xv,RepOwn,CapZ,SV.ren,Gh.ren,hσ.snd]
 |ag l=>simp only[Xv,SV.ren,Vmg hσ]
 |tp l=>simp only[Xv,SV.ren,Vs9 hσ]
 |clo l=>exact Qu
 |son b=>simp only[Xv,SV.ren,Gh.ren,key0 hσ]
 |vs b n=>simp only[Xv,SV.ren,Gh.ren,key0 hσ]
 |vp b sz i o=>simp only[Xv,SV.ren,Gh.ren,key0 hσ]
 |vw b sz o n=>simp only[Xv,SV.ren,Gh.ren,key0 hσ]
 |fn f fs cs=>simp only[Xv,SV.ren,Vsa hσ]
def Vif{G:Gh}{w:Zx}:∀ {l:D SV} {us:D Yq},D5 (G.ren σ) w l us ↔ D5 G w (l.map (SV.ren σ)) us
 |[],us=>Qu
 |p::l,us=>by simp only[D5,Z0,RepS_ren hσ,Vif (l:=l)]
def RepB_ren{G:Gh}{w:Zx}{id:E}{x:Yx}:Bh (G.ren σ) w id x ↔ Bh G w (σ (id,0)).1 (x.ren σ):=by
 cases x with
 |cells t l=>simp only[Bh,ABox.ren,Gh.ren,key0 hσ];simp only[<-Vif hσ,Gh.ren]
 |map ks vs=>simp only[Bh,ABox.ren,Gh.ren,key0 hσ]
 |mi ks l=>simp only[Bh,ABox.ren,Gh.ren,key0 hσ];simp only[<-Vif hσ,Gh.ren]
 |vec e sz l=>simp only[Bh,ABox.ren,Gh.ren,key0 hσ]
 |ge n=>simp only[Bh,ABox.ren]
 |gl b vs=>simp only[Bh,ABox.ren,Gh.ren,key0 hσ]
 |it s pos=>simp only[Bh,ABox.ren,Gh.ren,key0 hσ]
 |vck e sz l=>simp only[Bh,ABox.ren,Gh.ren,key0 hσ]
def Wf_ren{G:Gh}{w:Zx}(h:Wf G w):Wf (G.ren σ) w:=
 ⟨λκ κ' b h1 h2=>by have:=h.inj (σ κ) (σ κ') b h1 h2;have:=Zf σ this;rwa[hσ.inv,hσ.inv]at this,λκ b h1=>h.lt (σ κ) b h1,h.zero⟩
def Step_ren{G G':Gh}{w w':Zx}(h:Iv G w G' w'):Iv (G.ren σ) w (G'.ren σ) w':=by
 refine⟨⟨h.U,h.imm,h.size,h.os,h.tape,h.output,h.cp,λκ=>h.gen (σ κ),λκ h0 hg=>?_⟩,λb hb hn=>h.stay b hb (λκ hκ=>hn (σ κ) (by simp only[Gh.ren,hσ.inv];exact hκ)),λκ b hκ=>?_⟩
 ·have h0':0<(σ κ).2:=by rw[hσ.snd];exact h0
  exact h.tok (σ κ) h0' hg
 ·rcases h.rng (σ κ) b hκ with⟨κ',h'⟩|h'
  ·exact .inl ⟨σ κ',by simp only[Gh.ren,hσ.inv];exact h'⟩
  ·exact .inr h'
def Vnh:∀(gn:D (Xs×E))(κ:Xs),(renG σ gn).lookup κ=gn.lookup (σ κ)
 |[],κ=>rfl
 | (k,g)::gn,κ=>by
  have ih:=Vnh gn κ;simp only[renG,Z0,Dy]at ih ⊢;have:(κ==σ k)=(σ κ==k):=by
   rw[Bool.eq_iff_iff];simp only[I1];constructor
   ·intro h;rw[h,hσ.inv]
   ·intro h;rw[<-h,hσ.inv]
  rw[this,ih]
include hσ in
def vecIds_ren(bx:D (E×Yx))(j:E):j∈Vbb bx ↔ (σ (j,0)).1∈Vbb (renB σ bx):=by
 have hinj:∀ i j:E,(σ (i,0)).1=(σ (j,0)).1->i=j:=by
  intro i j h;have h1:σ (i,0)=σ (j,0):=by rw[<-key0 hσ i, <-key0 hσ j,h]
  have h2:=Zf σ h1;rw[hσ.inv,hσ.inv]at h2;exact(Prod.mk.inj h2).1
 induction bx with
 |nil=>simp[Vbb,renB]
 | cons p l ih=>
  obtain⟨i,x⟩:=p;cases x with
  |vec e sz q=>
   simp only[Vbb,renB,Z0,ABox.ren,Ya];exact or_congr ⟨λe=>by rw[e],λe=>hinj _ _ e⟩ ih
  |cells t q=>simpa only[Vbb,renB,Z0,ABox.ren]using ih
  |map ks vs=>simpa only[Vbb,renB,Z0,ABox.ren]using ih
  |mi ks l=>simpa only[Vbb,renB,Z0,ABox.ren]using ih
  |ge n=>simpa only[Vbb,renB,Z0,ABox.ren]using ih
  |gl b vs=>simpa only[Vbb,renB,Z0,ABox.ren]using ih
  |it s pos=>simpa only[Vbb,renB,Z0,ABox.ren]using ih
  |vck e sz l=>simpa only[Vbb,renB,Z0,ABox.ren]using ih
def Vac{P:Zj}{f:Qr}{args:D SV}{bx:D (E×Yx)}{gn:D (Xs×E)}{res:SV}{bx':D (E×Yx)}{gn':D (Xs×E)}(h:Va1 P f args bx gn res bx' gn'):
  Va1 P f (args.map (SV.ren σ)) (renB σ bx) (renG σ gn) (res.ren σ) (renB σ bx') (renG σ gn'):=by
 refine⟨h.1,λG w vs hw hargs hbx hgn=>?_⟩;refine(h.2 (G.ren σ) w vs (Wf_ren hσ hw) ((Vif hσ).2 hargs) (λp hp=>(RepB_ren hσ).2 (hbx _ (Xx hp))) (λp hp=>hgn _ (Xx (f:=λp:Xs×E=>(σ p.1,p.2)) hp))).mono ?_;rintro e w' ⟨v,G',he,s1,s2,s3,s4,s5,s6,s7⟩;have hgg:=Gh.ren_ren hσ G;have hs:=Step_ren hσ s1;rw[hgg]at hs;refine⟨v,G'.ren σ,he,hs,Wf_ren hσ s2,?_,?_,?_,?_,?_⟩
 ·rw[<-RepS_ren hσ,Gh.ren_ren hσ];exact s3
 ·intro p hp;simp only[renB,Yg]at hp;obtain⟨q,hq,rfl⟩:=hp;simp only;rw[<-RepB_ren hσ,Gh.ren_ren hσ];exact s4 q hq
 ·intro i hi;have hj:(σ (i,0)).1 ∉ bx'.map (·.1):=by
   intro hm;simp only[Yg]at hm;obtain⟨p,hp,hpe⟩:=hm;refine hi ?_;simp only[renB,List.map_map,Yg,Function.comp];exact⟨p,hp,by rw[hpe,key0 hσ,hσ.inv]⟩
  have hk:=s5 _ hj;rw[key0 hσ]at hk;obtain⟨k1,k2⟩:=hk;refine⟨?_,λb hb=>k2 b ?_⟩
  ·simp only[Gh.ren]at k1 ⊢;rw[k1,hσ.inv]
  ·simp only[Gh.ren,hσ.inv];exact hb
 ·intro i hiv;have:=s6 (σ (i,0)).1 (λhm=>hiv (by have h:=(vecIds_ren hσ bx' (σ (i,0)).1).1 hm;rw[key0 hσ,hσ.inv]at h;exact h));rw[key0 hσ]at this;simp only[Gh.ren]at this ⊢;rw[this,hσ.inv]
 ·intro κ;rw[Vnh hσ];have:=s7 (σ κ);simp only[Gh.ren]at this ⊢;rw[this,hσ.inv]
end
def Ghost(S S':St):Prop:=∀ G w a,Ja G w S a->∃ G',Iv G w G' w/\Ja G' w S' a/\∀ i,Fx i->G'.ow (i,0)=G.ow (i,0)
def W_ghost{P:Zj}{c:Jm}{Q:Yk->St->Prop}{S S':St}(hg:Ghost S S')(h:W P c Q S'):W P c Q S:=by
 intro G w a hr;obtain⟨G',h1,h2,h3⟩:=hg G w a hr;exact Code.wp_mono (λe a' w' hl=>Vcs h1 h3 hl) (h G' w a h2)
def Ghost.trans{S S' S'':St}(h:Ghost S S')(k:Ghost S' S''):Ghost S S'':=by
 intro G w a hr;obtain⟨G1,h1,h2,h3⟩:=h G w a hr;obtain⟨G2,k1,k2,k3⟩:=k G1 w a h2;exact⟨G2,h1.trans k1,k2,λi hi=>(k3 i hi).trans (h3 i hi)⟩
abbrev j0:SV:=.av (.tup [])
abbrev jI(n:J):SV:=.av (.val (.int .i64 n))
abbrev jB(b:Zs):SV:=.av (.val (.bool b))
abbrev jS(s:Zh):SV:=.av (.val (.string s))
abbrev jL(l:D AV):SV:=.av (.sl l)
abbrev vI(n:J):AV:=.val (.int .i64 n)
abbrev vB(b:Zs):AV:=.val (.bool b)
abbrev vS(s:Zh):AV:=.val (.string s)
end
section
def frOf(n:E)(l:D (E×SV)):D SV:=(Y2 n).map (λi=>(l.lookup i).getD .junk)
def sx(n:E)(l:D (E×SV))(bx:D (E×Yx))(gn:D (Xs×E)):St:=⟨frOf n l,bx,gn⟩
abbrev Seen:=E×D (Zn SV)×D (E×Yx)×D (Xs×E)
def sees(S:St)(ks:D E):Seen:=(S.fr.length,ks.map (λk=>S.fr[k]?),S.bx,S.gn)
def seen(r:Zn (D Prop×D Or×Yk×St))(ks:D E):Zn (D Prop×D Or×Yk×Seen):=
 match r with
 |some (cs,o,e,S)=>Y (cs,o,e,sees S ks)
 |none=>Zo
def Vjp(l:D (E×SV)):D Nat:=l.map (·.1)
def Vjm(l:D (E×SV)):D (Zn SV):=l.map (λp=>Y p.2)
def lookup_mem2{α:Type}{l:D (E×α)}{b:E}{x:α}(h:l.lookup b=Y x):(b,x)∈l:=by
 induction l with
 |nil=>simp at h
 |cons p l ih=>
  obtain⟨k,y⟩:=p;simp only[Dy]at h
  split at h
  ·rename_i hk;simp at hk h;subst hk h;simp
  ·simp[ih h]
def frOf_get{n:E}{l:D (E×SV)}{t:E}{s:SV}(h:(frOf n l)[t]? =Y s):t<n/\s=(l.lookup t).getD .junk:=by
 simp only[frOf,List.getElem?_map,Zr]at h;obtain⟨i,h1,rfl⟩:=h;have hlt:t<n:=by
  rcases Zl t (Y2 n).length with h|h
  ·simpa using h
  ·simp[Zv h]at h1
 simp[List.getElem?_range hlt]at h1;subst h1;exact⟨hlt,rfl⟩
def frOf_length(n:E)(l:D (E×SV)):(frOf n l).length=n:=by simp[frOf]
def vals_get{f:D SV}:∀ {l:D (E×SV)},(Vjp l).map (λk=>f[k]?)=Vjm l->∀ p∈l,f[p.1]? =Y p.2
 |[],_,p,hp=>by simp at hp
 |q::l,h,p,hp=>by
  simp only[Vjp,Vjm,Z0,Yi]at h;simp only[Ya]at hp;rcases hp with rfl|hp
  ·exact h.1
  ·exact vals_get (l:=l) h.2 p hp
def W_end{P:Zj}{c:Jm}{Q:Yk->St->Prop}{S:St}(h:W P c (λe S1=>∃ S2,Qv S1 S2/\Q e S2) S):W P c Q S:=by
 intro G w a hr;refine Code.wp_mono (λe a' w' hl=>?_) (h G w a hr);obtain⟨S1,G1,⟨S2,hg,hq⟩,h2,h3,h4⟩:=hl;exact⟨S2,G1,hq,h2,hg G1 w' a' h3,h4⟩
end
end Go.Eng
namespace Go.Proofs.YthbpjmogdonlkaaGreatDoor
open Go Go.Eng
end Go.Proofs.YthbpjmogdonlkaaGreatDoor
namespace Go.Eng
section
abbrev oF:Or:=.b V
def rp(n:E)(x:Or)(l:D Or):D Or:=Jh n x++l
def Vos:E->Prop->D Prop->D Prop
 |0,_,l=>l
 |n+1,p,l=>p::Vos n p l
def acn(n:E){p:Prop}{l:D Prop}(hp:p)(h:Iy l):Iy (Vos n p l):=by
 induction n with
 |zero=>exact h
 |succ n ih=>exact⟨hp,ih⟩
def akn(n:E){l:D Prop}(h:Iy l):Iy (Vos n Bb l):=acn n Yf h
def tt:R=true:=rfl
def ff:V=false:=rfl
def wrE(x m:J)(h:x=m/\ -9223372036854775808<=x/\x<=9223372036854775807):IntKind.i64.wrap x=m:=by
 rw[wrap_i64 h.2.1 h.2.2];exact h.1
abbrev SeenB:=E×D (Zn SV)×D (Zn Yx)×D (Xs×E)
def seesB(S:St)(ks bs:D E):SeenB:=(S.fr.length,ks.map (λk=>S.fr[k]?),bs.map (λb=>S.bx.lookup b),S.gn)
def Vry(l:D (E×Yx)):D Nat:=l.map (·.1)
def Vrx(l:D (E×Yx)):D (Zn Yx):=l.map (λp=>Y p.2)
def Vrw{f:D (E×Yx)}:∀ {l:D (E×Yx)},(Vry l).map (λk=>f.lookup k)=Vrx l->∀ p∈l,f.lookup p.1=Y p.2
 |[],_,p,hp=>by simp at hp
 |q::l,h,p,hp=>by
  simp only[Vry,Vrx,Z0,Yi]at h;simp only[Ya]at hp;rcases hp with rfl|hp
  ·exact h.1
  ·exact Vrw (l:=l) h.2 p hp
def Vgi{S:St}{n:E}{l:D (E×SV)}{bx:D (E×Yx)}{gn:D (Xs×E)}(h:seesB S (Vjp l) (Vry bx)=(n,Vjm l,Vrx bx,gn)):Qv S (sx n l bx gn):=by
 simp only[seesB,Zb]at h;obtain⟨h1,h2,h3,h4⟩:=h;intro G w a hr;refine⟨hr.wf,?_,λt s ht=>?_,λp hp=>?_,?_,hr.defers⟩
 ·simp only[sx,frOf_length];rw[<-h1];exact hr.size
 ·obtain⟨_,rfl⟩:=frOf_get ht;cases hl:l.lookup t with
  |none=>trivial
  |some v=>exact hr.fr t v (vals_get h2 _ (lookup_mem2 hl))
 ·exact hr.bx p (Vag (Vrw h3 p hp))
 ·intro k;rw[hr.gn k];simp only[sx,St.gen,h4]
def Vci{P:Zj}{ops:Yj Zt}{more:D Zt}:∀(l:D Zt)(ors ors':D Or)(S S':St)(cs:D Prop),Vdi P (ops.toList.map (·.dst)) l ors S=Y (cs,ors',S')->Iy cs->∀(G:Gh)(w:Zx)(a:Iz),Ja G w S a->
  ∀Q:Yk->Iz->Zx->Prop,(∀G' a' w',Iv G w G' w'->Ja G' w' S' a'->(∀i,Fx i->G'.ow (i,0)=G.ow (i,0))->wpList P ops Q more a' w')->wpList P ops Q (l++more) a w
 |[],ors,ors',S,S',cs,h,hc,G,w,a,hr,Q,hq=>by
  simp only[Vdi,Za,Zb]at h;obtain⟨_,_,rfl⟩:=h;exact hq G a w (Step.refl G w) hr (λ_ _=>rfl)
 | o::rest,ors,ors',S,S',cs,h,hc,G,w,a,hr,Q,hq=>by
  have Vhj:∀ G w,Xv G w Vav undef:=by
   intro G w;simp only[Vav,Xv,Bm];exact⟨#[],rfl,by simp[Fr]⟩
  have go:∀ {c1 ors0 ors1 S1 c2},Vgp P o ors0 S=Y (c1,ors1,S1)->Iy c1->Vdi P (ops.toList.map (·.dst)) rest ors1 S1=Y (c2,ors',S')->Iy c2->o.wp P a w (wpList P ops Q (rest++more)) Q:=by
   intro c1 ors0 ors1 S1 c2 h1 hc1 h2 hc2;exact Vc5 h1 hc1 hr (λG' a' w' g1 g2 g3=>Vci rest ors1 ors' S1 S' c2 h2 hc2 G' w' a' g2 Q (λG2 a2 w2 q1 q2 q3=>hq G2 a2 w2 (g1.trans q1) q2 (λi hi=>(q3 i hi).trans (g3 i hi))))
  simp only[Vdi]at h;simp only[Y1,wpList]
  split at h
  ·rename_i hg;rw[Z1 (by simp[Zu,hg])]
   split at h
   ·rename_i c1 ors1 S1 h1
    split at h
    ·rename_i c2 r h2;simp only[Za,Zb]at h;obtain⟨rfl,rfl⟩:=h;obtain⟨hc1,hc2⟩:=Vba hc;exact .inl (go h1 hc1 h2 hc2)
    ·simp at h
   ·simp at h
  ·rename_i j want hg
   split at h
   ·rename_i hs;obtain⟨t,u,e1,e2,e3⟩:=Vbu hs hr;simp only[Xv,Bm]at e3;obtain⟨us,rfl,_⟩:=e3;have hwant:Zu o (yielded ops a.tmps)=false:=by
     simp only[Zu,hg,yielded,e1,Ye,e2];rfl
    rw[hwant];simp only[Zw,Xy];exact Vci rest ors ors' _ S' cs h hc G w _ (hr.put o.dst (Vhj G w)) Q hq
   ·rename_i b hs;obtain⟨t,u,e1,e2,e3⟩:=Vbu hs hr;simp only[Xv,Bm]at e3;obtain⟨rfl,_⟩:=e3
    split at h
    ·rename_i d ors2
     split at h
     ·rename_i hd
      split at h
      ·rename_i c1 ors1 S1 h1
       split at h
       ·rename_i c2 r h2;simp only[Za,Zb]at h;obtain⟨rfl,rfl⟩:=h;obtain⟨hb,hc'⟩:=hc;obtain⟨hc1,hc2⟩:=Vba hc';subst hb hd;rw[Z1 (by simp only[Zu,hg,yielded,e1,Ye,e2];simp)];exact .inl (go h1 hc1 h2 hc2)
       ·simp at h
      ·simp at h
     ·rename_i hd
      split at h
      ·rename_i c2 r h2;simp only[Za,Zb]at h;obtain⟨rfl,rfl⟩:=h;obtain⟨hb,hc'⟩:=hc;subst hb;have hwant:Zu o (yielded ops a.tmps)=false:=by
        simp only[Zu,hg,yielded,e1,Ye,e2];cases b <;>cases want <;>simp_all
       rw[hwant];simp only[Zw,Xy];exact Vci rest ors2 ors' _ S' c2 h2 hc' G w _ (hr.put o.dst (Vhj G w)) Q hq
      ·simp at h
    ·simp at h
   ·simp at h
def WO(P:Zj)(ops:Yj Zt)(l:D Zt)(Q:St->Prop)(S:St):Prop:=
 ∀(more:D Zt)(Q':Yk->Iz->Zx->Prop)(G:Gh)(w:Zx)(a:Iz),Ja G w S a->
  (∀S' G' a' w',Q S'->Iv G w G' w'->Ja G' w' S' a'->(∀i,Fx i->G'.ow (i,0)=G.ow (i,0))->wpList P ops Q' more a' w')->wpList P ops Q' (l++more) a w
def Vam{P:Zj}{id:E}{ops:Yj Zt}{Q:Yk->St->Prop}{S:St}(h:WO P ops ops.toList (Q .normal) S):W P (.region id ops V) Q S:=
 λG w a hr=>wp_region_list (by
  have:=h [] (lift Q G w) G w a hr (λS' G' a' w' h1 h2 h3 h4=>⟨S',G',h1,h2,h3,h4⟩);rw[List.append_nil]at this
  exact this)
def Vbl{P:Zj}{ops:Yj Zt}{l:D Zt}{Q:St->Prop}{S:St}(hl:l.length=0)(h:Q S):WO P ops l Q S:=by
 have:l=[]:=Qb.1 hl;subst this;intro more Q' G w a hr hq;exact hq S G a w h (Step.refl G w) hr (λ_ _=>rfl)
def Vpp{P:Zj}{ops:Yj Zt}{l:D Zt}{Q:St->Prop}{S S':St}(n:E)(h1:WO P ops (l.take n) (λS1=>Qv S1 S') S)(h2:WO P ops (l.drop n) Q S'):WO P ops l Q S:=by
 intro more Q' G w a hr hq;have e:l++more=l.take n++(l.drop n++more):=by rw[<-Xb,List.take_append_drop]
 rw[e];refine h1 _ Q' G w a hr (λS1 G1 a1 w1 k1 k2 k3 k4=>?_);exact h2 _ Q' G1 w1 a1 (k1 G1 w1 a1 k3) (λS2 G2 a2 w2 q1 q2 q3 q4=>hq S2 G2 a2 w2 q1 (k2.trans q2) q3 (λi hi=>(q4 i hi).trans (k4 i hi)))
def seenO(r:Zn (D Prop×D Or×St))(ks bs:D E):Zn (D Prop×D Or×SeenB):=
 match r with
 |some (cs,o,S)=>Y (cs,o,seesB S ks bs)
 |none=>Zo
def Vmb{P:Zj}{ops:Yj Zt}{l:D Zt}{S:St}{cs:D Prop}{Q:St->Prop}(ors:D Or)(n:E)(sl:D (E×SV))(bx:D (E×Yx))(gn:D (Xs×E))(hc:Iy cs)
  (h:seenO (Vdi P (ops.toList.map (·.dst)) l ors S) (Vjp sl) (Vry bx)=Y (cs,[],n,Vjm sl,Vrx bx,gn)) (hq:Q (sx n sl bx gn)):WO P ops l Q S:=by
 unfold seenO at h
 split at h
 ·rename_i cs' o S1 hr;simp only[Za,Zb]at h;obtain⟨rfl,rfl,h4⟩:=h;intro more Q' G w a hrel hcont;refine Vci l ors _ S S1 _ hr hc G w a hrel Q' (λG' a' w' q1 q2 q3=>?_);exact hcont _ G' a' w' hq q1 (Vgi (n:=n) (l:=sl) (bx:=bx) (gn:=gn) h4 G' w' a' q2) q3
 ·simp at h
def Vim{sz:E}{x:AV}(h:x.cells.length=sz)(h2:x.isTup=V):Bk sz [x]:=by intro y hy;simp only[List.mem_singleton]at hy;subst hy;exact⟨h,h2⟩
def nott{b:Zs}(h:(!b)=R):b=false:=by cases b <;>simp_all
def notf{b:Zs}(h:(!b)=V):b=true:=by cases b <;>simp_all
def Va9{a x:Zs}(h:Zg a x V=R):a=R/\x=true:=by cases a <;>simp_all
def Va8{a y:Zs}(h:Zg a R y=V):a=V/\y=false:=by cases a <;>simp_all
def cond_ft{a y:Zs}(h:Zg a V y=R):a=V/\y=true:=by cases a <;>simp_all
def Va5{α:Type}(Q:α->Prop){b:Zs}{x y:α}(h1:b=R->Q x)(h2:b=V->Q y):Q (Zg b x y):=by cases b;exact h2 rfl;exact h1 rfl
def Vgb(b:Zs)(x y:J):Zg b x y=x\/Zg b x y=y:=by cases b <;>simp
inductive Oq where
 |o (x:Or)
 |w (l:D AV)
 |j (o1 o2:D Oq)
 |s (ts:D E) (o1 o2:D Oq)
 |p (i:E)
def still:Op->Zs
 | .move _=>R
 | .assign _=>R
 | .pick _ _ _=>R
 | .binOp _ _ _ _ _=>R
 | .unOp _ _ _=>R
 | .extract _ _=>R
 | .nilCheck _=>R
 | .fieldAddr _ _ _=>R
 | .load _ _=>R
 | .indexAddr _ _ _=>R
 | .index _ _ _=>R
 | .slice _ _ _ _ Zo=>R
 | .lookup _ _ _ _=>R
 | .convert _ _ _=>R
 | .build _ _=>R
 | .buildSlice _ _ _=>R
 | .call {callee:=.builtin .len,args:=_,argTypes:=_}=>R
 | .call {callee:=.builtin .max,args:=_,argTypes:=_}=>R
 | .call {callee:=.builtin .min,args:=_,argTypes:=_}=>R
 | .call {callee:=.value _,args:=_,argTypes:=_}=>R
 |_=>V
def Viz:Or->Zs
 | .c _ [] _ []=>R
 | .c _ _ _ _=>V
 |_=>R
def wOp:Op->Zs
 | .slice _ _ _ _ _=>R
 | .call {callee:=.builtin .append,args:=_,argTypes:=_}=>R
 |_=>V
def Vcl(S:St)(d:Zn Bj):SV:=match d with
 |some d=>S.fr.getD d .junk
 |none=>.junk
def normW(o:Zt)(r:D Prop×D Oq×St):Zn (D Prop×D Oq×St):=
 match Vcl r.2.2 o.dst,r.2.1 with
 | .own k g sz l0,.w l::ors=>Y (r.1++[l0=l],ors,r.2.2.put o.dst (.own k g sz l))
 | .av (.sl l0),.w l::ors=>Y (r.1++[l0=l],ors,r.2.2.put o.dst (.av (.sl l)))
 | .av (.val _),_=>Y r
 | .vs _ _,_=>Y r
 | .vw _ _ _ _,_=>Y r
 |_,_=>Zo
def exec0(P:Zj)(md:Zs)(o:Zt)(ors:D Oq)(S:St):Zn (D Prop×D Oq×St):=
 match Vgp P o [] S with
 |some (c,_,S1)=>Y (c,ors,S1)
 | none=>match ors with
  | .o x::ors=>match Vgp P o [x] S,Viz x|| !md with
   |some (c,[],S1),R=>Y (c,ors,S1)
   |_,_=>Zo
  |_=>Zo
def exec(P:Zj)(md:Zs)(o:Zt)(ors:D Oq)(S:St):Zn (D Prop×D Oq×St):=
 match wOp o.op with
 |false=>exec0 P md o ors S
 |true=>match exec0 P md o ors S with
  |some r=>normW o r
  |none=>Zo
def litB(lits:D E)(S:St):Q5->Zn Zs
 | .tmp t=>match lits.contains t,S.ev (.tmp t)with
  |true,.av (.val (.bool b))=>Y b
  |_,_=>Zo
 |_=>Zo
def Vp8(P:Zj)(md:Zs)(lits:D E)(o:Zt)(ors:D Oq)(S:St):Zn (D Prop×D Oq×St):=
 match o.op with
 | .pick c x y=>match litB lits S c with
  |some b=>Y ([],ors,S.put o.dst (match b with|true=>S.ev x|false=>S.ev y))
  |none=>exec P md o ors S
 |_=>exec P md o ors S
def mrg(b:Zs):SV->SV->Zn SV
 | .av (.val (.bool x)),.av (.val (.bool y))=>Y (.av (.val (.bool (Zg b x y))))
 | .av (.val (.int k x)),.av (.val (.int k' y))=>if k=k' then Y (.av (.val (.int k (Zg b x y))))else Zo
 | .av (.val (.string x)),.av (.val (.string y))=>Y (.av (.val (.string (Zg b x y))))
 | .av (.sl x),.av (.sl y)=>Y (.av (.sl (Zg b x y)))
 |_,_=>Zo
def Vfw(t:E):D Zt->E
 |[]=>0
 |o::l=>match o.op with
  | .pick (.tmp c) _ _=>if c=t then 1 else Vfw t l+1
  |_=>Vfw t l+1
def Vbx(l:D Zt):D Nat:=l.filterMap (·.dst)
def Vdo(S:St)(ts:D E):St:=ts.foldl (λS t=>S.put (Y t) .junk) S
def Vlg(l:D Zt):Zn Tmp:=match l.getLast? with
 |some o=>o.dst
 |none=>Zo
def runG(P:Zj)(ds:D (Zn Bj)):Zs->E->D E->D Zt->D Oq->St->Zn (D Prop×D Oq×St)
 |_,_,_,[],ors,S=>Y ([],ors,S)
 |_,0,_,_::_,_,_=>Zo
 | md,n+1,lits,o::rest,ors,S=>match o.guard with
  | none=>match Vp8 P md lits o ors S with
   |some (c1,ors1,S1)=>match runG P ds md n lits rest ors1 S1 with
    |some (c2,r)=>Y (c1++c2,r)
    |none=>Zo
   |none=>Zo
  | some (j,want)=>match(ds[j]?).join with
   |none=>Zo
   | some t=>match S.fr[t]? with
    |some (.av (.tup []))=>runG P ds md n lits rest ors (S.put o.dst Vav)
    | some (.av (.val (.bool b)))=>match lits.contains t with
     | true=>match(match want with|true=>b|false=> !b)with
      | true=>match Vp8 P md lits o ors S with
       |some (c1,ors1,S1)=>match runG P ds md n lits rest ors1 S1 with
        |some (c2,r)=>Y (c1++c2,r)
        |none=>Zo
       |none=>Zo
      |false=>runG P ds md n lits rest ors (S.put o.dst Vav)
     | false=>match ors with
      | .o (.b d)::ors=>if d=want then match Vp8 P md lits o ors S with
        |some (c1,ors1,S1)=>match runG P ds md n lits rest ors1 S1 with
         |some (c2,r)=>Y ((b=d)::(c1++c2),r)
         |none=>Zo
        |none=>Zo
       else match runG P ds md n lits rest ors (S.put o.dst Vav)with
        |some (c2,r)=>Y ((b=d)::c2,r)
        |none=>Zo
      | .j o1 o2::ors=>match((o::rest).take (Vfw t (o::rest))).all (fun o=>still o.op),runG P ds R n (t::lits) ((o::rest).take (Vfw t (o::rest))) o1 (S.put (Y t) (.av (.val (.bool R)))),runG P ds R n (t::lits) ((o::rest).take (Vfw t (o::rest))) o2 (S.put (Y t) (.av (.val (.bool V))))with
       | true,Y (c1,[],S1),Y (c2,[],S2)=>match mrg b (Vcl S1 (Vlg ((o::rest).take (Vfw t (o::rest))))) (Vcl S2 (Vlg ((o::rest).take (Vfw t (o::rest)))))with
        |some v=>match runG P ds md n lits ((o::rest).drop (Vfw t (o::rest))) ors ((Vdo S (Vbx ((o::rest).take (Vfw t (o::rest))))).put (Vlg ((o::rest).take (Vfw t (o::rest)))) v)with
         |some (c3,r)=>Y ((b=R->Iy c1)::(b=V->Iy c2)::c3,r)
         |none=>Zo
        |none=>Zo
       |_,_,_=>Zo
      |_=>Zo
    |_=>Zo
def Vfe{P:Zj}{o:Zt}{S:St}{r:Res}(h:Vb8 P o S=Y r)(hs:still o.op=R):r.st=S:=by
 unfold Vb8 at h
 split at h
 all_goals first|(rename_i ho;rw[ho]at hs)|(simp at h;done)
 all_goals try (simp only[still,Zw]at hs;done)
 all_goals try (simp only[Za]at h;subst h;rfl)
 ·unfold aPick at h;split at h <;>simp at h;subst h;rfl
 ·unfold aBinS at h
  split at h
  ·unfold aBinB at h;split at h
   ·split at h <;>simp at h <;>subst h <;>rfl
   ·simp at h
  ·rw[Zr]at h;obtain⟨_,_,rfl⟩:=h;rfl
  ·unfold aBinA at h;split at h
   ·split at h
    ·split at h <;>simp at h <;>subst h <;>rfl
    ·simp at h
   ·simp at h
  ·simp at h
 ·unfold aUnS at h;split at h
  ·rw[Zr]at h;obtain⟨_,_,rfl⟩:=h;rfl
  ·simp at h
 ·unfold Vfi at h;split at h
  ·rw[Zr]at h;obtain⟨_,_,rfl⟩:=h;rfl
  ·rw[Zr]at h;obtain⟨_,_,rfl⟩:=h;rfl
  ·simp at h
 ·unfold Vdu at h;split at h <;>simp at h <;>subst h <;>rfl
 ·unfold Vjt at h
  repeat' split at h
  all_goals first|(simp at h;done)|(simp only[Za]at h;subst h;rfl)
 ·unfold Vjj at h
  repeat' split at h
  all_goals first|(simp at h;done)|(simp only[Za]at h;subst h;rfl)|(rw[Zr]at h;obtain⟨_,_,rfl⟩:=h;rfl)
 ·unfold Vs7 at h
  repeat' split at h
  all_goals first|(simp at h;done)|(rw[Zr]at h;obtain⟨_,_,rfl⟩:=h;rfl)
 ·unfold Vc7 at h
  repeat' split at h
  all_goals first|(simp at h;done)|(simp only[Za]at h;subst h;rfl)
 ·unfold Veo at h
  repeat' split at h
  all_goals first|(simp at h;done)|(simp only[Za]at h;subst h;rfl)
 ·unfold Vs6 at h
  repeat' split at h
  all_goals first|(simp at h;done)|(simp only[Za]at h;subst h;rfl)
 ·unfold Vs3 at h
  repeat' split at h
  all_goals first|(simp at h;done)|(simp only[Za]at h;subst h;rfl)
 ·unfold Ve5 at h
  split at h
  ·unfold aLen at h
   repeat' split at h
   all_goals first|(simp at h;done)|(simp only[Za]at h;subst h;rfl)
  ·simp[still]at hs
  ·repeat' split at h
   all_goals first|(simp at h;done)|(simp only[Za]at h;subst h;rfl)
  ·repeat' split at h
   all_goals first|(simp at h;done)|(simp only[Za]at h;subst h;rfl)
  ·repeat' split at h
   all_goals first|(simp at h;done)|(simp only[Za]at h;subst h;rfl)
  ·simp[still]at hs
  ·simp at h
 ·unfold Vfh at h
  repeat' split at h
  all_goals first|(simp at h;done)|(simp only[Za]at h;subst h;rfl)
 ·unfold Vid at h
  repeat' split at h
  all_goals first|(simp at h;done)|(simp only[Za]at h;subst h;rfl)
def upd_nil(S:St):S.upd [] []=S:=by
 obtain⟨fr,bx,gn⟩:=S;simp[St.upd,Vbb]
def Vqg{P:Zj}{o:Zt}{ors ors':D Or}{S S':St}{cs:D Prop}(h:Vhs P o ors S=Y (cs,ors',S'))(hs:still o.op=R)(hq:∀ x∈ors,Viz x=R):∃ v,S'=S.put o.dst v:=by
 unfold Vhs at h
 split at h
 ·split at h
  ·simp only[Za,Zb]at h;exact⟨_,h.2.2.symm⟩
  ·simp at h
 ·split at h
  ·split at h
   ·simp only[Za,Zb]at h;exact⟨_,h.2.2.symm⟩
   ·simp at h
  ·simp only[Za,Zb]at h;exact⟨_,h.2.2.symm⟩
  ·simp at h
 ·split at h
  ·split at h
   ·simp only[Za,Zb]at h;exact⟨_,h.2.2.symm⟩
   ·simp at h
  ·simp at h
 ·split at h
  ·split at h
   ·simp only[Za,Zb]at h;exact⟨_,h.2.2.symm⟩
   ·simp at h
  ·simp at h
 ·split at h
  ·split at h
   ·split at h
    ·simp only[Za,Zb]at h;exact⟨_,h.2.2.symm⟩
    ·simp at h
   ·simp at h
  ·split at h
   ·split at h
    ·simp only[Za,Zb]at h;exact⟨_,h.2.2.symm⟩
    ·simp at h
   ·simp at h
 ·split at h
  ·rename_i f fs cs' res bx' gn gn' ors2 hx
   split at h
   case h_2=>simp at h
   simp only[Za,Zb]at h;have:=hq (.c res bx' gn gn') ku;unfold Viz at this
   split at this
   ·rename_i e;simp only[Or.c.injEq]at e;obtain⟨_,rfl,_,rfl⟩:=e;refine⟨res,?_⟩;rw[<-h.2.2,upd_nil]
   ·simp at this
   ·rename_i e;exact(e _ _ _ _ rfl).elim
  ·simp at h
 ·split at h
  ·rename_i ok v st y ors2 ha;simp only[Za,Zb]at h;refine⟨.av y,?_⟩;have:=Vfe ha hs;simp only at this;rw[<-h.2.2,this]
  ·simp at h
 ·split at h
  ·rename_i r ha;simp only[Za,Zb]at h;refine⟨r.v,?_⟩;rw[<-h.2.2,Vfe ha hs]
  ·simp at h
def Vkx{P:Zj}{o:Zt}{ors ors':D Or}{S S':St}{cs:D Prop}(h:Vgp P o ors S=Y (cs,ors',S'))(hs:still o.op=R)(hq:∀ x∈ors,Viz x=R):∃ v,S'=S.put o.dst v:=by
 unfold Vgp at h
 split at h
 ·simp only[Za,Zb]at h;exact⟨_,h.2.2.symm⟩
 ·exact Vqg h hs hq
def Vls{P:Zj}{o:Zt}{ors ors':D Oq}{S S':St}{cs:D Prop}(h:exec0 P R o ors S=Y (cs,ors',S'))(hs:still o.op=R):∃ v,S'=S.put o.dst v:=by
 unfold exec0 at h
 split at h
 ·rename_i c _ S1 h1;simp only[Za,Zb]at h;obtain⟨_,_,rfl⟩:=h;exact Vkx h1 hs ku
 ·split at h
  ·rename_i x ors2
   split at h
   ·rename_i c S1 h1 h2;simp only[Za,Zb]at h;obtain⟨_,_,rfl⟩:=h;exact Vkx h1 hs (by intro y hy;simp at hy;subst hy;simpa using h2)
   ·simp at h
  ·simp at h
def put_put(S:St)(d:Zn Bj)(u v:SV):(S.put d u).put d v=S.put d v:=by
 cases d with
 |none=>rfl
 |some d=>simp[Xo]
def Vnj{P:Zj}{o:Zt}{ors ors':D Oq}{S S':St}{cs:D Prop}(h:exec P R o ors S=Y (cs,ors',S'))(hs:still o.op=R):∃ v,S'=S.put o.dst v:=by
 unfold exec at h
 split at h
 ·exact Vls h hs
 ·split at h
  ·rename_i r h1;obtain⟨c,ors1,S1⟩:=r;obtain⟨v,rfl⟩:=Vls h1 hs;unfold normW at h;simp only at h
   split at h
   ·simp only[Za,Zb]at h;exact⟨_,by rw[<-h.2.2,put_put]⟩
   ·simp only[Za,Zb]at h;exact⟨_,by rw[<-h.2.2,put_put]⟩
   ·simp only[Za,Zb]at h;exact⟨_,h.2.2.symm⟩
   ·simp only[Za,Zb]at h;exact⟨_,h.2.2.symm⟩
   ·simp only[Za,Zb]at h;exact⟨_,h.2.2.symm⟩
   ·simp at h
  ·simp at h
def execL_still{P:Zj}{lits:D E}{o:Zt}{ors ors':D Oq}{S S':St}{cs:D Prop}(h:Vp8 P R lits o ors S=Y (cs,ors',S'))(hs:still o.op=R):∃ v,S'=S.put o.dst v:=by
 unfold Vp8 at h
 split at h
 ·split at h
  ·simp only[Za,Zb]at h;exact⟨_,h.2.2.symm⟩
  ·exact Vnj h hs
 ·exact Vnj h hs
structure Like (S S':St) (ts:D E):Prop where
 bx:S'.bx=S.bx
 gn:S'.gn=S.gn
 len:S'.fr.length=S.fr.length
 fr:∀ t:E,t ∉ ts->S'.fr[t]? =S.fr[t]?
def Like.refl(S:St)(ts:D E):Like S S ts:=⟨rfl,rfl,rfl,λ_ _=>rfl⟩
def Like.trans{S S' S'':St}{ts ts' us:D E}(h:Like S S' ts)(h':Like S' S'' ts')(h1:∀ t∈ts,t∈us)(h2:∀ t∈ts',t∈us):Like S S'' us:=
 ⟨h'.bx.trans h.bx,h'.gn.trans h.gn,h'.len.trans h.len,λt ht=>(h'.fr t (λq=>ht (h2 t q))).trans (h.fr t (λq=>ht (h1 t q)))⟩
def Like.put(S:St)(d:Zn Bj)(v:SV):Like S (S.put d v) d.toList:=by
 cases d with
 |none=>exact Like.refl _ _
 |some d=>exact⟨rfl,rfl,by simp[Xo],λt ht=>by simp at ht;simp[Xo,Z3,I5 ht]⟩
def Like.put'{S:St}{d:Zn Bj}{v:SV}{ts:D E}(h:∀ t,d=Y t->t∈ts):Like S (S.put d v) ts:=
 (Like.put S d v).trans (Like.refl _ []) (by intro t ht;cases d with|none=>simp at ht|some d=>simp at ht;subst ht;exact h _ rfl) ku
def Like.junk(S:St):∀(l:D E)(S:St),Like S (Vdo S l) l
 |[],S=>Like.refl _ _
 |t::l,S=>(Like.put S (Y t) .junk).trans (Like.junk S l _) ku (by intro t ht;simp[ht])
def Vri{l:D Zt}{k:E}{t:E}(h:t∈Vbx (l.take k)):t∈Vbx l:=by
 simp only[Vbx,Y3]at h ⊢;obtain⟨o,h1,h2⟩:=h;exact⟨o,Ji h1,h2⟩
def dsts_drop{l:D Zt}{k:E}{t:E}(h:t∈Vbx (l.drop k)):t∈Vbx l:=by
 simp only[Vbx,Y3]at h ⊢;obtain⟨o,h1,h2⟩:=h;exact⟨o,Qz h1,h2⟩
def Vlv{l:D Zt}{t:E}(h:Vlg l=Y t):t∈Vbx l:=by
 unfold Vlg at h
 split at h
 ·rename_i o ho;simp only[Vbx,Y3];exact⟨o,List.mem_of_getLast? ho,h⟩
 ·simp at h
def Vrk{o:Zt}{l:D Zt}{t:E}(h:t∈Vbx l):t∈Vbx (o::l):=by
 simp only[Vbx,Y3]at h ⊢;obtain⟨o',h1,h2⟩:=h;exact⟨o',Jj _ h1,h2⟩
def Vrj{o:Zt}{l:D Zt}{t:E}(h:o.dst=Y t):t∈Vbx (o::l):=by
 simp only[Vbx,Y3];exact⟨o,ku,h⟩
def Vej{P:Zj}{ds:D (Zn Bj)}:∀(n:E)(lits:D E)(l:D Zt)(ors ors':D Oq)(S S':St)(cs:D Prop),l.all (λo=>still o.op)=R->runG P ds R n lits l ors S=Y (cs,ors',S')->Like S S' (Vbx l)
 |n,lits,[],ors,ors',S,S',cs,_,h=>by
  simp only[runG,Za,Zb]at h;obtain⟨_,_,rfl⟩:=h;exact Like.refl _ _
 |0,lits,_::_,ors,ors',S,S',cs,_,h=>by simp[runG]at h
 | n+1,lits,o::rest,ors,ors',S,S',cs,hs,h=>by
  have hs0:=hs;simp only[List.all_cons,Zm]at hs;obtain⟨hso,hsr⟩:=hs;have hsd:∀ k,((o::rest).drop k).all (λo=>still o.op)=true:=by
   intro k;rw[Zz]at hs0 ⊢;exact λx hx=>hs0 x (Qz hx)
  have one:∀ {c1 c2:D Prop} {o1 o2 o3:D Oq} {S1 S2:St},Vp8 P R lits o o1 S=Y (c1,o2,S1)->runG P ds R n lits rest o2 S1=Y (c2,o3,S2)->Like S S2 (Vbx (o::rest)):=by
   intro c1 c2 o1 o2 o3 S1 S2 h1 h2;obtain⟨v,rfl⟩:=execL_still h1 hso;exact(Like.put' (ts:=Vbx (o::rest)) (λt ht=>Vrj ht)).trans (Vej n lits rest _ _ _ _ _ hsr h2) (λ_ h=>h) (λt ht=>Vrk ht)
  have skip:∀ {c2:D Prop} {o2 o3:D Oq} {S2:St},runG P ds R n lits rest o2 (S.put o.dst Vav)=Y (c2,o3,S2)->Like S S2 (Vbx (o::rest)):=by
   intro c2 o2 o3 S2 h2;exact(Like.put' (ts:=Vbx (o::rest)) (λt ht=>Vrj ht)).trans (Vej n lits rest _ _ _ _ _ hsr h2) (λ_ h=>h) (λt ht=>Vrk ht)
  simp only[runG]at h
  split at h
  ·split at h
   ·rename_i h1
    split at h
    ·rename_i h2;simp only[Za,Zb]at h;obtain⟨_,rfl⟩:=h;exact one h1 h2
    ·simp at h
   ·simp at h
  ·split at h
   ·simp at h
   ·split at h
    ·exact skip h
    ·split at h
     ·split at h
      ·split at h
       ·rename_i h1
        split at h
        ·rename_i h2;simp only[Za,Zb]at h;obtain⟨_,rfl⟩:=h;exact one h1 h2
        ·simp at h
       ·simp at h
      ·exact skip h
     ·split at h
      ·split at h
       ·split at h
        ·rename_i h1
         split at h
         ·rename_i h2;simp only[Za,Zb]at h;obtain⟨_,rfl⟩:=h;exact one h1 h2
         ·simp at h
        ·simp at h
       ·split at h
        ·rename_i h2;simp only[Za,Zb]at h;obtain⟨_,rfl⟩:=h;exact skip h2
        ·simp at h
      ·split at h
       ·split at h
        ·rename_i v hv
         split at h
         ·rename_i h3;simp only[Za,Zb]at h;obtain⟨_,rfl⟩:=h;refine((Like.junk S _ S).trans (Like.put' (ts:=Vbx (o::rest)) (λt ht=>Vri (Vlv ht))) (us:=Vbx (o::rest)) (λt ht=>Vri ht) (λ_ h=>h)).trans (Vej n lits _ _ _ _ _ _ (hsd _) h3) (λ_ h=>h) (λt ht=>dsts_drop ht)
         ·simp at h
        ·simp at h
       ·simp at h
      ·simp at h
    ·simp at h
end
section
section
variable {P:Zj}
def Vqb{G:Gh}{w:Zx}{S:St}{a:Iz}(d:Zn Bj)(h:Ja G w S a):Ja G w (S.put d (Vcl S d)) a:=by
 cases d with
 |none=>exact h
 | some d=>
  refine⟨h.wf,by simp[Xo,h.size],λt s ht=>?_,h.bx,h.gn,h.defers⟩;simp only[Xo,Vcl]at ht;rw[Z3]at ht
  split at ht
  ·rename_i hd;subst hd
   split at ht
   ·rename_i hlt;simp only[Za]at ht;subst ht;refine h.fr d _ ?_;simp[Qq,hlt]
   ·simp at ht
  ·exact h.fr t s ht
def Vct{md:Zs}{o:Zt}{ors ors':D Oq}{S S':St}{cs:D Prop}(h:exec0 P md o ors S=Y (cs,ors',S'))(hc:Iy cs){G:Gh}{w:Zx}{a:Iz}(hr:Ja G w S a){Q:Yk->Iz->Zx->Prop}{next:Iz->Zx->Prop}
  (hn:∀ G' a' w',Iv G w G' w'->Ja G' w' S' a'->(∀i,Fx i->G'.ow (i,0)=G.ow (i,0))->next a' w'):o.wp P a w next Q:=by
 unfold exec0 at h
 split at h
 ·rename_i c _ S1 h1;simp only[Za,Zb]at h;obtain⟨rfl,_,rfl⟩:=h;exact Vc5 h1 hc hr hn
 ·split at h
  ·rename_i x ors2
   split at h
   ·rename_i c S1 h1 h2;simp only[Za,Zb]at h;obtain⟨rfl,_,rfl⟩:=h;exact Vc5 h1 hc hr hn
   ·simp at h
  ·simp at h
def Vnk{md:Zs}{o:Zt}{ors ors':D Oq}{S S':St}{cs:D Prop}(h:exec P md o ors S=Y (cs,ors',S'))(hc:Iy cs){G:Gh}{w:Zx}{a:Iz}(hr:Ja G w S a){Q:Yk->Iz->Zx->Prop}{next:Iz->Zx->Prop}
  (hn:∀ G' a' w',Iv G w G' w'->Ja G' w' S' a'->(∀i,Fx i->G'.ow (i,0)=G.ow (i,0))->next a' w'):o.wp P a w next Q:=by
 unfold exec at h
 split at h
 ·exact Vct h hc hr hn
 ·split at h
  ·rename_i r h1;obtain⟨c,ors1,S1⟩:=r;unfold normW at h;simp only at h
   split at h
   ·rename_i k g sz l0 l ors2 e1;simp only[Za,Zb]at h;obtain⟨rfl,_,rfl⟩:=h;obtain⟨hc1,hc2⟩:=Vba hc;have:=hc2.1;subst this;exact Vct h1 hc1 hr (λG' a' w' q1 q2 q3=>hn G' a' w' q1 (by have:=Vqb o.dst q2;rw[e1]at this;exact this) q3)
   ·rename_i l0 l ors2 e1;simp only[Za,Zb]at h;obtain⟨rfl,_,rfl⟩:=h;obtain⟨hc1,hc2⟩:=Vba hc;have:=hc2.1;subst this;exact Vct h1 hc1 hr (λG' a' w' q1 q2 q3=>hn G' a' w' q1 (by have:=Vqb o.dst q2;rw[e1]at this;exact this) q3)
   ·simp only[Za,Zb]at h;obtain⟨rfl,_,rfl⟩:=h;exact Vct h1 hc hr hn
   ·simp only[Za,Zb]at h;obtain⟨rfl,_,rfl⟩:=h;exact Vct h1 hc hr hn
   ·simp only[Za,Zb]at h;obtain⟨rfl,_,rfl⟩:=h;exact Vct h1 hc hr hn
   ·simp at h
  ·simp at h
def execL_sound{md:Zs}{lits:D E}{o:Zt}{ors ors':D Oq}{S S':St}{cs:D Prop}(h:Vp8 P md lits o ors S=Y (cs,ors',S'))(hc:Iy cs){G:Gh}{w:Zx}{a:Iz}(hr:Ja G w S a){Q:Yk->Iz->Zx->Prop}{next:Iz->Zx->Prop}
  (hn:∀ G' a' w',Iv G w G' w'->Ja G' w' S' a'->(∀i,Fx i->G'.ow (i,0)=G.ow (i,0))->next a' w'):o.wp P a w next Q:=by
 unfold Vp8 at h
 split at h
 ·rename_i c x y ho
  split at h
  ·rename_i b hb;simp only[Za,Zb]at h;obtain⟨rfl,_,rfl⟩:=h;have hev:S.ev c=.av (.val (.bool b)):=by
    unfold litB at hb
    split at hb
    ·split at hb
     ·rename_i e;simp only[Za]at hb;subst hb;exact e
     ·simp at hb
    ·simp at hb
   clear hb;cases b with
   | true=>
    have h1:Vgp P o [.b R] S=Y ([R=R],[],S.put o.dst (S.ev x)):=by
     unfold Vgp Vbg Vhs;rw[ho];simp only[hev]
    exact Vc5 h1 ⟨rfl,Yf⟩ hr hn
   | false=>
    have h1:Vgp P o [.b V] S=Y ([V=V],[],S.put o.dst (S.ev y)):=by
     unfold Vgp Vbg Vhs;rw[ho];simp only[hev]
    exact Vc5 h1 ⟨rfl,Yf⟩ hr hn
  ·exact Vnk h hc hr hn
 ·exact Vnk h hc hr hn
def Vhj(G:Gh)(w:Zx):Xv G w Vav undef:=by
 simp only[Vav,Xv,Bm];exact⟨#[],rfl,by simp[Fr]⟩
def WO_mono{ops:Yj Zt}{l:D Zt}{Q Q2:St->Prop}{S:St}(h:WO P ops l Q S)(hq:∀ S,Q S->Q2 S):WO P ops l Q2 S:=
 λmore Q' G w a hr hc=>h more Q' G w a hr (λS' G' a' w' q1=>hc S' G' a' w' (hq _ q1))
def WO_op{ops:Yj Zt}{o:Zt}{rest:D Zt}{Q:St->Prop}{S S1:St}(hg:∀ G w a,Ja G w S a->Zu o (yielded ops a.tmps)=R)
  (hx:∀(G:Gh)(w:Zx)(a:Iz),Ja G w S a->∀(Q':Yk->Iz->Zx->Prop)(next:Iz->Zx->Prop),(∀G' a' w',Iv G w G' w'->Ja G' w' S1 a'->(∀i,Fx i->G'.ow (i,0)=G.ow (i,0))->next a' w')->o.wp P a w next Q')
  (h:WO P ops rest Q S1):WO P ops (o::rest) Q S:=by
 intro more Q' G w a hr hq;simp only[Y1,wpList];rw[Z1 (hg G w a hr)];refine .inl (hx G w a hr _ _ (λG' a' w' q1 q2 q3=>?_));exact h more Q' G' w' a' q2 (λS' G2 a2 w2 p1 p2 p3 p4=>hq S' G2 a2 w2 p1 (q1.trans p2) p3 (λi hi=>(p4 i hi).trans (q3 i hi)))
def WO_pass{ops:Yj Zt}{o:Zt}{rest:D Zt}{Q:St->Prop}{S:St}(hg:∀ G w a,Ja G w S a->Zu o (yielded ops a.tmps)=V)
  (h:WO P ops rest Q (S.put o.dst Vav)):WO P ops (o::rest) Q S:=by
 intro more Q' G w a hr hq;simp only[Y1,wpList];rw[hg G w a hr];simp only[Zw,Xy];exact h more Q' G w _ (hr.put o.dst (Vhj G w)) hq
def Vat{ops:Yj Zt}{o:Zt}(hg:o.guard=Zo)(a:Iz):Zu o (yielded ops a.tmps)=true:=by simp[Zu,hg]
def Vpz{ops:Yj Zt}{o:Zt}{S:St}{j:E}{want:Zs}{t:E}(hg:o.guard=Y (j,want))(ht:((ops.toList.map (·.dst))[j]?).join=Y t)(hs:S.fr[t]? =Y (.av (.tup []))){G:Gh}{w:Zx}{a:Iz}(hr:Ja G w S a):Zu o (yielded ops a.tmps)=false:=by
 obtain⟨t',u,e1,e2,e3⟩:=Vbu (S:=S) (j:=j) (s:=.av (.tup [])) (by unfold Vdq;rw[ht];exact hs) hr;simp only[Xv,Bm]at e3;obtain⟨us,rfl,_⟩:=e3;simp only[Zu,hg,yielded,e1,Ye,e2];rfl
def Ver{ops:Yj Zt}{o:Zt}{S:St}{j:E}{want b:Zs}{t:E}(hg:o.guard=Y (j,want))(ht:((ops.toList.map (·.dst))[j]?).join=Y t)(hs:S.fr[t]? =Y (.av (.val (.bool b)))){G:Gh}{w:Zx}{a:Iz}(hr:Ja G w S a):Zu o (yielded ops a.tmps)=(b==want):=by
 obtain⟨t',u,e1,e2,e3⟩:=Vbu (S:=S) (j:=j) (s:=.av (.val (.bool b))) (by unfold Vdq;rw[ht];exact hs) hr;simp only[Xv,Bm]at e3;obtain⟨rfl,_⟩:=e3;simp only[Zu,hg,yielded,e1,Ye,e2];cases b <;>cases want <;>rfl
def Vhh{S S1:St}{ts:D E}(h:Like S S1 ts)(d:Zn Bj)(hd:∀ t,d=Y t->t∈ts):Qv S1 ((Vdo S ts).put d (Vcl S1 d)):=by
 have hj:∀(ts:D E)(S:St)(t:E),t∈ts->(Vdo S ts).fr[t]? =Y .junk\/(Vdo S ts).fr[t]? =none:=by
  intro ts
  induction ts with
  |nil=>intro S t ht;simp at ht
  | cons u ts ih=>
   intro S t ht
   by_cases hm:t∈ts
   ·exact ih _ t hm
   ·simp only[Ya]at ht;rcases ht with rfl|ht
    ·have hl:=(Like.junk S ts (S.put (Y t) .junk)).fr t hm
     show(Vdo (S.put (Y t) .junk) ts).fr[t]? =Y .junk\/(Vdo (S.put (Y t) .junk) ts).fr[t]? =Zo;rw[hl];simp only[Xo,Z3,Xp]
     split
     ·exact .inl rfl
     ·exact .inr rfl
    ·exact(hm ht).elim
 have hl:=Like.junk S ts S;intro G w a hr;have key:∀ t s,(Vdo S ts).fr[t]? =Y s->Xv G w s (a.tmps.getD t undef):=by
  intro t s hs
  by_cases hm:t∈ts
  ·rcases hj ts S t hm with h1|h1
   ·rw[h1]at hs;simp only[Za]at hs;subst hs;trivial
   ·rw[h1]at hs;simp at hs
  ·rw[hl.fr t hm, <-h.fr t hm]at hs;exact hr.fr t s hs
 have hlen:(Vdo S ts).fr.length=S1.fr.length:=by rw[hl.len,h.len]
 have hbase:Ja G w (Vdo S ts) a:=by
  refine⟨hr.wf,by rw[hlen];exact hr.size,key,?_,?_,hr.defers⟩
  ·rw[hl.bx, <-h.bx];exact hr.bx
  ·intro k;rw[hr.gn k];simp only[St.gen];rw[hl.gn, <-h.gn]
 cases d with
 |none=>exact hbase
 | some d=>
  refine⟨hr.wf,by simp only[Xo,Qa];exact hbase.size,λt s ht=>?_,hbase.bx,hbase.gn,hbase.defers⟩;simp only[Xo,Vcl]at ht;rw[Z3]at ht
  split at ht
  ·rename_i hdt;subst hdt
   split at ht
   ·rename_i hlt;simp only[Za]at ht;subst ht;refine hr.fr d _ ?_;have:d<S1.fr.length:=by rw[<-hlen];exact hlt
    simp[Qq,this]
   ·simp at ht
  ·exact key t s ht
def mrg_true{x y v:SV}(h:mrg R x y=Y v):v=x:=by
 unfold mrg at h
 split at h
 ·simp at h;exact h.symm
 ·split at h
  ·simp at h;exact h.symm
  ·simp at h
 ·simp at h;exact h.symm
 ·simp at h;exact h.symm
 ·simp at h
def Vr0{x y v:SV}(h:mrg V x y=Y v):v=y:=by
 unfold mrg at h
 split at h
 ·simp at h;exact h.symm
 ·split at h
  ·rename_i hk;subst hk;simp at h;exact h.symm
  ·simp at h
 ·simp at h;exact h.symm
 ·simp at h;exact h.symm
 ·simp at h
def put_same{S:St}{t:E}{v:SV}(h:S.fr[t]? =Y v):S.put (Y t) v=S:=by
 obtain⟨fr,bx,gn⟩:=S;simp only[Xo]at h ⊢;congr 1;apply Ds;intro i;rw[Z3]
 split
 ·rename_i hi;subst hi
  split
  ·exact h.symm
  ·rename_i hn;rw[Zv kv]
 ·rfl
def Vca{ops:Yj Zt}:∀(md:Zs)(n:E)(lits:D E)(l:D Zt)(ors ors':D Oq)(S S':St)(cs:D Prop),runG P (ops.toList.map (·.dst)) md n lits l ors S=Y (cs,ors',S')->Iy cs->WO P ops l (λS1=>S1=S') S
 |md,n,lits,[],ors,ors',S,S',cs,h,hc=>by
  simp only[runG,Za,Zb]at h;obtain⟨_,_,rfl⟩:=h;exact Vbl rfl rfl
 |md,0,lits,_::_,ors,ors',S,S',cs,h,hc=>by simp[runG]at h
 | md,n+1,lits,o::rest,ors,ors',S,S',cs,h,hc=>by
  have one:∀ {c1 c2:D Prop} {o1 o2 o3:D Oq} {S1 S2:St},(∀G w a,Ja G w S a->Zu o (yielded ops a.tmps)=R)->Vp8 P md lits o o1 S=Y (c1,o2,S1)->runG P (ops.toList.map (·.dst)) md n lits rest o2 S1=Y (c2,o3,S2)->Iy (c1++c2)->WO P ops (o::rest) (λS=>S=S2) S:=by
   intro c1 c2 o1 o2 o3 S1 S2 hw h1 h2 hc';obtain⟨hc1,hc2⟩:=Vba hc';exact WO_op hw (λG w a hr Q' next hn=>execL_sound h1 hc1 hr hn) (Vca md n lits rest _ _ _ _ _ h2 hc2)
  simp only[runG]at h
  split at h
  ·rename_i hg
   split at h
   ·rename_i h1
    split at h
    ·rename_i h2;simp only[Za,Zb]at h;obtain⟨rfl,rfl⟩:=h;exact one (λG w a _=>Vat hg a) h1 h2 hc
    ·simp at h
   ·simp at h
  ·rename_i j want hg
   split at h
   ·simp at h
   ·rename_i t ht
    split at h
    ·rename_i hs;exact WO_pass (λG w a hr=>Vpz hg ht hs hr) (Vca md n lits rest _ _ _ _ _ h hc)
    ·rename_i b hs
     split at h
     ·split at h
      ·rename_i hb;have hbw:b=want:=by cases b <;>cases want <;>simp_all
       split at h
       ·rename_i h1
        split at h
        ·rename_i h2;simp only[Za,Zb]at h;obtain⟨rfl,rfl⟩:=h;exact one (λG w a hr=>by rw[Ver hg ht hs hr];simp[hbw]) h1 h2 hc
        ·simp at h
       ·simp at h
      ·rename_i hb;exact WO_pass (λG w a hr=>by rw[Ver hg ht hs hr];cases b <;>cases want <;>simp_all) (Vca md n lits rest _ _ _ _ _ h hc)
     ·split at h
      ·rename_i d ors2
       split at h
       ·rename_i hd
        split at h
        ·rename_i h1
         split at h
         ·rename_i h2;simp only[Za,Zb]at h;obtain⟨rfl,rfl⟩:=h;obtain⟨hb,hc'⟩:=hc;exact one (λG w a hr=>by rw[Ver hg ht hs hr];simp[hb,hd]) h1 h2 hc'
         ·simp at h
        ·simp at h
       ·rename_i hd
        split at h
        ·rename_i h2;simp only[Za,Zb]at h;obtain⟨rfl,rfl⟩:=h;obtain⟨hb,hc'⟩:=hc;exact WO_pass (λG w a hr=>by rw[Ver hg ht hs hr];subst hb;simp[hd]) (Vca md n lits rest _ _ _ _ _ h2 hc')
        ·simp at h
      ·rename_i o1 o2 ors2
       split at h
       ·rename_i c1 S1 c2 S2 hst h1 h2
        split at h
        ·rename_i v hv
         split at h
         ·rename_i h3;simp only[Za,Zb]at h;obtain⟨rfl,rfl⟩:=h;obtain⟨hq1,hq2,hc3⟩:=hc;refine Vpp (Vfw t (o::rest)) ?_ (Vca md n lits _ _ _ _ _ _ h3 hc3);cases b with
          |true=>
           rw[put_same hs]at h1;refine WO_mono (Vca R n _ _ _ _ _ _ _ h1 (hq1 rfl)) (λS3 e=>?_);subst e;rw[mrg_true hv];exact Vhh (Vej n _ _ _ _ _ _ _ hst h1) _ (λt ht=>Vlv ht)
          |false=>
           rw[put_same hs]at h2;refine WO_mono (Vca R n _ _ _ _ _ _ _ h2 (hq2 rfl)) (λS3 e=>?_);subst e;rw[Vr0 hv];exact Vhh (Vej n _ _ _ _ _ _ _ hst h2) _ (λt ht=>Vlv ht)
         ·simp at h
        ·simp at h
       ·simp at h
      ·simp at h
    ·simp at h
end
end
section
inductive Fm where
 |sq (d:Jm)
 |bk (id:E)
 |sc
inductive Out where
 |fin (e:Yk) (S:St)
 |at (c:Jm) (ks:D Fm) (S:St)
abbrev Cf:=Zn (D Prop×D Oq×Out)
def Vfm:Jm->Zs
 | .skip=>R
 | .label _=>R
 | .exit _=>R
 | .region _ ops V=>ops.toList.all (λo=>still o.op)
 | .seq x y=>Vfm x&&Vfm y
 | .cond _ x y=>Vfm x&&Vfm y
 | .block _ c=>Vfm c
 |_=>V
def Vfn:Jm->D E
 | .region _ ops _=>Vbx ops.toList
 | .seq x y=>Vfn x++Vfn y
 | .cond _ x y=>Vfn x++Vfn y
 | .block _ c=>Vfn c
 |_=>[]
def putM(b:Zs)(S1 S2:St):D E->St->Zn St
 |[],S=>Y S
 |t::ts,S=>match mrg b (Vcl S1 (Y t)) (Vcl S2 (Y t))with
  |some v=>putM b S1 S2 ts (S.put (Y t) v)
  |none=>Zo
def subL(ts us:D E):Bool:=ts.all (λt=>us.contains t)
def pauseAt(i:E):D Oq->Zn (D Oq)
 | .p k::ors=>match O (k=i)with
  |true=>Y ors
  |false=>Zo
 |_=>Zo
def go(P:Zj):Zs->Jm->D Oq->St->Cf
 |md,.skip,ors,S=>Y ([],ors,.fin .normal S)
 |md,.label _,ors,S=>Y ([],ors,.fin .normal S)
 |md,.exit id,ors,S=>Y ([],ors,.fin (.exit id) S)
 |md,.ret,ors,S=>Y ([],ors,.fin .ret S)
 |md,.region i ops R,ors,S=>Y ([],ors,.at (.region i ops R) [] S)
 | md,.region i ops V,ors,S=>match pauseAt i ors with
  |some ors=>Y ([],ors,.at (.region i ops V) [] S)
  |none=>match runG P (ops.toList.map (·.dst)) md (ops.size+40) [] ops.toList ors S with
   |some (c,ors,S)=>Y (c,ors,.fin .normal S)
   |none=>Zo
 | md,.seq x y,ors,S=>match go P md x ors S with
  |some (c1,ors1,.fin .normal S1)=>match go P md y ors1 S1 with
   |some (c2,r)=>Y (c1++c2,r)
   |none=>Zo
  |some (c1,ors1,.at c ks S1)=>Y (c1,ors1,.at c (ks++[.sq y]) S1)
  |r=>r
 | md,.cond c x y,ors,S=>match S.ev c with
  | .av (.val (.bool b))=>match ors with
   | .o (.b d)::ors=>match(match d with|true=>go P md x ors S|false=>go P md y ors S)with
    |some (c2,r)=>Y ((b=d)::c2,r)
    |none=>Zo
   | .s ts o1 o2::ors=>match Vfm x&&Vfm y&&subL ts (Vfn x++Vfn y),go P R x o1 S,go P R y o2 S with
    |true,Y (c1,[],.fin .normal S1),Y (c2,[],.fin .normal S2)=>match putM b S1 S2 ts (Vdo S (Vfn x++Vfn y))with
     |some S3=>Y ([(b=R->Iy c1),(b=V->Iy c2)],ors,.fin .normal S3)
     |none=>Zo
    |_,_,_=>Zo
   |[]=>Y ([],[],.at (.cond c x y) [] S)
   |_=>Zo
  |_=>Zo
 | md,.block id c,ors,S=>match go P md c ors S with
  |some (c1,ors1,.fin (.exit id') S1)=>match O (id'=id)with
   |true=>Y (c1,ors1,.fin .normal S1)
   |false=>Y (c1,ors1,.fin (.exit id') S1)
  |some (c1,ors1,.at c ks S1)=>Y (c1,ors1,.at c (ks++[.bk id]) S1)
  |r=>r
 |md,.loop c,ors,S=>Y ([],ors,.at (.loop c) [] S)
 |md,.scope c,ors,S=>match go P md c ors S with
  |some (_,_,.fin (.goto _) _)=>Zo
  |some (c1,ors1,.at c ks S1)=>Y (c1,ors1,.at c (ks++[.sc]) S1)
  |r=>r
 |_,_,_,_=>Zo
def goK(P:Zj):D Fm->Cf->Cf
 |_,Zo=>Zo
 |[],r=>r
 | .sq d::ks,Y (cs,ors,.fin .normal S)=>match go P V d ors S with
  |some (c2,ors2,out)=>goK P ks (Y (cs++c2,ors2,out))
  |none=>Zo
 | .sq _::ks,Y (cs,ors,.fin e S)=>goK P ks (Y (cs,ors,.fin e S))
 | .bk id::ks,Y (cs,ors,.fin (.exit id') S)=>match O (id'=id)with
  |true=>goK P ks (Y (cs,ors,.fin .normal S))
  |false=>goK P ks (Y (cs,ors,.fin (.exit id') S))
 | .bk _::ks,Y (cs,ors,.fin e S)=>goK P ks (Y (cs,ors,.fin e S))
 | .sc::_,Y (_,_,.fin (.goto _) _)=>Zo
 | .sc::ks,Y (cs,ors,.fin e S)=>goK P ks (Y (cs,ors,.fin e S))
 |k::ks,Y (cs,ors,.at c k2 S)=>Y (cs,ors,.at c (k2++(k::ks)) S)
def adv(P:Zj)(X:Cf)(ors:D Oq):Cf:=match X with
 |some (_,_,.at c ks S)=>goK P ks (go P V c ors S)
 |_=>Zo
section
variable {P:Zj}
def scopeS(Q:Yk->St->Prop):Yk->St->Prop
 | .goto _,_=>False
 |e,S=>Q e S
def W_scope{c:Jm}{Q:Yk->St->Prop}{S:St}(h:W P c (scopeS Q) S):W P (.scope c) Q S:=by
 intro G w a hr;refine wp_scope_straight (Code.wp_mono (λe a' w' hl=>?_) (h G w a hr));obtain⟨S',G',h1,h2⟩:=hl;cases e with
 |goto l=>exact h1.elim
 |normal=>exact⟨S',G',h1,h2⟩
 |exit id=>exact⟨S',G',h1,h2⟩
 |ret=>exact⟨S',G',h1,h2⟩
 |panic c=>exact⟨S',G',h1,h2⟩
 |outgrown=>exact⟨S',G',h1,h2⟩
def scopeS_of{Q:Yk->St->Prop}{e:Yk}{S:St}(h:Q e S)(hn:∀ l,e≠ .goto l):scopeS Q e S:=by
 cases e with
 |goto l=>exact(hn l rfl).elim
 |_=>exact h
def Kont(P:Zj)(Q:Yk->St->Prop):D Fm->Yk->St->Prop
 |[]=>Q
 | .sq d::ks=>Vq1 (W P d (Kont P Q ks)) (Kont P Q ks)
 | .bk id::ks=>Vgz id (Kont P Q ks)
 | .sc::ks=>scopeS (Kont P Q ks)
def Okay(P:Zj)(Q:Yk->St->Prop):Out->Prop
 | .fin e S=>Q e S
 | .at c ks S=>W P c (Kont P Q ks) S
def Vbi(Q:Yk->St->Prop)(k2:D Fm):∀ ks:D Fm,Kont P Q (ks++k2)=Kont P (Kont P Q k2) ks
 |[]=>rfl
 | .sq d::ks=>by simp only[Y1,Kont,Vbi Q k2 ks]
 | .bk id::ks=>by simp only[Y1,Kont,Vbi Q k2 ks]
 | .sc::ks=>by simp only[Y1,Kont,Vbi Q k2 ks]
def Vpy{S1 S0:St}(h:Qv S1 S0)(hl:S0.fr.length=S1.fr.length)(t:E):Qv S1 (S0.put (Y t) (Vcl S1 (Y t))):=by
 intro G w a hr;have h0:=h G w a hr;refine⟨h0.wf,by simp only[Xo,Qa];exact h0.size,λu s hu=>?_,h0.bx,h0.gn,h0.defers⟩;simp only[Xo,Vcl]at hu;rw[Z3]at hu
 split at hu
 ·rename_i hd;subst hd
  split at hu
  ·rename_i hlt;simp only[Za]at hu;subst hu;refine hr.fr t _ ?_;have:t<S1.fr.length:=by rw[<-hl];exact hlt
   simp[Qq,this]
  ·simp at hu
 ·exact h0.fr u s hu
def Vqo{S1 S2:St}:∀(ts:D E)(S0 S3:St),S0.fr.length=S1.fr.length->Qv S1 S0->putM R S1 S2 ts S0=Y S3->Qv S1 S3
 |[],S0,S3,_,h,e=>by simp only[putM,Za]at e;subst e;exact h
 |t::ts,S0,S3,hl,h,e=>by
  simp only[putM]at e
  split at e
  ·rename_i v hv;have:=mrg_true hv;subst this;exact Vqo ts _ _ (by simp only[Xo,Qa];exact hl) (Vpy h hl t) e
  ·simp at e
def Vn8{S1 S2:St}:∀(ts:D E)(S0 S3:St),S0.fr.length=S2.fr.length->Qv S2 S0->putM V S1 S2 ts S0=Y S3->Qv S2 S3
 |[],S0,S3,_,h,e=>by simp only[putM,Za]at e;subst e;exact h
 |t::ts,S0,S3,hl,h,e=>by
  simp only[putM]at e
  split at e
  ·rename_i v hv;have:=Vr0 hv;subst this;exact Vn8 ts _ _ (by simp only[Xo,Qa];exact hl) (Vpy h hl t) e
  ·simp at e
def Vqp{b:Zs}{S1 S2:St}:∀(ts:D E)(S0 S3:St),putM b S1 S2 ts S0=Y S3->Like S0 S3 ts
 |[],S0,S3,e=>by simp only[putM,Za]at e;subst e;exact Like.refl _ _
 |t::ts,S0,S3,e=>by
  simp only[putM]at e
  split at e
  ·rename_i v hv;exact(Like.put S0 (Y t) v).trans (Vqp ts _ _ e) ku (by intro u hu;simp[hu])
  ·simp at e
def go_like:∀(c:Jm)(ors ors':D Oq)(S S':St)(e:Yk)(cs:D Prop),Vfm c=R->go P R c ors S=Y (cs,ors',.fin e S')->Like S S' (Vfn c):=by
 intro c
 induction c with
 |skip=>intro ors ors' S S' e cs hs h;simp only[go,Za,Zb,Out.fin.injEq]at h;rw[<-h.2.2.2];exact Like.refl _ _
 |label l=>intro ors ors' S S' e cs hs h;simp only[go,Za,Zb,Out.fin.injEq]at h;rw[<-h.2.2.2];exact Like.refl _ _
 |exit id=>intro ors ors' S S' e cs hs h;simp only[go,Za,Zb,Out.fin.injEq]at h;rw[<-h.2.2.2];exact Like.refl _ _
 | region i ops d=>
  intro ors ors' S S' e cs hs h;cases d with
  |true=>simp[Vfm]at hs
  | false=>
   simp only[go]at h
   split at h
   ·simp at h
   ·split at h
    ·rename_i c1 o1 S1 h1;simp only[Za,Zb,Out.fin.injEq]at h;rw[<-h.2.2.2];exact Vej _ _ _ _ _ _ _ _ hs h1
    ·simp at h
 | seq x y ihx ihy=>
  intro ors ors' S S' e cs hs h;simp only[Vfm,Zm]at hs;simp only[go]at h
  split at h
  ·rename_i c1 o1 S1 h1
   split at h
   ·rename_i c2 r h2;simp only[Za,Zb]at h;obtain⟨_,rfl⟩:=h;exact(ihx _ _ _ _ _ _ hs.1 h1).trans (ihy _ _ _ _ _ _ hs.2 h2) (by intro t ht;simp[Vfn,ht]) (by intro t ht;simp[Vfn,ht])
   ·simp at h
  ·simp at h
  ·rename_i r _ _;exact(ihx _ _ _ _ _ _ hs.1 h).trans (Like.refl _ []) (by intro t ht;simp[Vfn,ht]) ku
 | cond c x y ihx ihy=>
  intro ors ors' S S' e cs hs h;simp only[Vfm,Zm]at hs;simp only[go]at h
  split at h
  ·split at h
   ·rename_i d ors2
    split at h
    ·rename_i c2 r h2;simp only[Za,Zb]at h;obtain⟨_,rfl⟩:=h;cases d with
     |true=>exact(ihx _ _ _ _ _ _ hs.1 h2).trans (Like.refl _ []) (by intro t ht;simp[Vfn,ht]) ku
     |false=>exact(ihy _ _ _ _ _ _ hs.2 h2).trans (Like.refl _ []) (by intro t ht;simp[Vfn,ht]) ku
    ·simp at h
   ·rename_i ts o1 o2 ors2
    split at h
    ·rename_i c1 S1 c2 S2 hst h1 h2;simp only[Zm]at hst
     split at h
     ·rename_i S3 h3;simp only[Za,Zb,Out.fin.injEq]at h;rw[<-h.2.2.2];refine(Like.junk S _ S).trans (Vqp _ _ _ h3) (λt ht=>ht) (λt ht=>?_);have:=hst.2;simp only[subL,Zz]at this;have:=this t ht;simpa[Vfn]using this
     ·simp at h
    ·simp at h
   ·simp at h
   ·simp at h
  ·simp at h
 | block id c ih=>
  intro ors ors' S S' e cs hs h;simp only[go]at h
  split at h
  ·rename_i c1 o1 id' S1 h1
   split at h
   ·simp only[Za,Zb,Out.fin.injEq]at h;rw[<-h.2.2.2];exact ih _ _ _ _ _ _ hs h1
   ·simp only[Za,Zb,Out.fin.injEq]at h;rw[<-h.2.2.2];exact ih _ _ _ _ _ _ hs h1
  ·simp at h
  ·exact ih _ _ _ _ _ _ hs h
 |_=>intro ors ors' S S' e cs hs h;simp[Vfm]at hs
def go_sound:∀(c:Jm)(md:Zs)(ors ors':D Oq)(S:St)(out:Out)(cs:D Prop),go P md c ors S=Y (cs,ors',out)->Iy cs->∀ Q:Yk->St->Prop,Okay P Q out->W P c Q S:=by
 intro c
 induction c with
 |skip=>intro md ors ors' S out cs h hc Q hq;simp only[go,Za,Zb]at h;rw[<-h.2.2]at hq;exact W_skip hq
 |label l=>intro md ors ors' S out cs h hc Q hq;simp only[go,Za,Zb]at h;rw[<-h.2.2]at hq;exact W_label hq
 |exit id=>intro md ors ors' S out cs h hc Q hq;simp only[go,Za,Zb]at h;rw[<-h.2.2]at hq;exact W_exit hq
 |ret=>intro md ors ors' S out cs h hc Q hq;simp only[go,Za,Zb]at h;rw[<-h.2.2]at hq;exact W_ret hq
 | region i ops d=>
  intro md ors ors' S out cs h hc Q hq;cases d with
  |true=>simp only[go,Za,Zb]at h;rw[<-h.2.2]at hq;exact hq
  | false=>
   simp only[go]at h
   split at h
   ·simp only[Za,Zb]at h;rw[<-h.2.2]at hq;exact hq
   ·split at h
    ·rename_i c1 o1 S1 h1;simp only[Za,Zb]at h;obtain⟨rfl,_,rfl⟩:=h;exact Vam (WO_mono (Vca _ _ _ _ _ _ _ _ _ h1 hc) (λS2 e=>by subst e;exact hq))
    ·simp at h
 | seq x y ihx ihy=>
  intro md ors ors' S out cs h hc Q hq;simp only[go]at h
  split at h
  ·rename_i c1 o1 S1 h1
   split at h
   ·rename_i c2 r h2;simp only[Za,Zb]at h;obtain⟨rfl,rfl⟩:=h;obtain⟨hc1,hc2⟩:=Vba hc;exact Vpn (ihx _ _ _ _ _ _ h1 hc1 _ (show Vq1 (W P y Q) Q .normal S1 from ihy _ _ _ _ _ _ h2 hc2 _ hq))
   ·simp at h
  ·rename_i c1 o1 c' ks S1 h1;simp only[Za,Zb]at h;obtain⟨rfl,rfl,rfl⟩:=h;refine Vpn (ihx _ _ _ _ _ _ h1 hc _ ?_);simp only[Okay,Vbi]at hq ⊢;exact hq
  ·rename_i hne1 hne2;refine Vpn (ihx _ _ _ _ _ _ h hc _ ?_);cases out with
   |fin e S1=>exact skipS hq (by rintro rfl;exact hne1 _ _ _ h)
   | «at» c' ks S1=>exact(hne2 _ _ _ _ _ h).elim
 | cond c x y ihx ihy=>
  intro md ors ors' S out cs h hc Q hq;simp only[go]at h
  split at h
  ·rename_i b hb
   split at h
   ·rename_i d ors2
    split at h
    ·rename_i c2 r h2;simp only[Za,Zb]at h;obtain⟨rfl,rfl⟩:=h;obtain⟨rfl,hc2⟩:=hc;refine W_cond hb ?_;cases b with
     |true=>exact ihx _ _ _ _ _ _ h2 hc2 _ hq
     |false=>exact ihy _ _ _ _ _ _ h2 hc2 _ hq
    ·simp at h
   ·rename_i ts o1 o2 ors2
    split at h
    ·rename_i c1 S1 c2 S2 hst h1 h2;simp only[Zm]at hst
     split at h
     ·rename_i S3 h3;simp only[Za,Zb]at h;obtain⟨rfl,_,rfl⟩:=h;obtain⟨hq1,hq2,_⟩:=hc;refine W_cond hb ?_;have l1:=go_like _ _ _ _ _ _ _ hst.1.1 h1;have l2:=go_like _ _ _ _ _ _ _ hst.1.2 h2;have lj:=Like.junk S (Vfn x++Vfn y) S;cases b with
      |true=>
       refine W_end (ihx _ _ _ _ _ _ h1 (hq1 rfl) _ ⟨S3,Vqo _ _ _ (by rw[lj.len,l1.len]) ?_ h3,hq⟩);exact Vhh (l1.trans (Like.refl _ []) (by intro t ht;simp[ht]) ku) Zo ku
      |false=>
       refine W_end (ihy _ _ _ _ _ _ h2 (hq2 rfl) _ ⟨S3,Vn8 _ _ _ (by rw[lj.len,l2.len]) ?_ h3,hq⟩);exact Vhh (l2.trans (Like.refl _ []) (by intro t ht;simp[ht]) ku) Zo ku
     ·simp at h
    ·simp at h
   ·simp only[Za,Zb]at h;rw[<-h.2.2]at hq;exact hq
   ·simp at h
  ·simp at h
 | block id c ih=>
  intro md ors ors' S out cs h hc Q hq;simp only[go]at h
  split at h
  ·rename_i c1 o1 id' S1 h1
   split at h
   ·rename_i hid;simp only[Za,Zb]at h;obtain⟨rfl,_,rfl⟩:=h;have:=Zd hid;subst this;exact Vpo (ih _ _ _ _ _ _ h1 hc _ (hit hq))
   ·rename_i hid;simp only[Za,Zb]at h;obtain⟨rfl,_,rfl⟩:=h;exact Vpo (ih _ _ _ _ _ _ h1 hc _ (miss (Zk hid) hq))
  ·rename_i c1 o1 c' ks S1 h1;simp only[Za,Zb]at h;obtain⟨rfl,rfl,rfl⟩:=h;refine Vpo (ih _ _ _ _ _ _ h1 hc _ ?_);simp only[Okay,Vbi]at hq ⊢;exact hq
  ·rename_i hne1 hne2;refine Vpo (ih _ _ _ _ _ _ h hc _ ?_);cases out with
   |fin e S1=>exact pass hq (by rintro i rfl;exact hne1 _ _ _ _ h)
   | «at» c' ks S1=>exact(hne2 _ _ _ _ _ h).elim
 |loop c ih=>
  intro md ors ors' S out cs h hc Q hq;simp only[go,Za,Zb]at h;rw[<-h.2.2]at hq;exact hq
 | scope c ih=>
  intro md ors ors' S out cs h hc Q hq;simp only[go]at h
  split at h
  ·simp at h
  ·rename_i c1 o1 c' ks S1 h1;simp only[Za,Zb]at h;obtain⟨rfl,rfl,rfl⟩:=h;refine W_scope (ih _ _ _ _ _ _ h1 hc _ ?_);simp only[Okay,Vbi]at hq ⊢;exact hq
  ·rename_i hne1 hne2;refine W_scope (ih _ _ _ _ _ _ h hc _ ?_);cases out with
   |fin e S1=>exact scopeS_of hq (by rintro l rfl;exact hne1 _ _ _ _ h)
   | «at» c' ks S1=>exact(hne2 _ _ _ _ _ h).elim
 |_=>intro md ors ors' S out cs h hc Q hq;simp[go]at h
def Vau(Q:Yk->St->Prop):∀(ks:D Fm)(c0:D Prop)(o0:D Oq)(out0:Out)(cs:D Prop)(ors':D Oq)(out:Out),goK P ks (Y (c0,o0,out0))=Y (cs,ors',out)->Iy cs->Okay P Q out->Iy c0/\Okay P (Kont P Q ks) out0
 |[],c0,o0,out0,cs,ors',out,h,hc,hq=>by
  simp only[goK,Za,Zb]at h;obtain⟨rfl,_,rfl⟩:=h;exact⟨hc,hq⟩
 | .sq d::ks,c0,o0,.fin .normal S,cs,ors',out,h,hc,hq=>by
  simp only[goK]at h
  split at h
  ·rename_i c2 ors2 out2 h2;obtain⟨q1,q2⟩:=Vau Q ks _ _ _ _ _ _ h hc hq;obtain⟨hc1,hc2⟩:=Vba q1;exact⟨hc1,go_sound _ _ _ _ _ _ _ h2 hc2 _ q2⟩
  ·simp at h
 | .sq d::ks,c0,o0,.fin (.exit i) S,cs,ors',out,h,hc,hq=>Vau Q ks c0 o0 (.fin (.exit i) S) _ _ _ h hc hq
 | .sq d::ks,c0,o0,.fin (.goto i) S,cs,ors',out,h,hc,hq=>Vau Q ks c0 o0 (.fin (.goto i) S) _ _ _ h hc hq
 | .sq d::ks,c0,o0,.fin .ret S,cs,ors',out,h,hc,hq=>Vau Q ks c0 o0 (.fin .ret S) _ _ _ h hc hq
 | .sq d::ks,c0,o0,.fin (.panic i) S,cs,ors',out,h,hc,hq=>Vau Q ks c0 o0 (.fin (.panic i) S) _ _ _ h hc hq
 | .sq d::ks,c0,o0,.fin .outgrown S,cs,ors',out,h,hc,hq=>Vau Q ks c0 o0 (.fin .outgrown S) _ _ _ h hc hq
 | .bk id::ks,c0,o0,.fin (.exit id') S,cs,ors',out,h,hc,hq=>by
  simp only[goK]at h
  split at h
  ·rename_i hid;have:=Zd hid;subst this;obtain⟨q1,q2⟩:=Vau Q ks _ _ _ _ _ _ h hc hq;exact⟨q1,hit q2⟩
  ·rename_i hid;obtain⟨q1,q2⟩:=Vau Q ks _ _ _ _ _ _ h hc hq;exact⟨q1,miss (Zk hid) q2⟩
 | .sc::ks,c0,o0,.fin (.goto i) S,cs,ors',out,h,hc,hq=>by simp[goK]at h
 | .sc::ks,c0,o0,.fin .normal S,cs,ors',out,h,hc,hq=>Vau Q ks c0 o0 (.fin .normal S) _ _ _ h hc hq
 | .sc::ks,c0,o0,.fin (.exit i) S,cs,ors',out,h,hc,hq=>Vau Q ks c0 o0 (.fin (.exit i) S) _ _ _ h hc hq
 | .sc::ks,c0,o0,.fin .ret S,cs,ors',out,h,hc,hq=>Vau Q ks c0 o0 (.fin .ret S) _ _ _ h hc hq
 | .sc::ks,c0,o0,.fin (.panic i) S,cs,ors',out,h,hc,hq=>Vau Q ks c0 o0 (.fin (.panic i) S) _ _ _ h hc hq
 | .sc::ks,c0,o0,.fin .outgrown S,cs,ors',out,h,hc,hq=>Vau Q ks c0 o0 (.fin .outgrown S) _ _ _ h hc hq
 | .bk id::ks,c0,o0,.fin .normal S,cs,ors',out,h,hc,hq=>Vau Q ks c0 o0 (.fin .normal S) _ _ _ h hc hq
 | .bk id::ks,c0,o0,.fin (.goto i) S,cs,ors',out,h,hc,hq=>Vau Q ks c0 o0 (.fin (.goto i) S) _ _ _ h hc hq
 | .bk id::ks,c0,o0,.fin .ret S,cs,ors',out,h,hc,hq=>Vau Q ks c0 o0 (.fin .ret S) _ _ _ h hc hq
 | .bk id::ks,c0,o0,.fin (.panic i) S,cs,ors',out,h,hc,hq=>Vau Q ks c0 o0 (.fin (.panic i) S) _ _ _ h hc hq
 | .bk id::ks,c0,o0,.fin .outgrown S,cs,ors',out,h,hc,hq=>Vau Q ks c0 o0 (.fin .outgrown S) _ _ _ h hc hq
 | .sq d::ks,c0,o0,.at c k2 S,cs,ors',out,h,hc,hq=>by
  simp only[goK,Za,Zb]at h;obtain⟨rfl,_,rfl⟩:=h;simp only[Okay,Vbi]at hq ⊢;exact⟨hc,hq⟩
 | .sc::ks,c0,o0,.at c k2 S,cs,ors',out,h,hc,hq=>by
  simp only[goK,Za,Zb]at h;obtain⟨rfl,_,rfl⟩:=h;simp only[Okay,Vbi]at hq ⊢;exact⟨hc,hq⟩
 | .bk id::ks,c0,o0,.at c k2 S,cs,ors',out,h,hc,hq=>by
  simp only[goK,Za,Zb]at h;obtain⟨rfl,_,rfl⟩:=h;simp only[Okay,Vbi]at hq ⊢;exact⟨hc,hq⟩
def Nxt{α:Type}(P:Zj)(K:α->Yk->St->Prop)(M:α)(X:Cf):Prop:=match X with
 |some (_,_,out)=>Okay P (K M) out
 |none=>False
structure Nx {α:Type} (P:Zj) (K:α->Yk->St->Prop) (M:α) (X:Cf):Prop where
 x:Nxt P K M X
structure OCx (H:Prop) where
 o:D Oq
 c:D Prop
 h:H->Iy c
abbrev OC:=OCx Bb
def csOf(X:Cf):Zn (D Prop):=match X with
 |some (cs,[],_)=>Y cs
 |_=>Zo
def adv_sound{X:Cf}{ors:D Oq}{cs:D Prop}(h:csOf (adv P X ors)=Y cs)(hc:Iy cs){Q:Yk->St->Prop}{out:Out}(ho:∀ o,adv P X ors=Y o->Okay P Q o.2.2):∃ c0 o0 out0,X=Y (c0,o0,out0)/\Okay P Q out0:=by
 unfold adv at h ho
 split at h
 ·rename_i c0 o0 c ks S;simp only at ho;refine⟨_,_,_,rfl,?_⟩;cases hg:go P V c ors S with
  |none=>rw[hg]at h;unfold goK at h;simp[csOf]at h
  | some r=>
   obtain⟨c1,o1,out1⟩:=r;rw[hg]at h ho;cases hk:goK P ks (Y (c1,o1,out1))with
   |none=>rw[hk]at h;simp[csOf]at h
   |some r2=>
    obtain⟨c2,o2,out2⟩:=r2;rw[hk]at h;have hq:=ho _ hk;unfold csOf at h
    split at h
    ·rename_i e;simp only[Za,Zb]at e h;obtain⟨rfl,rfl,rfl⟩:=e;subst h;obtain⟨q1,q2⟩:=Vau Q ks _ _ _ _ _ _ hk hc hq;exact go_sound _ _ _ _ _ _ _ hg q1 _ q2
    ·simp at h
 ·simp[csOf]at h
def GO{α:Type}{K:α->Yk->St->Prop}{M:α}{X:Cf}(oc:OC)(h:csOf (adv P X oc.o)=Y oc.c)(hn:Nx P K M (adv P X oc.o)):Nx P K M X:=by
 obtain⟨c0,o0,out0,rfl,hq⟩:=adv_sound (Q:=K M) (out:=.fin .normal ⟨[],[],[]⟩) h (oc.h Yf) (λo ho=>by have:=hn.x;rw[ho]at this;exact this);exact⟨hq⟩
def start(c:Jm)(S:St):Cf:=Y ([],[],.at c [] S)
def Vbf(fn:Bq):Code:=fn.body.getD .skip
def KE{α:Type}(P:Zj)(fn:Bq)(enc:α->SV)(bx':D (E×Yx))(gn':D (Xs×E))(M:α):Yk->St->Prop:=Ends P fn (enc M) bx' gn'
def isAv:SV->Zs
 | .av _=>R
 |_=>V
def okFn (fn : Func) (args : List SV) (res : SV) : Bool := fn.body.isSome && !(fn.name == "runtime.NumGoroutine") && decide (args.length <= fn.ntmps) && args.all isAv && isAv res
def ok_av{s:SV}(h:isAv s=R)(ids:D E)(gn:D (Xs×E)):Bo ids gn s:=by
 cases s <;>simp_all[isAv,Bo,SV.keys]
def BEG{α:Type}(enc:α->SV)(M:α){f:Qr}{fn:Bq}{args:D SV}(hf:P.funcs[f]? =Y fn)(hok:okFn fn args (enc M)=R)
  (h:Nx P (KE P fn enc [] []) M (start (Vbf fn) ⟨args++Jh (fn.ntmps-args.length) .junk,[],[]⟩)):Va1 P f args [] [] (enc M) [] []:=by
 simp only[okFn,Zm,Z7,Z8]at hok;obtain⟨⟨⟨⟨h1,h2⟩,h3⟩,h4⟩,h5⟩:=hok;obtain⟨c,hb⟩:=Zy.1 h1;have e:Vbf fn=c:=by simp[Vbf,hb]
 refine Ved hf hb h2 rfl h3 ku ku ?_ ku (ok_av h5 _ _) ku rfl rfl ?_
 ·intro s hs;rw[Zz]at h4;exact ok_av (h4 s hs) _ _
 ·rw[<-e];exact h.x
def UF{α:Type}{K:α->Yk->St->Prop}{M M':α}{X:Cf}(e:M=M')(h:Nx P K M' X):Nx P K M X:=by rw[e];exact h
def CS{α:Type}{K:α->Yk->St->Prop}{b:Zs}{t u:α}{X:Cf}(h1:b=R->Nx P K t X)(h2:b=V->Nx P K u X):Nx P K (Zg b t u) X:=by
 cases b
 ·exact h2 rfl
 ·exact h1 rfl
def CSd{α:Type}{K:α->Yk->St->Prop}{p:Prop}[Decidable p]{t u:α}{X:Cf}(h1:p->O p=R->Nx P K t X)(h2:¬ p->O p=V->Nx P K u X):Nx P K (Zg (O p) t u) X:=
 CS (λh=>h1 (Zd h) h) (λh=>h2 (Zk h) h)
def CSe{α:Type}{K:α->Yk->St->Prop}{x y:J}{t u:α}{X:Cf}(h1:x=y->(x==y)=R->Nx P K t X)(h2:x≠y->(x==y)=V->Nx P K u X):Nx P K (Zg (x==y) t u) X:=
 CS (λh=>h1 (eq_of_beq h) h) (λh=>h2 (Q0 h) h)
def CSn{α:Type}{K:α->Yk->St->Prop}{x y:J}{t u:α}{X:Cf}(h1:x≠y->(x !=y)=R->Nx P K t X)(h2:x=y->(x !=y)=V->Nx P K u X):Nx P K (Zg (x !=y) t u) X:=
 CS (λh=>h1 (Z2.1 h) h) (λh=>h2 (Va7 h) h)
def Vmx(P:Zj)(fn:Bq)(X:Cf):Zn SV:=match X with
 |some (_,_,.fin .ret S)=>aRes P fn S V
 |some (_,_,.fin .normal S)=>aRes P fn S V
 |_=>Zo
def EN{α:Type}{fn:Bq}{enc:α->SV}{M:α}{X:Cf}(h:Vmx P fn X=Y (enc M)):Nx P (KE P fn enc [] []) M X:=by
 unfold Vmx at h
 split at h
 ·exact⟨ends (.inl rfl) h rfl ku ku⟩
 ·exact⟨ends (.inr rfl) h rfl ku ku⟩
 ·simp at h
def KL{α:Type}(P:Zj)(I:E->α->St->Prop)(n:E)(ks:D Fm)(K:α->Yk->St->Prop)(M:α):Yk->St->Prop:=
 Vq1 (λS'=>∃ m S'',m<n/\Qv S' S''/\I m M S'') (Kont P (K M) ks)
def stOf(X:Cf):St:=match X with
 |some (_,_,.fin _ S)=>S
 |some (_,_,.at _ _ S)=>S
 |none=>⟨[],[],[]⟩
def lpC(X:Cf):Code:=match X with
 |some (_,_,.at (.loop c) _ _)=>c
 |_=>.skip
def lpK(X:Cf):D Fm:=match X with
 |some (_,_,.at _ ks _)=>ks
 |_=>[]
def isLp(X:Cf):Bool:=match X with
 |some (_,_,.at (.loop _) _ _)=>R
 |_=>V
def LP{α:Type}{K:α->Yk->St->Prop}{M:α}{X:Cf}(I:E->α->St->Prop)(hX:isLp X=R){n:E}{S0:St}(h0:I n M S0)(hw:Qv (stOf X) S0)
  (round:∀ n M S,I n M S->Nx P (KL P I n (lpK X) K) M (start (lpC X) S)):Nx P K M X:=by
 unfold isLp at hX
 split at hX
 ·rename_i c0 o0 c ks S;exact⟨W_loop (I:=λn S=>I n M S) hw h0 (λn S' hI=>(round n M S' hI).x)⟩
 ·simp at hX
def Vp7(X:Cf):Zn Exit:=match X with
 |some (_,_,.fin e _)=>Y e
 |_=>Zo
def AG{α:Type}{K:α->Yk->St->Prop}{M:α}{X:Cf}{I:E->α->St->Prop}{n m:E}{ks:D Fm}{S'':St}(hi:I m M S'')(hw:Qv (stOf X) S'')(hX:Vp7 X=Y .normal)(hm:m<n):Nx P (KL P I n ks K) M X:=by
 unfold Vp7 at hX
 split at hX
 ·simp only[Za]at hX;subst hX;exact⟨⟨m,S'',hm,hw,hi⟩⟩
 ·simp at hX
def outX(P:Zj)(ks:D Fm)(X:Cf)(ors:D Oq):Cf:=match X with
 |some (_,_,.fin .normal _)=>Zo
 |some (_,_,.fin e S)=>goK P ks (Y ([],ors,.fin e S))
 |_=>Zo
def OUT{α:Type}{K:α->Yk->St->Prop}{M:α}{X:Cf}{I:E->α->St->Prop}{n:E}{ks:D Fm}(oc:OC)(h:csOf (outX P ks X oc.o)=Y oc.c)(hn:Nx P K M (outX P ks X oc.o)):Nx P (KL P I n ks K) M X:=by
 obtain⟨hn⟩:=hn;unfold outX at h hn
 split at h
 ·simp[csOf]at h
 ·rename_i c0 o0 e S hne;simp only at hn;cases hk:goK P ks (Y ([],oc.o,.fin e S))with
  |none=>rw[hk]at h;simp[csOf]at h
  |some r=>
   obtain⟨c2,o2,out2⟩:=r;rw[hk]at h hn;unfold csOf at h
   split at h
   ·rename_i e2;simp only[Za,Zb]at e2 h;obtain⟨rfl,rfl,rfl⟩:=e2;subst h;obtain⟨q1,q2⟩:=Vau (K M) ks _ _ _ _ _ _ hk (oc.h Yf) hn;exact⟨skipS q2 (by rintro rfl;first|exact hne rfl|exact hne _ rfl|exact hne _ _ rfl)⟩
   ·simp at h
 ·simp[csOf]at h
def kk(a b:D (Xs×E)):D Key:=a.map (·.1)++b.map (·.1)
def gv(a:D (Xs×E))(l:D Xs):D Nat:=l.map (λk=>(a.lookup k).getD 0)
abbrev SeenN:=E×D (Zn SV)×D (Zn Yx)×D E
def seesN(S:St)(ks bs:D E)(gn:D (Xs×E)):SeenN:=(S.fr.length,ks.map (λk=>S.fr[k]?),bs.map (λb=>S.bx.lookup b),gv S.gn (kk S.gn gn))
def gv_gen{a b:D (Xs×E)}(h:gv a (kk a b)=gv b (kk a b))(k:Xs):(a.lookup k).getD 0=(b.lookup k).getD 0:=by
 by_cases hk:k∈kk a b
 ·have:∀(l:D Xs),gv a l=gv b l->k∈l->(a.lookup k).getD 0=(b.lookup k).getD 0:=by
   intro l
   induction l with
   |nil=>intro _ hm;simp at hm
   |cons q l ih=>
    intro he hm;simp only[gv,Z0,Yi]at he;simp only[Ya]at hm;rcases hm with rfl|hm
    ·exact he.1
    ·exact ih he.2 hm
  exact this _ h hk
 ·have n1:a.lookup k=none:=by
   rw[Xg];intro p hp;simp;intro e;exact hk (by rw[e];exact Yu.2 (.inl (Xx hp)))
  have n2:b.lookup k=none:=by
   rw[Xg];intro p hp;simp;intro e;exact hk (by rw[e];exact Yu.2 (.inr (Xx hp)))
  rw[n1,n2]
def WK{S:St}{n:E}{l:D (E×SV)}{bx:D (E×Yx)}{gn:D (Xs×E)}(h:seesN S (Vjp l) (Vry bx) gn=(n,Vjm l,Vrx bx,gv gn (kk S.gn gn))):Qv S (sx n l bx gn):=by
 simp only[seesN,Zb]at h;obtain⟨h1,h2,h3,h4⟩:=h;have hw:=Vgi (S:=S) (n:=n) (l:=l) (bx:=bx) (gn:=S.gn) (by simp only[seesB,h1,h2,h3]);intro G w a hr;have hr2:=hw G w a hr;exact⟨hr2.wf,hr2.size,hr2.fr,hr2.bx,λk=>by rw[hr2.gn k];exact gv_gen h4 k,hr2.defers⟩
def putL(S:St):D (E×SV)->St
 |[]=>S
 |(t,v)::l=>putL (S.put (Y t) v) l
def fixP(S:St):D (E×SV)->D Prop
 |[]=>[]
 |(t,v)::l=>WkS S (Vcl S (Y t)) v::fixP (S.put (Y t) v) l
def Vqq:∀(l:D (E×SV))(S:St),Iy (fixP S l)->Qv S (putL S l)
 |[],S,_=>λ_ _ _ h=>h
 | (t,v)::l,S,h=>by
  intro G w a hr;refine Vqq l (S.put (Y t) v) h.2 G w a ?_;refine⟨hr.wf,by simp only[Xo,Qa];exact hr.size,λu s hu=>?_,hr.bx,hr.gn,hr.defers⟩;simp only[Xo]at hu;rw[Z3]at hu
  split at hu
  ·rename_i hd;subst hd
   split at hu
   ·rename_i hlt;simp only[Za]at hu;subst hu;refine WkS_rep hr.gn h.1 (hr.fr t _ ?_);simp[Vcl,Qq,hlt]
   ·simp at hu
  ·exact hr.fr u s hu
def WKf{S:St}{n:E}{l:D (E×SV)}{bx:D (E×Yx)}{gn:D (Xs×E)}(fx:D (E×SV)){cs:D Prop}(hc:Iy cs)(h:(fixP S fx,seesN (putL S fx) (Vjp l) (Vry bx) gn)=(cs,n,Vjm l,Vrx bx,gv gn (kk (putL S fx).gn gn))):Qv S (sx n l bx gn):=by
 simp only[Zb]at h;obtain⟨rfl,h⟩:=h;intro G w a hr;exact WK (n:=n) (l:=l) (bx:=bx) (gn:=gn) (by simp only[h]) G w a (Vqq fx S hc G w a hr)
def Vgc(S:St)(b k:E):SV:=match S.bx.lookup b with
 |some (.cells _ l)=>l.getD k .junk
 |_=>.junk
def Vd0(S:St)(b k:E)(v:SV):St:=match S.bx.lookup b with
 |some (.cells t l)=>S.setBox b (.cells t (l.set k v))
 |_=>S
def Vqr{S:St}{b k:E}{v:SV}(h:WkS S (Vgc S b k) v):Qv S (Vd0 S b k v):=by
 intro G w a hr;unfold Vd0
 split
 ·rename_i t l hl;simp only[Vgc,hl]at h;refine⟨hr.wf,hr.size,hr.fr,λp hp=>?_,hr.gn,hr.defers⟩;simp only[St.setBox,Yg]at hp;obtain⟨q,hq,rfl⟩:=hp
  split
  ·rename_i hqb;have hb:=hr.bx _ (Vag hl);simp only at hb ⊢;rw[hqb];obtain⟨blk,arr,g1,g2,g3,g4,g5⟩:=hb;refine⟨blk,arr,g1,g2,g3,?_,g5⟩;have key:∀(l:D SV)(k:E)(us:D Yq),WkS S (l.getD k .junk) v->D5 G w l us->D5 G w (l.set k v) us:=by
    intro l
    induction l with
    |nil=>intro k us _ hu;exact hu
    |cons s l ih=>
     intro k us hw hu;obtain⟨u,us',e,h2,h3⟩:=hu;cases k with
     |zero=>exact⟨u,us',e,WkS_rep hr.gn hw h2,h3⟩
     |succ k=>exact⟨u,us',e,h2,ih k us' hw h3⟩
   exact key l k _ h g4
  ·exact hr.bx q hq
 ·exact hr
def Vor(S:St):D (E×E×SV)->St
 |[]=>S
 |(b,k,v)::l=>Vor (Vd0 S b k v) l
def cellP(S:St):D (E×E×SV)->D Prop
 |[]=>[]
 |(b,k,v)::l=>WkS S (Vgc S b k) v::cellP (Vd0 S b k v) l
def Vht:∀(l:D (E×E×SV))(S:St),Iy (cellP S l)->Qv S (Vor S l)
 |[],S,_=>λ_ _ _ h=>h
 |(b,k,v)::l,S,h=>λG w a hr=>Vht l _ h.2 G w a (Vqr h.1 G w a hr)
def retell(X:Cf)(l:D (E×E×SV)):Cf:=match X with
 |some (c,o,.at d ks S)=>Y (c,o,.at d ks (Vor S l))
 |_=>Zo
def RT{α:Type}{K:α->Yk->St->Prop}{M:α}{X:Cf}(l:D (E×E×SV)){cs:D Prop}(hc:Iy cs)(h:cellP (stOf X) l=cs)(hn:Nx P K M (retell X l)):Nx P K M X:=by
 obtain⟨hn⟩:=hn;subst h;unfold retell at hn
 split at hn
 ·rename_i c o d ks S;exact⟨Vaj (Vht l S hc) hn⟩
 ·exact hn.elim
section
variable {H:Prop}
def z:OCx H:=⟨[],[],λ_=>trivial⟩
def tn(n:E)(r:OCx H):OCx H:=⟨r.o,Vos n Bb r.c,λh=>akn n (r.h h)⟩
def kp{p:Prop}(h:p)(r:OCx H):OCx H:=⟨r.o,p::r.c,λq=>⟨h,r.h q⟩⟩
def kb{b d:Zs}(h:b=d)(r:OCx H):OCx H:=⟨.o (.b d)::r.o,(b=d)::r.c,λq=>⟨h,r.h q⟩⟩
def ke{l:D AV}{i:J}{y:AV}(h:0<=i/\l[i.toNat]? =Y y)(r:OCx H):OCx H:=⟨.o (.e y)::r.o,(0<=i/\l[i.toNat]? =Y y)::r.c,λq=>⟨h,r.h q⟩⟩
def kn{k:Q8}{x m:J}(h:k.wrap x=m)(r:OCx H):OCx H:=⟨.o (.n m)::r.o,(k.wrap x=m)::r.c,λq=>⟨h,r.h q⟩⟩
def kc{f:Qr}{args:D SV}{res:SV}(h:Va1 P f args [] [] res [] [])(r:OCx H):OCx H:=⟨.o (.c res [] [] [])::r.o,Va1 P f args [] [] res [] []::Bb::r.c,λq=>⟨h,Yf,r.h q⟩⟩
def kg{f:Qr}{args:D SV}{res:SV}{bx bx':D (E×Yx)}{gn gn':D (Xs×E)}{p:Prop}(h:Va1 P f args bx gn res bx' gn')(hg:p)(r:OCx H):OCx H:=⟨.o (.c res bx' gn gn')::r.o,Va1 P f args bx gn res bx' gn'::p::r.c,λq=>⟨h,hg,r.h q⟩⟩
def kq(i:E)(r:OCx H):OCx H:=⟨.p i::r.o,r.c,r.h⟩
def kw{l0 l:D AV}(h:l0=l)(r:OCx H):OCx H:=⟨.w l::r.o,(l0=l)::r.c,λq=>⟨h,r.h q⟩⟩
def kl{v y:AV}(h:v=y)(r:OCx H):OCx H:=⟨.o (.e y)::r.o,Bb::(v=y)::r.c,λq=>⟨Yf,h,r.h q⟩⟩
def kj(b:Zs)(x:OCx (H/\b=R))(y:OCx (H/\b=V))(r:OCx H):OCx H:=⟨.j x.o y.o::r.o,(b=R->Iy x.c)::(b=V->Iy y.c)::r.c,λq=>⟨λh=>x.h ⟨q,h⟩,λh=>y.h ⟨q,h⟩,r.h q⟩⟩
def ks(b:Zs)(ts:D E)(x:OCx (H/\b=R))(y:OCx (H/\b=V))(r:OCx H):OCx H:=⟨.s ts x.o y.o::r.o,(b=R->Iy x.c)::(b=V->Iy y.c)::r.c,λq=>⟨λh=>x.h ⟨q,h⟩,λh=>y.h ⟨q,h⟩,r.h q⟩⟩
def hp{p:Prop}(h:H->p)(r:OCx H):OCx H:=⟨r.o,p::r.c,λq=>⟨h q,r.h q⟩⟩
def he{l:D AV}{i:J}{y:AV}(h:H->0<=i/\l[i.toNat]? =Y y)(r:OCx H):OCx H:=⟨.o (.e y)::r.o,(0<=i/\l[i.toNat]? =Y y)::r.c,λq=>⟨h q,r.h q⟩⟩
def hn{k:Q8}{x m:J}(h:H->k.wrap x=m)(r:OCx H):OCx H:=⟨.o (.n m)::r.o,(k.wrap x=m)::r.c,λq=>⟨h q,r.h q⟩⟩
def hc{f:Qr}{args:D SV}{res:SV}(h:H->Va1 P f args [] [] res [] [])(r:OCx H):OCx H:=⟨.o (.c res [] [] [])::r.o,Va1 P f args [] [] res [] []::Bb::r.c,λq=>⟨h q,Yf,r.h q⟩⟩
def hw{l0 l:D AV}(h:H->l0=l)(r:OCx H):OCx H:=⟨.w l::r.o,(l0=l)::r.c,λq=>⟨h q,r.h q⟩⟩
end
end
end
section
def oneV(P:Zj)(o:Zt)(ors:D Oq)(S:St):Zn (D Or×D Oq×SV×BG):=
 match runV P o [] S with
 |some (_,v,bx,gn)=>Y ([],ors,v,bx,gn)
 | none=>match ors with
  | .o x::ors=>match runV P o [x] S with
   |some (_,v,bx,gn)=>Y ([x],ors,v,bx,gn)
   |none=>Zo
  |_=>Zo
def Vl2:D Or->Zs
 |[]=>R
 |x::_=>Viz x
def mkDS(P:Zj)(ds:D (Zn Bj)):D Zt->D Oq->St->Zn (D DS×D Oq)
 |[],ors,_=>Y ([],ors)
 | o::rest,ors,S=>match o.guard with
  | none=>match oneV P o ors S with
   | some (us,ors1,v,bx,gn)=>match still o.op&&Vl2 us with
    |true=>match mkDS P ds rest ors1 (S.put o.dst v)with
     |some (l,r)=>Y (⟨us,Zo,v,Zo⟩::l,r)
     |none=>Zo
    |false=>match mkDS P ds rest ors1 ((⟨S.fr,bx,gn⟩:St).put o.dst v)with
     |some (l,r)=>Y (⟨us,Zo,v,Y (bx,gn)⟩::l,r)
     |none=>Zo
   |none=>Zo
  | some (j,want)=>match Vdq ds S j with
   |some (.av (.tup []))=>match mkDS P ds rest ors (S.put o.dst Vav)with
    |some (l,r)=>Y (⟨[],Zo,Vav,Zo⟩::l,r)
    |none=>Zo
   | some (.av (.val (.bool _)))=>match ors with
    | .o (.b d)::ors=>match O (d=want)with
     | true=>match oneV P o ors S with
      | some (us,ors1,v,bx,gn)=>match still o.op&&Vl2 us with
       |true=>match mkDS P ds rest ors1 (S.put o.dst v)with
        |some (l,r)=>Y (⟨us,Y d,v,Zo⟩::l,r)
        |none=>Zo
       |false=>match mkDS P ds rest ors1 ((⟨S.fr,bx,gn⟩:St).put o.dst v)with
        |some (l,r)=>Y (⟨us,Y d,v,Y (bx,gn)⟩::l,r)
        |none=>Zo
      |none=>Zo
     |false=>match mkDS P ds rest ors (S.put o.dst Vav)with
      |some (l,r)=>Y (⟨[],Y d,Vav,Zo⟩::l,r)
      |none=>Zo
    |_=>Zo
   |_=>Zo
abbrev VB:=SV×BG
def Vly(P:Zj)(o:Zt)(s:DS)(f:D SV)(st:D DS)(b0:BG):D (Zn E)->Zn (D Prop×D VB×D VB)
 |[]=>Y ([],[],[])
 |c::l=>match runV P o s.ors ⟨f,(Vd9 st b0 c).1,(Vd9 st b0 c).2⟩,Vly P o s f st b0 l with
  |some (cs,v,bx,gn),Y (r,x,y)=>Y (cs++r,(v,bx,gn)::x,(s.v,s.out.getD (Vd9 st b0 c))::y)
  |_,_=>Zo
section
variable {P:Zj}
def All_app{a b:D Prop}(ha:Iy a)(hb:Iy b):Iy (a++b):=by
 induction a with
 |nil=>exact hb
 |cons p a ih=>exact⟨ha.1,ih ha.2⟩
def Vrn{o:Zt}{s:DS}{f:D SV}{st:D DS}{b0:BG}:∀(l:D (Zn E))(cs:D Prop)(x y:D VB),Vly P o s f st b0 l=Y (cs,x,y)->Iy cs->x=y->∃ c,dRuns P o s f st b0 l=Y c/\Iy c
 |[],cs,x,y,h,hc,e=>⟨[],rfl,Yf⟩
 |c::l,cs,x,y,h,hc,e=>by
  simp only[Vly]at h
  split at h
  ·rename_i cs1 v bx gn r x1 y1 h1 h2;simp only[Za,Zb]at h;obtain⟨rfl,rfl,rfl⟩:=h;obtain⟨hc1,hc2⟩:=Vba hc;simp only[Yi,Zb]at e;obtain⟨⟨e1,e2⟩,e3⟩:=e;obtain⟨c',g1,g2⟩:=Vrn l _ _ _ h2 hc2 e3;refine⟨cs1++(v=s.v/\(bx,gn)=s.out.getD (Vd9 st b0 c))::c',by simp only[dRuns,h1,g1],All_app hc1 ?_⟩;exact⟨⟨e1,e2⟩,g2⟩
  ·simp at h
def Vnq{o:Zt}{s:DS}{f:D SV}{st:D DS}{b0:BG}:∀(l:D (Zn E))(cs:D Prop)(x y:D VB),Vly P o s f st b0 l=Y (cs,x,y)->x.length=y.length
 |[],cs,x,y,h=>by simp only[Vly,Za,Zb]at h;obtain⟨_,rfl,rfl⟩:=h;rfl
 |c::l,cs,x,y,h=>by
  simp only[Vly]at h
  split at h
  ·rename_i cs1 v bx gn r x1 y1 h1 h2;simp only[Za,Zb]at h;obtain⟨rfl,rfl,rfl⟩:=h;simp[Vnq l _ _ _ h2]
  ·simp at h
structure DrawR where
 ops:D Zt
 st:D DS
 f0:D SV
 b0:BG
 ks:D Fm
 rest:D Oq
def ko{H:Prop}(x:Or)(r:OCx H):OCx H:=⟨.o x::r.o,r.c,r.h⟩
def eO{l:D AV}{i:J}{y:AV}(h:0<=i/\l[i.toNat]? =Y y):Or:=.e y
def nO{k:Q8}{x m:J}(h:k.wrap x=m):Or:=.n m
def cO{f:Qr}{args:D SV}{res:SV}{bx bx':D (E×Yx)}{gn gn':D (Xs×E)}(h:Va1 P f args bx gn res bx' gn'):Or:=.c res bx' gn gn'
def hb{H:Prop}{b d:Zs}(h:H->b=d)(r:OCx H):OCx H:=⟨.o (.b d)::r.o,(b=d)::r.c,λq=>⟨h q,r.h q⟩⟩
def hl{H:Prop}{v y:AV}(h:H->v=y)(r:OCx H):OCx H:=⟨.o (.e y)::r.o,Bb::(v=y)::r.c,λq=>⟨Yf,h q,r.h q⟩⟩
end
end
section
section
variable {P:Zj}{H:Prop}
def m0{b d:Zs}(h:b=d)(r:OCx H):OCx H:=tn 1 (kb h r)
def m5:OCx H:=tn 1 z
def z6{b d:Zs}(h:b=d)(r:OCx H):OCx H:=tn 2 (kb h r)
def j6:OCx H:=tn 2 z
def i6:OCx H:=tn 3 z
def m6{k:Q8}{x m:J}(h:k.wrap x=m)(r:OCx H):OCx H:=tn 1 (kn h r)
def j7{f:Qr}{args:D SV}{res:SV}(h:Va1 P f args [] [] res [] [])(r:OCx H):OCx H:=tn 2 (kc h r)
def w7{b d:Zs}(h:b=d)(r:OCx H):OCx H:=tn 3 (kb h r)
def i7:OCx H:=tn 4 z
def m7(b:Zs)(x:OCx (H/\b=R))(y:OCx (H/\b=V))(r:OCx H):OCx H:=tn 1 (kj b x y r)
def n7{f:Qr}{args:D SV}{res:SV}(h:Va1 P f args [] [] res [] [])(r:OCx H):OCx H:=tn 1 (kc h r)
def p7{p:Prop}(h:p)(r:OCx H):OCx H:=tn 2 (kp h r)
def t7(b:Zs)(x:OCx (H/\b=R))(y:OCx (H/\b=V))(r:OCx H):OCx H:=tn 3 (kj b x y r)
def z8{p:Prop}(h:p)(r:OCx H):OCx H:=tn 4 (kp h r)
def j8(b:Zs)(x:OCx (H/\b=R))(y:OCx (H/\b=V))(r:OCx H):OCx H:=tn 4 (kj b x y r)
def i8{b d:Zs}(h:b=d)(r:OCx H):OCx H:=tn 4 (kb h r)
def m8{f:Qr}{args:D SV}{res:SV}(h:Va1 P f args [] [] res [] [])(r:OCx H):OCx H:=tn 3 (kc h r)
def n8:OCx H:=tn 5 z
def o8{f:Qr}{args:D SV}{res:SV}{bx bx':D (E×Yx)}{gn gn':D (Xs×E)}{p:Prop}(h:Va1 P f args bx gn res bx' gn')(hg:p)(r:OCx H):OCx H:=tn 2 (kg h hg r)
def p8{k:Q8}{x m:J}(h:k.wrap x=m)(r:OCx H):OCx H:=tn 2 (kn h r)
def t8{k:Q8}{x m:J}(h:k.wrap x=m)(r:OCx H):OCx H:=tn 3 (kn h r)
def j9{p:Prop}(h:p)(r:OCx H):OCx H:=tn 13 (kp h r)
def m9{p:Prop}(h:H->p)(r:OCx H):OCx H:=tn 2 (hp h r)
def o9{b d:Zs}(h:b=d)(r:OCx H):OCx H:=tn 5 (kb h r)
def p9{p:Prop}(h:p)(r:OCx H):OCx H:=tn 1 (kp h r)
def zq{b d:Zs}(h:b=d)(r:OCx H):OCx H:=tn 6 (kb h r)
def qq{p:Prop}(h:p)(r:OCx H):OCx H:=tn 3 (kp h r)
def xq{b d:Zs}(h:b=d)(r:OCx H):OCx H:=tn 7 (kb h r)
def jq(b:Zs)(x:OCx (H/\b=R))(y:OCx (H/\b=V))(r:OCx H):OCx H:=tn 5 (kj b x y r)
def vq{f:Qr}{args:D SV}{res:SV}(h:Va1 P f args [] [] res [] [])(r:OCx H):OCx H:=tn 5 (kc h r)
def yq{k:Q8}{x m:J}(h:k.wrap x=m)(r:OCx H):OCx H:=tn 4 (kn h r)
def wq(b:Zs)(x:OCx (H/\b=R))(y:OCx (H/\b=V))(r:OCx H):OCx H:=tn 2 (kj b x y r)
def bq{l:D AV}{i:J}{y:AV}(h:0<=i/\l[i.toNat]? =Y y)(r:OCx H):OCx H:=tn 1 (ke h r)
def cq{f:Qr}{args:D SV}{res:SV}(h:Va1 P f args [] [] res [] [])(r:OCx H):OCx H:=tn 4 (kc h r)
def dq{k:Q8}{x m:J}(h:H->k.wrap x=m)(r:OCx H):OCx H:=tn 2 (hn h r)
def eq{f:Qr}{args:D SV}{res:SV}(h:Va1 P f args [] [] res [] [])(r:OCx H):OCx H:=tn 6 (kc h r)
def fq(b:Zs)(ts:D E)(x:OCx (H/\b=R))(y:OCx (H/\b=V))(r:OCx H):OCx H:=tn 1 (ks b ts x y r)
def gq{p:Prop}(h:p)(r:OCx H):OCx H:=tn 5 (kp h r)
def iq:OCx H:=tn 6 z
def lq:OCx H:=tn 7 z
def mq{k:Q8}{x m:J}(h:k.wrap x=m)(r:OCx H):OCx H:=tn 9 (kn h r)
def nq{p:Prop}(h:p)(r:OCx H):OCx H:=tn 6 (kp h r)
def oq(x:Or)(r:OCx H):OCx H:=tn 1 (ko x r)
def pq(x:Or)(r:OCx H):OCx H:=tn 2 (ko x r)
end
end
section
section
variable {P:Zj} {fr:D SV} {bx ex:D (E×Yx)} {gn:D (Xs×E)} {r:Res}
def Apart(ex bx:D (E×Yx)):Prop:=∀ p∈ex,∀q∈bx,p.1≠q.1
def Vdm(h:Apart ex bx){b:E}{x:Yx}(hx:bx.lookup b=Y x):(ex++bx).lookup b=Y x:=by
 have hm:=Vag hx;rw[List.lookup_append];have:ex.lookup b=none:=by
  rw[Xg];intro p hp;have:=h p hp _ hm;simpa using I5 this
 rw[this];simpa using hx
def Vbc(x:Q5):(⟨fr,ex++bx,gn⟩:St).ev x=(⟨fr,bx,gn⟩:St).ev x:=by cases x <;>rfl
def Vny{o:Zt}(ha:Apart ex bx)(hs:still o.op=R)(h:Vb8 P o ⟨fr,bx,gn⟩=Y r):Vb8 P o ⟨fr,ex++bx,gn⟩=Y ⟨r.ok,r.v,⟨fr,ex++bx,gn⟩⟩:=by
 unfold Vb8 at h ⊢
 split at h
 all_goals first|(rename_i ho;rw[ho]at hs)|(simp at h;done)
 all_goals try (simp only[still,Zw]at hs;done)
 all_goals try simp only[Vbc]
 all_goals try (simp only[Za]at h;subst h;rfl)
 ·unfold aPick at h ⊢;split at h <;>simp at h;subst h;rfl
 ·unfold aBinS at h ⊢
  split at h
  ·unfold aBinB at h ⊢;split at h
   ·split at h <;>simp at h <;>subst h <;>rfl
   ·simp at h
  ·rw[Zr]at h ⊢;obtain⟨q,h1,rfl⟩:=h;exact⟨q,h1,rfl⟩
  ·unfold aBinA at h ⊢;split at h
   ·split at h
    ·rename_i hc;rw[Z1 hc];split at h <;>simp at h <;>subst h <;>rfl
    ·simp at h
   ·simp at h
  ·simp at h
 ·unfold aUnS at h ⊢;split at h
  ·rw[Zr]at h ⊢;obtain⟨q,h1,rfl⟩:=h;exact⟨q,h1,rfl⟩
  ·simp at h
 ·unfold Vfi at h ⊢;split at h
  ·rw[Zr]at h ⊢;obtain⟨q,h1,rfl⟩:=h;exact⟨q,h1,rfl⟩
  ·rw[Zr]at h ⊢;obtain⟨q,h1,rfl⟩:=h;exact⟨q,h1,rfl⟩
  ·simp at h
 ·unfold Vdu at h ⊢;split at h <;>simp at h <;>subst h <;>rfl
 ·unfold Vjt at h ⊢
  split at h
  ·split at h
   ·split at h
    ·simp at h
    ·rename_i hz;rw[Xw hz];split at h <;>simp at h <;>subst h <;>rfl
   ·simp at h
  ·simp at h
 ·unfold Vjj at h ⊢
  split at h
  ·split at h
   ·split at h
    ·rename_i hl;rw[Zr]at h;obtain⟨q,h1,rfl⟩:=h;simp only[Vdm ha hl,h1,D7]
    ·simp at h
   ·rw[Zr]at h ⊢;obtain⟨q,h1,rfl⟩:=h;exact⟨q,h1,rfl⟩
   ·simp at h
  ·split at h
   ·split at h
    ·split at h
     ·rename_i hl;simp only[Vdm ha hl]
      split at h
      ·rename_i e1
       split at h
       ·rename_i e2
        split at h
        ·rename_i e3;simp only[Za]at h;subst h;simp only[e1,e2,Z1 e3]
        ·simp at h
       ·simp at h
      ·rename_i e1
       split at h
       ·rename_i e2
        split at h
        ·rename_i e3;simp only[Za]at h;subst h;simp only[e1,e2,Z1 e3]
        ·simp at h
       ·simp at h
     ·simp at h
    ·split at h
     ·rename_i e3;rw[Z1 e3];simp only[Za]at h;subst h;rfl
     ·simp at h
    ·simp at h
   ·simp at h
  ·simp at h
 ·unfold Vs7 at h ⊢;rw[Vlb (S:=⟨fr,ex++bx,gn⟩) (S':=⟨fr,bx,gn⟩) (λp _=>Vbc p.2)]
  split at h
  ·split at h
   ·rename_i e1;rw[Z1 e1];rw[Zr]at h ⊢;obtain⟨q,h1,rfl⟩:=h;exact⟨q,h1,rfl⟩
   ·simp at h
  ·simp at h
 ·unfold Vc7 at h ⊢;rw[Vld (S:=⟨fr,ex++bx,gn⟩) (S':=⟨fr,bx,gn⟩) (λp _=>Vbc p)]
  split at h
  ·split at h
   ·split at h
    ·rename_i e1;rw[Z1 e1];simp only[Za]at h;subst h;rfl
    ·simp at h
   ·simp at h
  ·simp at h
 ·unfold Veo at h ⊢
  split at h
  ·split at h
   ·simp only[Za]at h;subst h;rfl
   ·simp at h
  ·split at h
   ·split at h
    ·rename_i e1;simp only[Z1 e1];simp only[Za]at h;subst h;rfl
    ·simp at h
   ·simp at h
  ·split at h
   ·split at h
    ·split at h
     ·rename_i e1;rw[Z1 e1];simp only[Za]at h;subst h;rfl
     ·simp at h
    ·simp at h
   ·split at h
    ·split at h
     ·simp only[Za]at h;subst h;rfl
     ·simp at h
    ·simp at h
 ·unfold Vs6 at h ⊢
  split at h
  ·split at h
   ·rename_i e1;rw[Z1 e1];simp only[Za]at h;subst h;rfl
   ·simp at h
  ·split at h
   ·split at h
    ·simp only[Za]at h;subst h;rfl
    ·simp at h
   ·simp at h
  ·simp at h
 ·have hm:∀ q:Zn Q5,q.map (⟨fr,ex++bx,gn⟩:St).ev=q.map (⟨fr,bx,gn⟩:St).ev:=by intro q;cases q <;>simp[Vbc]
  simp only[hm];unfold Vs3 at h ⊢
  split at h
  ·split at h
   ·split at h
    ·split at h
     ·simp only[Za]at h;subst h;rfl
     ·simp only[Za]at h;subst h;rfl
    ·simp at h
   ·simp at h
  split at h
  ·split at h
   ·split at h
    ·rename_i e1;rw[Z1 e1];simp only[Za]at h;subst h;rfl
    ·simp at h
   ·simp at h
  ·split at h
   ·split at h
    ·simp only[Za]at h;subst h;rfl
    ·simp at h
   ·simp at h
  ·simp at h
 ·unfold Ve5 at h ⊢
  split at h
  ·simp only[Vbc];unfold aLen at h ⊢
   split at h
   ·split at h
    ·rename_i e1;rw[Z1 e1];simp only[Za]at h;subst h;rfl
    ·simp at h
   ·split at h
    ·rename_i e1;rw[Z1 e1];simp only[Za]at h;subst h;rfl
    ·simp at h
   split at h
   ·split at h
    ·rename_i e1;rw[Z1 e1];simp only[Za]at h;subst h;rfl
    ·simp at h
   ·split at h
    ·rename_i e1;rw[Z1 e1];simp only[Za]at h;subst h;rfl
    ·simp at h
   ·simp at h
  ·simp[still]at hs
  ·simp only[Vbc]
   split at h
   ·split at h
    ·rename_i e1;rw[Z1 e1];simp only[Za]at h;subst h;rfl
    ·simp at h
   ·simp at h
  ·simp only[Vbc]
   split at h
   ·split at h
    ·rename_i e1;rw[Z1 e1];simp only[Za]at h;subst h;rfl
    ·simp at h
   ·simp at h
  ·simp only[Vbc]
   split at h
   ·split at h
    ·rename_i e1;rw[Z1 e1];simp only[Za]at h;subst h;rfl
    ·simp at h
   ·simp at h
  ·simp[still]at hs
  ·simp at h
 ·unfold Vfh at h ⊢
  split at h
  ·split at h
   ·split at h
    ·rename_i e1;rw[Z1 e1]
     split at h
     ·split at h
      ·split at h
       ·rename_i hl;simp only[Vdm ha hl];simp only[Za]at h;subst h;rfl
       ·simp at h
      ·simp only[Za]at h;subst h;rfl
      ·simp only[Za]at h;subst h;rfl
      ·simp at h
     ·simp at h
    ·simp at h
   ·simp at h
  ·simp at h
 ·unfold Vid at h ⊢
  split at h
  ·split at h
   ·simp only[Za]at h;subst h;rfl
   ·simp at h
  ·split at h
   ·simp only[Za]at h;subst h;rfl
   ·simp at h
  ·split at h
   ·simp only[Za]at h;subst h;rfl
   ·simp at h
  ·simp at h
def Vre{l:D (Xs×E)}:gnOk ⟨fr,ex++bx,gn⟩ l=gnOk ⟨fr,bx,gn⟩ l:=by
 induction l with
 |nil=>rfl
 |cons p l ih=>obtain⟨k,g⟩:=p;simp only[gnOk,ih];rfl
def Vqu{o:Zt}:opVs o ⟨fr,ex++bx,gn⟩=opVs o ⟨fr,bx,gn⟩:=by
 unfold opVs;simp only[Vbc]
def runV0_more{o:Zt}{ors:D Or}{cs:D Prop}{v:SV}{bx':D (E×Yx)}{gn':D (Xs×E)}(ha:Apart ex bx)(hs:still o.op=R)(hq:Vl2 ors=R)(h:Vhr P o ors ⟨fr,bx,gn⟩=Y (cs,v,bx',gn')):
  bx'=bx/\gn'=gn/\Vhr P o ors ⟨fr,ex++bx,gn⟩=Y (cs,v,ex++bx,gn):=by
 unfold Vhr at h ⊢
 split at h
 ·simp only[Vbc]
  split at h
  ·simp only[Za,Zb]at h;obtain⟨rfl,rfl,rfl,rfl⟩:=h;exact⟨rfl,rfl,rfl⟩
  ·simp at h
 ·simp only[Vbc]
  split at h
  ·split at h
   ·rename_i hk;simp only[Za,Zb]at h;obtain⟨rfl,rfl,rfl,rfl⟩:=h;rw[Z1 hk];exact⟨rfl,rfl,rfl⟩
   ·simp at h
  ·simp only[Za,Zb]at h;obtain⟨rfl,rfl,rfl,rfl⟩:=h;exact⟨rfl,rfl,rfl⟩
  ·simp at h
 ·simp only[Vbc]
  split at h
  ·split at h
   ·rename_i hk;simp only[Za,Zb]at h;obtain⟨rfl,rfl,rfl,rfl⟩:=h;rw[Z1 hk];exact⟨rfl,rfl,rfl⟩
   ·simp at h
  ·simp at h
 ·simp only[Vbc]
  split at h
  ·split at h
   ·rename_i hk;simp only[Za,Zb]at h;obtain⟨rfl,rfl,rfl,rfl⟩:=h;rw[Z1 hk];exact⟨rfl,rfl,rfl⟩
   ·simp at h
  ·simp at h
 ·simp only[Vbc]
  split at h
  ·split at h
   ·split at h
    ·rename_i hk;simp only[Za,Zb]at h;obtain⟨rfl,rfl,rfl,rfl⟩:=h;rw[Z1 hk];exact⟨rfl,rfl,rfl⟩
    ·simp at h
   ·simp at h
  ·split at h
   ·split at h
    ·simp only[Za,Zb]at h;obtain⟨rfl,rfl,rfl,rfl⟩:=h;exact⟨rfl,rfl,rfl⟩
    ·simp at h
   ·simp at h
 ·simp only[Vbc]
  split at h
  ·rename_i f fs cs' res bx2 gn2 gn3 hx
   split at h
   case h_2=>simp at h
   simp only[Za,Zb]at h;obtain⟨rfl,rfl,rfl,rfl⟩:=h;simp only[Vl2]at hq;unfold Viz at hq
   split at hq
   ·rename_i e;simp only[Or.c.injEq]at e;obtain⟨_,rfl,_,rfl⟩:=e;simp only[upd_nil,hx,Vbb];rw[Veb (S:=⟨fr,ex++bx,gn⟩) (S':=⟨fr,bx,gn⟩) (λp _=>Vbc p),Vre];refine⟨Yf,Yf,?_⟩;have hf:∀ l:D (E×Yx),l.filter (λp=>(List.map (λx=>x.1) ([]:D (E×Yx))).contains p.1)=[]:=by intro l;simp
    rw[hf,hf]
   ·simp at hq
   ·rename_i e;exact(e _ _ _ _ rfl).elim
  ·simp at h
 ·split at h
  ·rename_i ok' v' st' y h2;simp only[Za,Zb]at h;obtain⟨rfl,rfl,rfl,rfl⟩:=h;rw[Vny ha hs h2];exact⟨rfl,rfl,rfl⟩
  ·simp at h
 ·split at h
  ·rename_i r h1 h2;simp only[Za,Zb]at h;obtain⟨rfl,rfl,rfl,rfl⟩:=h;have e:=Vfe h2 hs;rw[Vqu,h1,Vny ha hs h2];simp only[e];exact⟨Yf,Yf,Yf⟩
  ·simp at h
def Vjl{o:Zt}{ors:D Or}{r:D Prop×D Or×SV}(ha:Apart ex bx)(h:Vbg P o ors ⟨fr,bx,gn⟩=Y r):Vbg P o ors ⟨fr,ex++bx,gn⟩=Y r:=by
 unfold Vbg at h ⊢
 split at h
 ·rename_i t x y ors2 ho;simp only[Vbc]
  split at h
  ·rename_i b s i k hx
   try simp only
   split at h
   ·rename_i e s' l hb ht;simp only at hb;rw[Vdm ha hb];simp only[ht];exact h
   ·rename_i e s' l n _ _ hb ht hti;simp only at hb;rw[Vdm ha hb];simp only[ht,hti];exact h
   ·simp at h
  ·simp at h
 ·simp only[Vbc];exact h
 ·simp at h
def runV_more{o:Zt}{ors:D Or}{cs:D Prop}{v:SV}{bx':D (E×Yx)}{gn':D (Xs×E)}(ha:Apart ex bx)(hs:still o.op=R)(hq:Vl2 ors=R)(h:runV P o ors ⟨fr,bx,gn⟩=Y (cs,v,bx',gn')):
  bx'=bx/\gn'=gn/\runV P o ors ⟨fr,ex++bx,gn⟩=Y (cs,v,ex++bx,gn):=by
 unfold runV at h ⊢
 split at h
 ·rename_i c v' hv;rw[Vjl ha hv];simp only[Za,Zb]at h;obtain⟨rfl,rfl,rfl,rfl⟩:=h;exact⟨rfl,rfl,rfl⟩
 ·simp at h
 ·rename_i hv;have:Vbg P o ors ⟨fr,ex++bx,gn⟩=none:=by
   unfold Vbg
   split
   ·rename_i t x y ors2 ho;unfold Vhr at h;simp only[ho]at h;simp at h
   ·rename_i t x i ors2 ho;unfold Vbg at hv;simp only[ho]at hv;simp only[Vbc];exact hv
   ·rfl
  rw[this];exact runV0_more ha hs hq h
def Voc:Op->SV->Zs
 | .call {callee:=.builtin .append,args:=_,argTypes:=_},.av _=>R
 |_,_=>V
def aAppend_av{d:Zn Bj}{t t2:Qm}{x y:SV}{v:AV}(h:Vgf P d t t2 x y ⟨fr,bx,gn⟩=Y r)(hv:r.v=.av v):r.st=⟨fr,bx,gn⟩/\Vgf P d t t2 x y ⟨fr,ex++bx,gn⟩=Y ⟨r.ok,r.v,⟨fr,ex++bx,gn⟩⟩:=by
 unfold Vgf at h ⊢
 split at h
 ·split at h
  ·rename_i e d sz bt z hT
   split at h
   ·rename_i hc
    split at h
    ·rename_i l' hl;cases x with
     |own k g sz' l=>simp only at h;split at h <;>simp at h;subst h;simp at hv
     |vs b n=>
      simp only at h;split at h
      ·split at h <;>simp at h;subst h;simp at hv
      ·simp at h
     |clo l=>simp only[Za]at h;subst h;simp only[hT,Z1 hc,hl];exact⟨Yf,Yf⟩
     |nil=>simp only[Za]at h;subst h;simp at hv
     |_=>simp at h
    ·simp at h
   ·simp at h
  ·simp at h
 ·simp at h
def runV_moreA{o:Zt}{ors:D Or}{cs:D Prop}{v:SV}{bx':D (E×Yx)}{gn':D (Xs×E)}(hs:Voc o.op v=R)(h:runV P o ors ⟨fr,bx,gn⟩=Y (cs,v,bx',gn')):
  bx'=bx/\gn'=gn/\runV P o ors ⟨fr,ex++bx,gn⟩=Y (cs,v,ex++bx,gn):=by
 unfold Voc at hs
 split at hs
 ·rename_i args tys v ho;have hv:∀ S:St,Vbg P o ors S=none:=λS=>by unfold Vbg;rw[ho]
  unfold runV at h ⊢;rw[hv]at h ⊢;simp only[Vhr,ho,Vcq,Vd4,Bool.true_and,Bc]at h ⊢
  split at h
  ·rename_i r h1 h2;simp only[Za,Zb]at h;obtain⟨rfl,hvr,rfl,rfl⟩:=h;have h3:r.st=⟨fr,bx,gn⟩/\Vb8 P o ⟨fr,ex++bx,gn⟩=Y ⟨r.ok,r.v,⟨fr,ex++bx,gn⟩⟩:=by
    unfold Vb8 at h2 ⊢;rw[ho]at h2 ⊢;simp only[Ve5]at h2 ⊢
    split at h2
    all_goals first|(simp only[Vbc];exact aAppend_av h2 hvr)|(simp at h2;done)|(rename_i e _ _;cases e;done)|(rename_i e _;cases e;done)
   rw[Vqu,h1,h3.2];simp only[h3.1];exact⟨Yf,Yf,by rw[hvr]⟩
  ·simp at h
 ·simp at hs
end
def isVck:Yx->Zs
 | .vck _ _ _=>R
 | .ge _=>R
 |_=>V
def readC:D Or->Zs
 |[.c _ b' [] []]=>b'.any (λp=>isVck p.2)
 |_=>V
def Voq:D Or->D E
 |[.c _ b' _ _]=>b'.map (·.1)
 |_=>[]
def runV_moreC{P:Zj}{fr:D SV}{ex bx:D (E×Yx)}{gn:D (Xs×E)}{o:Zt}{ors:D Or}{cs:D Prop}{v:SV}(ha:Apart ex bx)(hc:readC ors=R)(hex:∀ p∈ex,(Voq ors).contains p.1=V)(h:runV P o ors ⟨fr,bx,gn⟩=Y (cs,v,bx,gn)):
  runV P o ors ⟨fr,ex++bx,gn⟩=Y (cs,v,ex++bx,gn):=by
 unfold readC at hc
 split at hc
 case h_2=>cases hc
 rename_i res b';clear hc;unfold runV at h ⊢
 split at h
 ·rename_i c v' hv;rw[Vjl ha hv];simp only[Za,Zb]at h;obtain⟨rfl,rfl,_,_⟩:=h;rfl
 ·simp at h
 ·rename_i hv;have:Vbg P o [.c res b' [] []] ⟨fr,ex++bx,gn⟩=none:=by
   unfold Vbg
   split
   ·rename_i ho;cases ho
   ·rename_i t x i ors2 ho;unfold Vbg at hv;simp only[ho]at hv;simp only[Vbc];exact hv
   ·rfl
  rw[this];clear this hv
  show Vhr P o [.c res b' [] []] ⟨fr,ex++bx,gn⟩=_;unfold Vhr at h ⊢
  split at h
  case h_6=>
   simp only[Vbc]
   split at h
   ·rename_i f fs cs' res2 b2 gn2 gn3 hx heq;simp only[Yi,Or.c.injEq,J8]at heq;obtain⟨rfl,rfl,rfl,rfl⟩:=heq
    split at h
    case h_2=>simp at h
    rename_i hvi;simp only[Za,Zb]at h ⊢;obtain⟨h1,h2,h3,h4⟩:=h;have hf:(ex++bx).filter (λp=>(b'.map (λx=>x.1)).contains p.1)=bx.filter (λp=>(b'.map (λx=>x.1)).contains p.1):=by
     rw[List.filter_append,List.filter_eq_nil_iff.2 (λp hp=>?_),Q3];have:=hex p hp;simp only[Voq]at this;rw[this];simp
    have hlk:∀ p∈ex,b'.lookup p.1=none:=λp hp=>by
     have:=hex p hp;simp only[Voq,Jk,Yg,decide_eq_false_iff_not,not_exists,not_and]at this;rw[Xg];intro q hq;have:=this q hq;simpa using λe=>this e.symm
    have hup:((⟨fr,ex++bx,gn⟩:St).upd b' []).bx=ex++((⟨fr,bx,gn⟩:St).upd b' []).bx:=by
     rw[Vh1 hvi,Vh1 hvi];simp only[List.map_append];congr 1
     conv=>rhs;rw[<-List.map_id ex]
     apply List.map_congr_left;intro p hp;rw[hlk p hp];rfl
    have hgn2:((⟨fr,ex++bx,gn⟩:St).upd b' []).gn=((⟨fr,bx,gn⟩:St).upd b' []).gn:=by
     rw[Vh1 hvi,Vh1 hvi]
    refine⟨?_,h2,by rw[hup,h3],by rw[hgn2,h4]⟩;rw[<-h1,Veb (S:=⟨fr,ex++bx,gn⟩) (S':=⟨fr,bx,gn⟩) (λp _=>Vbc p),Vre,hf]
   ·simp at h
  all_goals (exfalso;revert h;repeat' split)
  all_goals (intro h;first|(cases h;done)|(rename_i e;cases e;done)|(rename_i e _;cases e;done)|(rename_i e _ _;cases e;done)|(simp_all;done))
def Vpl(P:Zj)(o:Zt):Zn (E×Yx):=match o.op,o.dst with
 | .alloc t,Y id=>match Van P t with
  |some (_,_,Y z)=>Y (id,.cells t (zeroCells z))
  |_=>Zo
 |_,_=>Zo
def alAt(P:Zj)(ops:D Zt)(k:E):Zn (E×Yx):=(ops[k]?).bind (Vpl P)
def exs(P:Zj)(ops:D Zt)(st:D DS)(L:E->Zs):E->D (E×Yx)
 |0=>[]
 | m+1=>match L m with
  | true=>match Vb5 st m with
   |some _=>[]
   |none=>match alAt P ops m with
    |some p=>p::exs P ops st L m
    |none=>exs P ops st L m
  |false=>exs P ops st L m
def hasKey(l:D (E×Yx))(id:E):Bool:=l.any (λp=>p.1==id)
def alSt(P:Zj)(ops:D Zt)(st:D DS)(M:D E)(b0:BG):Bool:=
 (Y2 ops.length).all fun k=>match alAt P ops k with
  |none=>R
  | some p=>(Vb5 st k).isNone&& !hasKey b0.1 p.1&&(Y2 ops.length).all fun e=>
    (match Vb5 st e with|some b=>Vdk M k e&&(O (k<e)|| !hasKey b.1 p.1)|none=>R)&&
    (match alAt P ops e with|some q=>e==k|| !(q.1==p.1)|none=>R)
section
variable {P:Zj} {ops:D Zt} {st:D DS} {M:D E} {f0:D SV} {b0:BG}
def Vjb{L:E->Zs}:∀ {m:E} {p:E×Yx},p∈exs P ops st L m->∃ k,k<m/\L k=R/\alAt P ops k=Y p/\∀ e,k<e->e<m->(Vb5 st e).isSome=R->L e=V
 |0,p,h=>by simp[exs]at h
 | m+1,p,h=>by
  simp only[exs]at h
  split at h
  ·rename_i hL
   split at h
   ·simp at h
   ·rename_i ho
    split at h
    ·rename_i q hq;simp only[Ya]at h;rcases h with rfl|h
     ·exact⟨m,kv,hL,hq,λe h1 h2=>by omega⟩
     ·obtain⟨k,h1,h2,h3,h4⟩:=Vjb h;refine⟨k,kv,h2,h3,λe q1 q2 q3=>?_⟩;rcases Zl e m with h5|h5
      ·exact h4 e q1 h5 q3
      ·have:e=m:=kv;subst this;rw[ho]at q3;simp at q3
    ·obtain⟨k,h1,h2,h3,h4⟩:=Vjb h;refine⟨k,kv,h2,h3,λe q1 q2 q3=>?_⟩;rcases Zl e m with h5|h5
     ·exact h4 e q1 h5 q3
     ·have:e=m:=kv;subst this;rw[ho]at q3;simp at q3
  ·rename_i hL;obtain⟨k,h1,h2,h3,h4⟩:=Vjb h;refine⟨k,kv,h2,h3,λe q1 q2 q3=>?_⟩;rcases Zl e m with h5|h5
   ·exact h4 e q1 h5 q3
   ·have:e=m:=kv;subst this;exact hL
def Vka{L L':E->Zs}:∀ {m:E},(∀k,k<m->((Vb5 st k).isSome=R\/(alAt P ops k).isSome=R)->L k=L' k)->exs P ops st L m=exs P ops st L' m
 |0,_=>rfl
 | m+1,h=>by
  have ih:=@Vka L L' m (λk hk=>h k kv);simp only[exs,ih];cases ho:Vb5 st m with
  |some b=>rw[h m kv (.inl (by rw[ho];rfl))]
  |none=>
   cases ha:alAt P ops m with
   |some p=>rw[h m kv (.inr (by rw[ha];rfl))]
   |none=>cases L m <;>cases L' m <;>rfl
def exs_upto{L:E->Zs}{i:E}(h:∀ k,i<=k->((Vb5 st k).isSome=R\/(alAt P ops k).isSome=R)->L k=V):∀ m,i<=m->exs P ops st L m=exs P ops st L i:=by
  intro m
  induction m with
  | zero => intro hm;have:i=0:=by omega
            subst this;rfl
  | succ m ih=>
    intro hm;rcases Zl m i with hlt|hge
    · have:i=m+1:=kv;subst this;rfl
    · rw[<-ih hge];simp only[exs];cases ho:Vb5 st m with
      |some b=>rw[h m hge (.inl (by rw[ho];rfl))]
      | none=>
        cases ha:alAt P ops m with
        |some p=>rw[h m hge (.inr (by rw[ha];rfl))]
        |none=>cases L m <;>rfl
def exs_eff{L:E->Zs}{i:E}(hi:(Vb5 st i).isSome=R)(h:∀ k,i<k->((Vb5 st k).isSome=R\/(alAt P ops k).isSome=R)->L k=V):∀ m,i<m->exs P ops st (also L i) m=[]:=by
 intro m hm;have hu:∀ k,i+1<=k->((Vb5 st k).isSome=R\/(alAt P ops k).isSome=R)->also L i k=false:=by
  intro k hk hs;simp only[also,Xw (show ¬k=i by omega)];exact h k kv hs
 rw[exs_upto hu m kv];simp only[exs,also,Xp];obtain⟨b,hb⟩:=Zy.1 hi;rw[hb]
def exs_al{L:E->Zs}{i:E}{p:E×Yx}(hp:alAt P ops i=Y p):∀ m q,q∈exs P ops st (also L i) m->q=p\/q∈exs P ops st L m\/∃ e,i<e/\e<m/\(Vb5 st e).isSome=R/\L e=true:=by
 intro m
 induction m with
 |zero=>intro q hq;simp[exs]at hq
 | succ m ih=>
  intro q hq;simp only[exs]at hq ⊢
  by_cases hm:m=i
  ·subst hm;simp only[also,Xp]at hq;cases ho:Vb5 st m with
   |some b=>rw[ho]at hq;simp at hq
   | none=>
    rw[ho,hp]at hq;simp only[Ya]at hq;rcases hq with rfl|hq
    ·exact .inl rfl
    ·rcases ih q hq with h|h|⟨e,h1,h2,h3⟩
     ·exact .inl h
     ·refine .inr (.inl ?_);cases L m
      ·exact h
      ·simp only[hp];exact Jj _ h
     ·omega
  ·rw[show also L i m=L m by simp only[also,Xw hm]]at hq;cases hL:L m with
   |false=>
    rw[hL]at hq;rcases ih q hq with h|h|⟨e,h1,h2,h3⟩
    ·exact .inl h
    ·exact .inr (.inl h)
    ·exact .inr (.inr ⟨e,h1,kv,h3⟩)
   | true=>
    rw[hL]at hq;simp only at hq ⊢;cases ho:Vb5 st m with
    |some b=>rw[ho]at hq;simp at hq
    | none=>
     rw[ho]at hq;simp only at hq ⊢;cases ha:alAt P ops m with
     |none=>
      rw[ha]at hq;rcases ih q hq with h|h|⟨e,h1,h2,h3⟩
      ·exact .inl h
      ·exact .inr (.inl h)
      ·exact .inr (.inr ⟨e,h1,kv,h3⟩)
     | some p'=>
      rw[ha]at hq;simp only[Ya]at hq ⊢;rcases hq with rfl|hq
      ·exact .inr (.inl (.inl rfl))
      ·rcases ih q hq with h|h|⟨e,h1,h2,h3⟩
       ·exact .inl h
       ·exact .inr (.inl (.inr h))
       ·exact .inr (.inr ⟨e,h1,kv,h3⟩)
def Vk7{L:E->Zs}{i k:E}{o:Zt}(hg:Good ops st M L i o)(h:Vdk M i k=R):(k<i->L k=R)/\(i<k->L k=V):=by
 simp only[Vdk,Yv,Zm,Z7]at h;rcases h with⟨h1,h2⟩|⟨h1,h2⟩
 ·exact⟨λ_=>hg.down k h2 kv,λh=>by omega⟩
 ·refine⟨λh=>by omega,λ_=>?_⟩;cases hL:L k with
  |false=>rfl
  |true=>rw[hg.up k hL]at h2;simp at h2
def Vqt(M:D E)(i k:E):Vdk M i k=Vdk M k i:=by
 simp only[Vdk];rw[Bool.or_comm]
def alAt_lt{k:E}{p:E×Yx}(h:alAt P ops k=Y p):k<ops.length:=by
 rcases Zl k ops.length with h1|h1
 ·exact h1
 ·simp[alAt,Zv h1]at h
def outOf_lt{k:E}(h:(Vb5 st k).isSome=R):k<st.length:=by
 rcases Zl k st.length with h1|h1
 ·exact h1
 ·simp[Vb5,Zv h1]at h
def Vpk{k:E}{p:E×Yx}(hs:alSt P ops st M b0=R)(hst:st.length=ops.length)(hk:alAt P ops k=Y p):Vb5 st k=Zo/\(∀q∈b0.1,q.1≠p.1)/\(∀e b,Vb5 st e=Y b->Vdk M k e=R/\(e<k->∀ q∈b.1,q.1≠p.1))/\(∀e q,alAt P ops e=Y q->e≠k->q.1≠p.1):=by
 have hkl:=alAt_lt hk;simp only[alSt,Zz,Z9]at hs;have h1:=hs k hkl;rw[hk]at h1;simp only[Zm,Z8,Zz,Z9]at h1;obtain⟨⟨h2,h3⟩,h4⟩:=h1;have nk:∀ l:D (E×Yx),hasKey l p.1=V->∀ q∈l,q.1≠p.1:=by
  intro l hl q hq;simp only[hasKey,Xr]at hl;simpa using hl q hq
 refine⟨by simpa using h2,nk _ h3,λe b hb=>?_,λe q hq hne=>?_⟩
 ·have hel:e<ops.length:=by rw[<-hst];exact outOf_lt (by rw[hb];rfl)
  have:=h4 e hel;rw[hb]at this;simp only[Zm]at this;obtain⟨⟨q1,q2⟩,_⟩:=this;refine⟨q1,λhlt=>nk _ ?_⟩;simp only[Yv,Z7,Z8]at q2;rcases q2 with q2|q2
  ·omega
  ·exact q2
 ·have:=h4 e (alAt_lt hq);have:=this.2;rw[hq]at this;simp only[Yv,I1,Z8,beq_eq_false_iff_ne]at this;rcases this with h|h
  ·exact Jt h hne
  ·exact h
def Vrh{L:E->Zs}(hs:alSt P ops st M b0=R)(hst:st.length=ops.length):Apart (exs P ops st L ops.length) (bxD st b0 L ops.length).1:=by
 intro p hp q hq;obtain⟨k,h1,h2,h3,h4⟩:=Vjb hp;obtain⟨g1,g2,g3,g4⟩:=Vpk hs hst h3;rcases bx_last (st:=st) (b0:=b0) (L:=L) ops.length with⟨e1,e2⟩|⟨e,e1,e2,e3,e4,e5⟩
 ·rw[e1]at hq;exact I5 (g2 q hq)
 ·rw[e4]at hq;obtain⟨b,hb⟩:=Zy.1 e3;simp only[Vd9,hb,Xf]at hq;rcases Dq e k with hlt|heq|hgt
  ·exact I5 ((g3 e b hb).2 hlt q hq)
  ·subst heq;rw[g1]at hb;simp at hb
  ·have:=h4 e hgt e1 e3;rw[e2]at this;simp at this
def alBox_zero{o:Zt}{p:E×Yx}(h:Vpl P o=Y p)(id:E):p.2.svs.any (SV.names id)=false:=by
 unfold Vpl at h
 split at h
 ·split at h
  ·rename_i z hz;simp only[Za]at h;subst h;rw[Xr];intro s hs;simp only[ABox.svs,zeroCells,Yg]at hs;obtain⟨c,_,rfl⟩:=hs;simp[Vm0]
  ·simp at h
 ·simp at h
def alloc_more{o:Zt}{p:E×Yx}{ors:D Or}{fr fr':D SV}{bx ex bx':D (E×Yx)}{gn gn':D (Xs×E)}{cs:D Prop}{v:SV}(hp:Vpl P o=Y p)(h:runV P o ors ⟨fr,bx,gn⟩=Y (cs,v,bx',gn'))(hfr:fr'.any (SV.names p.1)=V)
  (hex:∀ q∈ex,q.1≠p.1/\q.2.svs.any (SV.names p.1)=V):bx'=p::bx/\gn'=gn/\runV P o ors ⟨fr',ex++bx,gn⟩=Y (cs,v,p::(ex++bx),gn):=by
 unfold Vpl at hp
 split at hp
 ·rename_i t id ho hd
  split at hp
  ·rename_i z hz;simp only[Za]at hp;subst hp;simp only at hfr hex;have hv:∀ S,Vbg P o ors S=none:=by intro S;unfold Vbg;rw[ho]
   unfold runV at h ⊢;simp only[hv]at h ⊢;unfold Vhr at h ⊢;simp only[ho]at h ⊢;simp only[Vcq,Vd4,Bool.or_true]at h ⊢;unfold Vb8 at h ⊢;simp only[ho]at h ⊢;unfold Vs8 at h ⊢;simp only[hd,hz]at h ⊢
   by_cases hc:(z.cells.toList.all λc=>c.oneCell')=R/\id<1000/\(⟨fr,bx,gn⟩:St).names id=V
   ·rw[Z1 hc]at h;have hn:(⟨fr',ex++bx,gn⟩:St).names id=false:=by
     have:=hc.2.2;simp only[St.names,Bool.or_eq_false_iff]at this ⊢;refine⟨hfr,?_⟩;rw[List.any_append,this.2,Bc,Xr];intro q hq;have:=hex q hq;simp[this.1,this.2]
    rw[Z1 ⟨hc.1,hc.2.1,hn⟩];cases ors with
    |nil=>
     simp only[Za,Zb,St.addBox]at h ⊢;obtain⟨rfl,rfl,rfl,rfl⟩:=h;exact⟨rfl,rfl,rfl,rfl,Yf⟩
    |cons x l=>simp at h
   ·rw[Xw hc]at h;simp at h
  ·simp at hp
 ·simp at hp
def runAt(P:Zj)(o:Zt)(s:DS)(f:D SV)(b want:BG):Zn (D Prop×D VB×D VB):=
 match runV P o s.ors ⟨f,b.1,b.2⟩with
 |some (cs,v,bx,gn)=>Y (cs,[(v,bx,gn)],[(s.v,want)])
 |none=>Zo
def dRun3(P:Zj)(ops:D Zt)(st:D DS)(M:D E)(f:D SV)(b0:BG)(i:E)(o:Zt)(s:DS):Zn (D Prop×D VB×D VB):=
 match alAt P ops i with
 |some p=>runAt P o s f (Vd9 st b0 (Vd3 st i)) (p::(Vd9 st b0 (Vd3 st i)).1,(Vd9 st b0 (Vd3 st i)).2)
 | none=>match s.out with
  |some b=>runAt P o s f (exs P ops st (λ_=>R) i++(Vd9 st b0 (Vd3 st i)).1,(Vd9 st b0 (Vd3 st i)).2) b
  |none=>match(still o.op&&Vl2 s.ors)||Voc o.op s.v||(readC s.ors&&(Y2 ops.length).all (λk=>match alAt P ops k with|some q=> !(Voq s.ors).contains q.1|none=>R))with
   |true=>Vly P o s f st b0 (cands st M ops.length i)
   |false=>Zo
def dOp3(P:Zj)(ops:D Zt)(st:D DS)(M:D E)(f0:D SV)(b0:BG)(i:E):Zn (D Prop×D VB×D VB):=
 match ops[i]?,st[i]? with
 | some o,Y s=>(match alOk ops st M f0 i o with
  |false=>Zo
  |true=>
  match o.guard with
  |none=>dRun3 P ops st M (frD ops st f0 (λ_=>R) i) b0 i o s
  | some (j,want)=>match guardOk ((Vem ops j).bind ((frD ops st f0 (fun _=>R) i)[·]?)) want s.gd with
   |some (cs,R)=>match dRun3 P ops st M (frD ops st f0 (λ_=>R) i) b0 i o s with
    |some (c2,r)=>Y (cs++c2,r)
    |none=>Zo
   |some (cs,V)=>match s.out,alAt P ops i with
    |none,Zo=>Y (cs,[(s.v,b0)],[(Vav,b0)])
    |_,_=>Zo
   |none=>Zo)
 |_,_=>Zo
def Vrr(P:Zj)(ops:D Zt)(st:D DS)(M:D E)(f0:D SV)(b0:BG):E->Zn (D Prop×D VB×D VB)
 |0=>Y ([],[],[])
 |m+1=>match Vrr P ops st M f0 b0 m,dOp3 P ops st M f0 b0 m with
  |some (a,x,y),Y (b,x',y')=>Y (a++b,x++x',y++y')
  |_,_=>Zo
def Vqi{o:Zt}{s:DS}{f:D SV}{b want:BG}{cs:D Prop}{x y:D VB}(h:runAt P o s f b want=Y (cs,x,y)):x.length=y.length:=by
 unfold runAt at h
 split at h
 ·simp only[Za,Zb]at h;obtain⟨_,rfl,rfl⟩:=h;rfl
 ·simp at h
def Vro{f:D SV}{i:E}{o:Zt}{s:DS}{cs:D Prop}{x y:D VB}(h:dRun3 P ops st M f b0 i o s=Y (cs,x,y)):x.length=y.length:=by
 unfold dRun3 at h
 split at h
 ·exact Vqi h
 ·split at h
  ·exact Vqi h
  ·split at h
   ·exact Vnq _ _ _ _ h
   ·simp at h
def dOp3_len{i:E}{cs:D Prop}{x y:D VB}(h:dOp3 P ops st M f0 b0 i=Y (cs,x,y)):x.length=y.length:=by
 unfold dOp3 at h
 split at h
 ·split at h
  ·simp at h
  ·split at h
   ·exact Vro h
   ·split at h
    ·split at h
     ·rename_i h2;simp only[Za,Zb]at h;obtain⟨_,rfl⟩:=h;exact Vro h2
     ·simp at h
    ·split at h
     ·simp only[Za,Zb]at h;obtain⟨_,rfl,rfl⟩:=h;rfl
     ·simp at h
    ·simp at h
 ·simp at h
def Vrp:∀(n:E)(cs:D Prop)(x y:D VB),Vrr P ops st M f0 b0 n=Y (cs,x,y)->x.length=y.length
 |0,cs,x,y,h=>by simp only[Vrr,Za,Zb]at h;obtain⟨_,rfl,rfl⟩:=h;rfl
 |n+1,cs,x,y,h=>by
  simp only[Vrr]at h
  split at h
  ·rename_i a x1 y1 b x2 y2 h1 h2;simp only[Za,Zb]at h;obtain⟨_,rfl,rfl⟩:=h;simp[Vrp n _ _ _ h1,dOp3_len h2]
  ·simp at h
def Vrq:∀(n:E)(cs:D Prop)(x y:D VB),Vrr P ops st M f0 b0 n=Y (cs,x,y)->Iy cs->x=y->∀ i,i<n->∃ c u,dOp3 P ops st M f0 b0 i=Y (c,u,u)/\Iy c
 |0,cs,x,y,h,hc,e,i,hi=>by omega
 | n+1,cs,x,y,h,hc,e,i,hi=>by
  simp only[Vrr]at h
  split at h
  ·rename_i a x1 y1 b x2 y2 h1 h2;simp only[Za,Zb]at h;obtain⟨rfl,rfl,rfl⟩:=h;obtain⟨hc1,hc2⟩:=Vba hc;obtain⟨e1,e2⟩:=List.append_inj e (Vrp n _ _ _ h1);rcases Zl i n with hlt|hge
   ·exact Vrq n _ _ _ h1 hc1 e1 i hlt
   ·have:i=n:=kv;subst this;subst e2;exact⟨b,x2,h2,hc2⟩
  ·simp at h
end
def W_draw2{P:Zj}{id:E}{ops:Yj Zt}{Q:Yk->St->Prop}{S:St}(st:D DS){cs:D Prop}{u:D VB}(hm:P.follows .mixedOrders=R)(hst:st.length=ops.toList.length)
  (hs:Vlx ops.toList st (Vh9 ops.toList [])=R) (hal:alSt P ops.toList st (Vh9 ops.toList []) (S.bx,S.gn)=R) (hd:Vrr P ops.toList st (Vh9 ops.toList []) S.fr (S.bx,S.gn) ops.toList.length=Y (cs,u,u)) (hc:Iy cs)
  (hq:Q .normal ⟨frD ops.toList st S.fr (λ_=>R) ops.toList.length,exs P ops.toList st (λ_=>R) ops.toList.length++(bxD st (S.bx,S.gn) (λ_=>R) ops.toList.length).1,(bxD st (S.bx,S.gn) (λ_=>R) ops.toList.length).2⟩):W P (.region id ops R) Q S:=by
 intro G0 w0 a0 hr0;obtain⟨hstep0,hr0'⟩:=hr0.draw;apply Fs hm;generalize hol:ops.toList=opl at *
 have hn:ops.size=opl.length:=by rw[<-hol];simp
 have hget:∀ i:E,ops[i]? =opl[i]? :=by intro i;rw[<-hol];simp
 have main:∀(fuel:E)(listed:Yj Zs)(G:Gh)(w:Zx)(a:Iz),listed.size=ops.size->left (λk=>listed.getD k V) opl.length<=fuel->
   (∀(k:E) ok,opl[k]? =Y ok->listed.getD k V=R->∀ e∈ok.after,Y0 .any e=R->listed.getD e.on V=R)->
   Ja G w ⟨frD opl st S.fr (λk=>listed.getD k V) opl.length,exs P opl st (λk=>listed.getD k V) opl.length++(bxD st (S.bx,S.gn) (λk=>listed.getD k V) opl.length).1,(bxD st (S.bx,S.gn) (λk=>listed.getD k V) opl.length).2⟩ a->
   Iv G0 w0 G w->(∀i,Fx i->G.ow (i,0)=G0.ow (i,0))->wpAny P .any ops (lift Q G0 w0) fuel listed a w:=by
  intro fuel;have done:∀(listed:Yj Zs)(G:Gh)(w:Zx)(a:Iz),(∀i,i<opl.length->listed.getD i V=R)->Ja G w ⟨frD opl st S.fr (λk=>listed.getD k V) opl.length,exs P opl st (λk=>listed.getD k V) opl.length++(bxD st (S.bx,S.gn) (λk=>listed.getD k V) opl.length).1,(bxD st (S.bx,S.gn) (λk=>listed.getD k V) opl.length).2⟩ a->
    Iv G0 w0 G w->(∀i,Fx i->G.ow (i,0)=G0.ow (i,0))->lift Q G0 w0 .normal a w:=by
   intro listed G w a hall hr hst' how;rw[Vrf (L':=λ_=>R) _ hall,Vrv (L':=λ_=>R) _ hall,Vka (L':=λ_=>R) (λk hk _=>hall k hk)]at hr;exact⟨_,G,hq,hst',hr,how⟩
  induction fuel with
  |zero=>
   intro listed G w a hsz hle hcl hr hst' how;have hall:=Vr6 (Nat.le_zero.1 hle);refine⟨?_,done listed G w a hall hr hst' how⟩;rw[List.eq_nil_iff_forall_not_mem];intro j hj;obtain⟨h1,o,h2,_⟩:=Dt.1 hj;have hjl:j<ops.size:=(Ic.1 h2).1;have h3:=hall j kv;simp only[Zp]at h1 h3;rw[Y5 (by omega:j<listed.size)]at h1 h3;simp only[Xf]at h1 h3;rw[h1]at h3;simp at h3
  | succ fuel ih=>
   intro listed G w a hsz hle hcl hr hst' how;have same:∀ j,j<opl.length->listed.getD j R=listed.getD j false:=by
    intro j hj;simp only[Zp];rw[Y5 (by omega:j<listed.size)];rfl
   refine⟨λhnil=>?_,λi hi=>?_⟩
   ·apply done listed G w a _ hr hst' how;apply Classical.byContradiction;intro hno;obtain⟨i,h1,h2,h3⟩:=least_false hno;have:i∈Z4 .any ops listed:=by
     rw[Dt];refine⟨by rw[same i h1];exact h2,opl[i],by rw[hget i];simp[h1],λe he hb=>h3 e.on ?_⟩;simp only[Vlx,Zz,Z9]at hs;have q:=hs i h1;simp only[Xz h1,Zm]at q;have q1:=q.1;simp only[Zz]at q1;have:=q1 e (by simpa using he);simpa[hb]using this
    rw[hnil]at this;simp at this
   ·obtain⟨h1,o,h2,h3⟩:=Dt.1 hi;rw[hget i]at h2;have hil:i<opl.length:=by
     rcases Zl i opl.length with h|h
     ·exact h
     ·simp[Zv h]at h2
    rw[same i hil]at h1;obtain⟨s,hsi⟩:∃ s,st[i]? =Y s:=⟨st[i]'(kv),ku⟩
    have hg:Good opl st (Vh9 opl []) (λk=>listed.getD k V) i o:=by
     refine good_of rfl hs kv (λk hk=>?_) h2 h1 hcl h3;rcases Zl k opl.length with h|h
     ·exact h
     ·simp[Qk (show listed.size<=k by omega)]at hk
    have hset:(λk=>(listed.setIfInBounds i R).getD k V)=also (λk=>listed.getD k V) i:=by
     funext k;simp only[also]
     split
     ·rename_i hk;subst hk;simp[Zp,show k<listed.size by omega]
     ·rename_i hk;rw[getD_set_ne V (I5 hk)]
    have hfr2:frD opl st S.fr (also (λk=>listed.getD k V) i) opl.length=putF (frD opl st S.fr (λk=>listed.getD k V) opl.length) o.dst s.v:=by
     have:=Zf St.fr (Vo0 (f0:=S.fr) (b0:=(S.bx,S.gn)) hg h2 hil hsi);rw[show frD opl st S.fr (also (λk=>listed.getD k V) i) opl.length=_ from this];cases o.dst <;>rfl
    have hbx2:bxD st (S.bx,S.gn) (also (λk=>listed.getD k V) i) opl.length=s.out.getD (bxD st (S.bx,S.gn) (λk=>listed.getD k V) opl.length):=by
     have e:=Vo0 (f0:=S.fr) (b0:=(S.bx,S.gn)) hg h2 hil hsi;have e1:=Zf St.bx e;have e2:=Zf St.gn e;apply Prod.ext
     ·rw[show(bxD st (S.bx,S.gn) (also (λk=>listed.getD k V) i) opl.length).1=_ from e1];cases o.dst <;>rfl
     ·rw[show(bxD st (S.bx,S.gn) (also (λk=>listed.getD k V) i) opl.length).2=_ from e2];cases o.dst <;>rfl
    have next:∀(G':Gh)(w':Zx)(a':Iz),Iv G w G' w'->(∀i,Fx i->G'.ow (i,0)=G.ow (i,0))->
      Ja G' w' ⟨putF (frD opl st S.fr (λk=>listed.getD k V) opl.length) o.dst s.v,exs P opl st (also (λk=>listed.getD k V) i) opl.length++(s.out.getD (bxD st (S.bx,S.gn) (λk=>listed.getD k V) opl.length)).1,(s.out.getD (bxD st (S.bx,S.gn) (λk=>listed.getD k V) opl.length)).2⟩ a'->
      wpAny P .any ops (lift Q G0 w0) fuel (listed.setIfInBounds i R) a' w':=by
     intro G' w' a' k1 k2 k3;rw[<-hfr2, <-hbx2]at k3;refine ih (listed.setIfInBounds i R) G' w' a' (by simp[hsz]) ?_ ?_ ?_ (hst'.trans k1) (λj hj=>(k2 j hj).trans (how j hj))
     ·rw[hset];have:=Vr7 (L:=λk=>listed.getD k V) h1 hil;omega
     ·intro k ok hk hL e he hb
      by_cases hki:k=i
      ·subst hki;rw[h2]at hk;simp only[Za]at hk;subst hk;exact Ft (h3 e he hb)
      ·rw[getD_set_ne V (I5 hki)]at hL;exact Ft (hcl k ok hk hL e he hb)
     ·rw[hset];exact k3
    have putE:∀(f:D SV)(bx:D (E×Yx))(gn:D (Xs×E)),((⟨f,bx,gn⟩:St).put o.dst s.v)=⟨putF f o.dst s.v,bx,gn⟩:=by
     intro f bx gn;cases o.dst <;>rfl
    have pureN:alAt P opl i=Zo->Vb5 st i=Zo->exs P opl st (also (λk=>listed.getD k V) i) opl.length=exs P opl st (λk=>listed.getD k V) opl.length:=by
     intro q1 q2;refine Vka (λk hk hs=>?_);simp only[also]
     split
     ·rename_i hki;subst hki;rw[q1,q2]at hs;simp at hs
     ·rfl
    have hout:Vb5 st i=s.out:=by simp[Vb5,hsi]
    obtain⟨c,uu,hdo,hca⟩:=Vrq _ _ _ _ hd hc rfl i hil;simp only[dOp3,h2,hsi]at hdo;cases hao:alOk opl st (Vh9 opl []) S.fr i o with
    |false=>rw[hao]at hdo;simp at hdo
    |true=>
    rw[hao]at hdo;simp only at hdo;have local_:∀ x∈o.op.operands,∀bx gn,(⟨frD opl st S.fr (λ_=>R) i,bx,gn⟩:St).ev x=(⟨frD opl st S.fr (λk=>listed.getD k V) opl.length,bx,gn⟩:St).ev x:=by
     intro x hx bx gn;cases x with
     | tmp t=>
      have:t∈looks opl o:=by
       simp only[looks,Yu,Y3];exact .inl (.inl ⟨.tmp t,by simpa using hx,rfl⟩)
      simp only[St.ev,List.getD_eq_getElem?_getD];rw[Vqc hg hil this]
     |_=>rfl
    have runs:∀ {cr:D Prop} {v2:D VB},dRun3 P opl st (Vh9 opl []) (frD opl st S.fr (λ_=>R) i) (S.bx,S.gn) i o s=Y (cr,v2,v2)->Iy cr->o.wp P a w (wpAny P .any ops (lift Q G0 w0) fuel (listed.setIfInBounds i R)) (lift Q G0 w0):=by
     intro cr v2 hdr hcr;obtain⟨cd,hcd,hbx⟩:=cand_mem (b0:=(S.bx,S.gn)) hg hil;unfold dRun3 at hdr
     split at hdr
     ·rename_i p hp;obtain⟨g1,g2,g3,g4⟩:=Vpk hal hst hp;have hbp:Vpl P o=Y p:=by simpa[alAt,h2]using hp
      have hce:bxD st (S.bx,S.gn) (λk=>listed.getD k V) opl.length=Vd9 st (S.bx,S.gn) (Vd3 st i):=by
       have hu:∀ k,i<k->(Vb5 st k).isSome=R->listed.getD k V=false:=by
        intro k hk hs;obtain⟨b,hb⟩:=Zy.1 hs;exact(Vk7 hg (g3 k b hb).1).2 hk
       rw[bx_upto hg.un hu opl.length kv];refine Vg3 i (λk hk hs=>?_);obtain⟨b,hb⟩:=Zy.1 hs;exact(Vk7 hg (g3 k b hb).1).1 hk
      unfold runAt at hdr
      split at hdr
      ·rename_i cs' v bx' gn' hr1;simp only[Za,Zb]at hdr;obtain⟨rfl,e1,e2⟩:=hdr;rw[<-e2]at e1;simp only[Yi,Zb,J8]at e1;obtain⟨rfl,rfl,rfl⟩:=e1;have hdst:o.dst=Y p.1:=by
        unfold Vpl at hbp
        split at hbp
        ·rename_i hd
         split at hbp
         ·simp only[Za]at hbp;subst hbp;exact hd
         ·simp at hbp
        ·simp at hbp
       have hia:Vd4 o.op=true:=by
        unfold Vpl at hbp
        split at hbp
        ·rename_i ho hd;rw[ho];rfl
        ·simp at hbp
       obtain⟨_,_,q3⟩:=alloc_more (fr':=frD opl st S.fr (λk=>listed.getD k V) opl.length) (ex:=exs P opl st (λk=>listed.getD k V) opl.length) hbp hr1 (Vm7 hao hg.un hg.up hia p.1 hdst _ (Yr _)) (by
        intro q hq;obtain⟨k,k1,k2,k3,k4⟩:=Vjb hq;have hki:k≠i:=by intro e;subst e;rw[hg.un]at k2;simp at k2
        refine⟨g4 k q k3 hki,?_⟩;have:∃ ok,Vpl P ok=Y q:=by
         unfold alAt at k3;cases hk:opl[k]? with
         |none=>rw[hk]at k3;simp at k3
         |some ok=>rw[hk]at k3;exact⟨ok,by simpa using k3⟩
        obtain⟨ok,hok⟩:=this
        exact alBox_zero hok p.1)
       have hr':=hr;rw[hce]at hr';refine Vei q3 hcr hr' (λG' a' w' k1 k2 k3=>next G' w' a' k1 k3 ?_);rw[putE]at k2;rw[show s.out=Zo by rw[<-hout];exact g1,hce];refine⟨k2.wf,k2.size,k2.fr,λq hq=>k2.bx q ?_,k2.gn,k2.defers⟩;simp only[Option.getD_none,Yu,Ya]at hq ⊢;rcases hq with hq|hq
       ·rcases exs_al hp _ q hq with h|h|⟨e,e1,e2,e3,e4⟩
        ·exact .inl h
        ·exact .inr (.inl h)
        ·obtain⟨b,hb⟩:=Zy.1 e3;have:=(Vk7 hg (g3 e b hb).1).2 e1;rw[this]at e4;simp at e4
       ·exact .inr (.inr hq)
      ·simp at hdr
     ·rename_i hna
      split at hdr
      ·rename_i b hb;have hoi:(Vb5 st i).isSome=true:=by rw[hout,hb];rfl
       have hordE:∀ k,(Vb5 st k).isSome=R->(k<i->listed.getD k V=R)/\(i<k->listed.getD k V=V):=λk hk=>hg.eff k hoi hk
       have hordA:∀ k,(alAt P opl k).isSome=R->(k<i->listed.getD k V=R)/\(i<k->listed.getD k V=V):=by
        intro k hk;obtain⟨p,hp⟩:=Zy.1 hk;obtain⟨b',hb'⟩:=Zy.1 hoi;obtain⟨_,_,g3,_⟩:=Vpk hal hst hp;exact Vk7 hg (by rw[Vqt];exact(g3 i b' hb').1)
       have hce:bxD st (S.bx,S.gn) (λk=>listed.getD k V) opl.length=Vd9 st (S.bx,S.gn) (Vd3 st i):=by
        rw[bx_upto hg.un (λk hk hs=>(hordE k hs).2 hk) opl.length kv];exact Vg3 i (λk hk hs=>(hordE k hs).1 hk)
       have hxe:exs P opl st (λk=>listed.getD k V) opl.length=exs P opl st (λ_=>R) i:=by
        rw[exs_upto (i:=i) (λk hk hs=>?_) opl.length kv]
        ·exact Vka (λk hk hs=>by rcases hs with hs|hs;exact(hordE k hs).1 hk;exact(hordA k hs).1 hk)
        ·rcases Zl i k with hlt|hge
         ·rcases hs with hs|hs
          ·exact(hordE k hs).2 hlt
          ·exact(hordA k hs).2 hlt
         ·have:k=i:=kv;subst this;exact hg.un
       unfold runAt at hdr
       split at hdr
       ·rename_i cs' v bx' gn' hr1;simp only[Za,Zb]at hdr;obtain⟨rfl,e1,e2⟩:=hdr;rw[<-e2]at e1;simp only[Yi,Zb,J8]at e1;obtain⟨rfl,e1⟩:=e1;have q3:=Vn6 (fr':=frD opl st S.fr (λk=>listed.getD k V) opl.length) (λx hx=>local_ x hx _ _) (λha id hid=>Vm7 hao hg.un hg.up ha id hid _ (Yr _)) hr1;have hr':=hr;rw[hce,hxe]at hr';refine Vei q3 hcr hr' (λG' a' w' k1 k2 k3=>next G' w' a' k1 k3 ?_);rw[putE]at k2;rw[hb,exs_eff hoi (λk hk hs=>by rcases hs with hs|hs;exact(hordE k hs).2 hk;exact(hordA k hs).2 hk) _ hil,Q3];simp only[Xf];rw[<-e1];exact k2
       ·simp at hdr
      ·rename_i hb
       split at hdr
       ·rename_i hsq;simp only[Yv,Zm]at hsq;obtain⟨c',g1,g2⟩:=Vrn _ _ _ _ hdr hcr rfl;obtain⟨cs',q1,q2⟩:=Vrm g1 g2 cd hcd;rw[<-hbx]at q1;have q3:=Vn6 (fr':=frD opl st S.fr (λk=>listed.getD k V) opl.length) (λx hx=>local_ x hx _ _) (λha id hid=>Vm7 hao hg.un hg.up ha id hid _ (Yr _)) q1;rcases hsq with(hsq|hsq)|hsq
        ·have q4:=(runV_more (Vrh hal hst) hsq.1 hsq.2 q3).2.2;refine Vei q4 q2 hr (λG' a' w' k1 k2 k3=>next G' w' a' k1 k3 ?_);rw[putE]at k2;rw[pureN hna (by rw[hout,hb]),hb];exact k2
        ·have q4:=(runV_moreA (ex:=exs P opl st (λk=>listed.getD k V) opl.length) hsq q3).2.2;refine Vei q4 q2 hr (λG' a' w' k1 k2 k3=>next G' w' a' k1 k3 ?_);rw[putE]at k2;rw[pureN hna (by rw[hout,hb]),hb];exact k2
        ·rw[hb]at q3
         have q4:=runV_moreC (Vrh hal hst) hsq.1 (λp hp=>by
          obtain⟨k,hk,_,hka,_⟩:=Vjb hp;have:=Zz.1 hsq.2 k (Z9.2 hk);rw[hka]at this
          simpa using this) q3
         refine Vei q4 q2 hr (λG' a' w' k1 k2 k3=>next G' w' a' k1 k3 ?_);rw[putE]at k2;rw[pureN hna (by rw[hout,hb]),hb];exact k2
       ·simp at hdr
    unfold wpOp;rw[hget i,h2];simp only;cases hgd:o.guard with
    |none=>
     rw[Z1 (by simp[Zu,hgd])];simp only[hgd]at hdo;exact .inl (runs hdo hca)
    | some gw=>
     obtain⟨j,want⟩:=gw;simp only[hgd]at hdo;have slot:∀ sv,((Vem opl j).bind λt=>(frD opl st S.fr (λ_=>R) i)[t]?)=Y sv->∃ t u,(ops[j]?).bind (·.dst)=Y t/\a.tmps[t]? =Y u/\Xv G w sv u:=by
      intro sv hsv;cases hdj:Vem opl j with
      |none=>simp[hdj]at hsv
      | some t=>
       simp only[hdj,Ye]at hsv;rw[<-Vqc hg hil (by simp[looks,hgd,hdj])]at hsv;have hrf:=hr.fr t sv hsv;have hlt:t<a.tmps.size:=by
        rw[<-hr.size];rcases Zl t (frD opl st S.fr (λk=>listed.getD k V) opl.length).length with h'|h'
        ·exact h'
        ·simp only[Zv h']at hsv;simp at hsv
       refine⟨t,a.tmps[t],?_,by simp[hlt],?_⟩
       ·rw[hget j];exact hdj
       ·simpa[Zp,hlt]using hrf
     have Vhj:Xv G w Vav undef:=by
      simp only[Vav,Xv,Bm];exact⟨#[],rfl,by simp[Fr]⟩
     have skip:Zu o (yielded ops a.tmps)=V->s.v=Vav->s.out=Zo->alAt P opl i=Zo->(if Zu o (yielded ops a.tmps)=R then o.wp P a w (wpAny P .any ops (lift Q G0 w0) fuel (listed.setIfInBounds i R)) (lift Q G0 w0)\/o.asks P a w/\LetsOut (lift Q G0 w0)else wpAny P .any ops (lift Q G0 w0) fuel (listed.setIfInBounds i R) (a.put o.dst undef) w):=by
      intro hw hv ho hna;rw[hw];simp only[Zw,Xy];refine next G w _ (Step.refl G w) (λ_ _=>rfl) ?_
      rw[pureN hna (by rw[hout,ho]),ho];have:=hr.put o.dst Vhj;rw[<-hv,putE]at this;exact this
     cases hgo:guardOk ((Vem opl j).bind λt=>(frD opl st S.fr (λ_=>R) i)[t]?) want s.gd with
     |none=>simp[hgo]at hdo
     | some pr=>
      obtain⟨gcs,wn⟩:=pr;rw[hgo]at hdo;generalize hsv:((Vem opl j).bind λt=>(frD opl st S.fr (λ_=>R) i)[t]?)=osv at hgo slot;unfold guardOk at hgo
      split at hgo
      ·rename_i hgd2;simp only[Za,Zb]at hgo;obtain⟨rfl,rfl⟩:=hgo;obtain⟨t,u,e1,e2,e3⟩:=slot _ rfl;simp only[Xv,Bm]at e3;obtain⟨us,rfl,_⟩:=e3;simp only at hdo
       split at hdo
       ·rename_i hno hna;simp only[Za,Zb]at hdo;obtain⟨rfl,e4,e5⟩:=hdo;rw[<-e5]at e4;simp only[Yi,Zb,J8]at e4;exact skip (by simp only[Zu,hgd,yielded,e1,Ye,e2];rfl) e4 hno hna
       ·simp at hdo
      ·rename_i b d hgd2;simp only[Za,Zb]at hgo;obtain⟨rfl,rfl⟩:=hgo;obtain⟨t,u,e1,e2,e3⟩:=slot _ rfl;simp only[Xv,Bm]at e3;obtain⟨rfl,_⟩:=e3;cases hdw:(d==want)with
       | true=>
        simp only[hdw]at hdo;cases hdr:dRun3 P opl st (Vh9 opl []) (frD opl st S.fr (λ_=>R) i) (S.bx,S.gn) i o s with
        |none=>simp[hdr]at hdo
        |some cr=>
         obtain⟨cr,v1,v2⟩:=cr;simp only[hdr,Za,Zb]at hdo;obtain⟨rfl,e4,e5⟩:=hdo;rw[e4,e5]at hdr;obtain⟨hb,hcr⟩:=hca;subst hb;rw[Z1 (by simp only[Zu,hgd,yielded,e1,Ye,e2];simpa using hdw)];exact .inl (runs hdr hcr)
       |false=>
        simp only[hdw]at hdo
        split at hdo
        ·rename_i hno hna;simp only[Za,Zb]at hdo;obtain⟨rfl,e4,e5⟩:=hdo;rw[<-e5]at e4;simp only[Yi,Zb,J8]at e4;obtain⟨hb,_⟩:=hca;subst hb;exact skip (by simp only[Zu,hgd,yielded,e1,Ye,e2];simpa using hdw) e4 hno hna
        ·simp at hdo
      ·simp at hgo
 refine main ops.size (Xm ops.size V) G0 _ a0 ku ?_ ?_ ?_ hstep0 (λ_ _=>rfl)
 ·have:∀(L:E->Zs) m,left L m<=m:=by
   intro L m
   induction m with
   |zero=>simp[left]
   |succ m ih=>simp only[left];split <;>omega
  rw[hn];exact this _ _
 ·intro k ok hk hL;simp only[Zp,Iq]at hL
  split at hL <;>simp at hL
 ·have hf:(λk=>(Xm ops.size V).getD k V)=λ_=>false:=by
   funext k;simp only[Zp,Iq];split <;>rfl
  rw[hf];have e1:∀ m,frD opl st S.fr (λ_=>V) m=S.fr:=by
   intro m;induction m with
   |zero=>rfl
   |succ m ih=>simp[frD,ih]
  have e2:∀ m,bxD st (S.bx,S.gn) (λ_=>V) m=(S.bx,S.gn):=by
   intro m;induction m with
   |zero=>rfl
   |succ m ih=>simp[bxD,ih]
  have e3:∀ m,exs P opl st (λ_=>V) m=[]:=by
   intro m;induction m with
   |zero=>rfl
   |succ m ih=>simp[exs,ih]
  rw[e1,e2,e3];exact hr0'
def mkDS3(P:Zj)(ds:D (Zn Bj)):D Zt->D Oq->St->Zn (D DS×D Oq)
 |[],ors,_=>Y ([],ors)
 | o::rest,ors,S=>match(match o.guard with
   |none=>Y (ors,Zo,R)
   | some (j,want)=>match Vdq ds S j with
    |some (.av (.tup []))=>Y (ors,Zo,V)
    |some (.av (.val (.bool _)))=>match ors with
     | .o (.b d)::ors=>Y (ors,Y d,d==want)
     |_=>Zo
    |_=>Zo:Zn (D Oq×Zn Zs×Zs))with
  |none=>Zo
  |some (ors,gd,V)=>match mkDS3 P ds rest ors (S.put o.dst Vav)with
   |some (l,r)=>Y (⟨[],gd,Vav,Zo⟩::l,r)
   |none=>Zo
  | some (ors,gd,R)=>match oneV P o ors S with
   |none=>Zo
   | some (us,ors1,v,bx,gn)=>match(still o.op&&Vl2 us)||Voc o.op v||readC us with
    |true=>match mkDS3 P ds rest ors1 (S.put o.dst v)with
     |some (l,r)=>Y (⟨us,gd,v,Zo⟩::l,r)
     |none=>Zo
    |false=>match mkDS3 P ds rest ors1 ((⟨S.fr,bx,gn⟩:St).put o.dst v)with
     |some (l,r)=>Y (⟨us,gd,v,match Vd4 o.op with|true=>Zo|false=>Y (bx,gn)⟩::l,r)
     |none=>Zo
def Vg9(P:Zj)(X:Cf)(ors:D Oq):Zn DrawR:=match X with
 |some (_,_,.at (.region _ ops R) ks S)=>match mkDS3 P (ops.toList.map (·.dst)) ops.toList ors S with
  |some (st,rest)=>Y ⟨ops.toList,st,S.fr,(S.bx,S.gn),ks,rest⟩
  |none=>Zo
 |_=>Zo
def Vrl(P:Zj)(d:Zn DrawR):Zn (D Prop×D VB×D VB):=match d with
 |some d=>match(d.st.length==d.ops.length)&&Vlx d.ops d.st (Vh9 d.ops [])&&alSt P d.ops d.st (Vh9 d.ops []) d.b0 with
  |true=>Vrr P d.ops d.st (Vh9 d.ops []) d.f0 d.b0 d.ops.length
  |false=>Zo
 |none=>Zo
def drawX3(P:Zj)(d:Zn DrawR)(cs:D Prop):Cf:=match d with
 |some d=>goK P d.ks (Y (cs,d.rest,.fin .normal ⟨frD d.ops d.st d.f0 (λ_=>R) d.ops.length,exs P d.ops d.st (λ_=>R) d.ops.length++(bxD d.st d.b0 (λ_=>R) d.ops.length).1,(bxD d.st d.b0 (λ_=>R) d.ops.length).2⟩))
 |none=>Zo
def Vpd(P:Zj)(d:Zn DrawR):D Prop:=match Vrl P d with
 |some (cs,_)=>cs
 |none=>[False]
def drawL3(P:Zj)(d:Zn DrawR):D VB:=match Vrl P d with
 |some (_,x,_)=>x
 |none=>[]
def drawRt3(P:Zj)(d:Zn DrawR):Zn (D VB):=match Vrl P d with
 |some (_,_,y)=>Y y
 |none=>Zo
def DR3{P:Zj}{α:Type}{K:α->Yk->St->Prop}{M:α}{X:Cf}(oc:OC)(hm:P.follows .mixedOrders=R)(h:csOf (drawX3 P (Vg9 P X oc.o) (Vpd P (Vg9 P X oc.o)))=Y oc.c)(he:drawRt3 P (Vg9 P X oc.o)=Y (drawL3 P (Vg9 P X oc.o)))(hn:Nx P K M (drawX3 P (Vg9 P X oc.o) (Vpd P (Vg9 P X oc.o)))):Nx P K M X:=by
 obtain⟨hn⟩:=hn;cases hd:Vg9 P X oc.o with
 |none=>rw[hd]at h;simp[drawX3,csOf]at h
 | some d=>
  rw[hd]at h he hn;unfold Vg9 at hd
  split at hd
  ·rename_i c0 o0 i ops ks S
   split at hd
   ·rename_i st rest hmk;simp only[Za]at hd;subst hd;cases hC:Vrl P (Y ⟨ops.toList,st,S.fr,(S.bx,S.gn),ks,rest⟩)with
    |none=>unfold drawRt3 at he;rw[hC]at he;simp at he
    | some q=>
     obtain⟨cs,x,y⟩:=q;have exy:y=x:=by unfold drawRt3 drawL3 at he;rw[hC]at he;simpa using he
     have ecs:Vpd P (Y ⟨ops.toList,st,S.fr,(S.bx,S.gn),ks,rest⟩)=cs:=by unfold Vpd;rw[hC]
     rw[ecs]at h hn;unfold Vrl at hC;simp only at hC
     split at hC
     ·rename_i hst;simp only[Zm,I1]at hst;unfold drawX3 at h hn;simp only at h hn;cases hk:goK P ks (Y (cs,rest,.fin .normal ⟨frD ops.toList st S.fr (λ_=>R) ops.toList.length,exs P ops.toList st (λ_=>R) ops.toList.length++(bxD st (S.bx,S.gn) (λ_=>R) ops.toList.length).1,(bxD st (S.bx,S.gn) (λ_=>R) ops.toList.length).2⟩))with
      |none=>rw[hk]at h;simp[csOf]at h
      |some r=>
       obtain⟨c2,o2,out2⟩:=r;rw[hk]at h hn;unfold csOf at h
       split at h
       ·rename_i e2;simp only[Za,Zb]at e2 h;obtain⟨rfl,rfl,rfl⟩:=e2;subst h;obtain⟨q1,q2⟩:=Vau (K M) ks _ _ _ _ _ _ hk (oc.h Yf) hn;subst exy;exact⟨W_draw2 st hm hst.1.1 hst.1.2 hst.2 hC q1 q2⟩
       ·simp at h
     ·simp at hC
   ·simp at hd
  ·simp at hd
end
section
def QW(Q:Yk->St->Prop)(_:Unit):Yk->St->Prop:=λe S1=>∃ S2,Qv S1 S2/\Q e S2
def WN{P:Zj}{c:Jm}{Q:Yk->St->Prop}{S:St}(h:Nx P (QW Q) () (start c S)):W P c Q S:=W_end h.x
def LEAF{P:Zj}{Q:Yk->St->Prop}{X:Cf}(e:Yk){S2:St}(hX:Vp7 X=Y e)(hw:Qv (stOf X) S2)(hq:Q e S2):Nx P (QW Q) () X:=by
 unfold Vp7 at hX
 split at hX
 ·simp only[Za]at hX;subst hX;exact⟨⟨S2,hw,hq⟩⟩
 ·simp at hX
def wtr{S S' S'':St}(h:Qv S S')(k:Qv S' S''):Qv S S'':=λG w a hr=>k G w a (h G w a hr)
def ib(s:Zh)(i:J)(h:0<=i/\i<((Ze s:E):J)):0<=i/\i<((Ze s:E):J):=h
end
end Go.Eng
namespace Go.Proofs.YthbpjmogdonlkaaGreatDoor
open Go Go.Eng
def el{α:Type}[Yp α](l:D α)(i:E):α:=(l[i]?).getD default
def lenM{α:Type}(f:α->AV)(l:D α):Nat:=(l.map f).length
def Va6{α:Type}(f:α->AV)(l:D α):lenM f l=l.length:=by simp[lenM]
def Vlt{α:Type}[Yp α]{l:D α}{i:E}(h:i<l.length):l[i]? =Y (el l i):=by simp[el,h]
def Vbk{α:Type}[Yp α]{l:D α}{i:E}(h:i<l.length):el l i∈l:=Xa (Vlt h)
def elx{α:Type}[Yp α]{f:α->AV}{l:D AV}{xs:D α}{i:E}{y:AV}(e:l=xs.map f)(h:i<xs.length)(hy:f (el xs i)=y):0<=((i:E):J)/\l[i]? =Y y:=by
 subst e hy;exact⟨kv,by simp[Vlt h]⟩
def elxI{α:Type}[Yp α]{f:α->AV}{l:D AV}{xs:D α}{i:J}{y:AV}(e:l=xs.map f)(h0:0<=i)(h:i<(xs.length:J))(hy:f (el xs i.toNat)=y):0<=i/\l[i.toNat]? =Y y:=by
  subst e hy; exact ⟨h0, by have:i.toNat<xs.length:=by omega
                            simp[Vlt this]⟩
def w1{α:Type}(_:α):Nat:=1
def wStr(s:Zh):Nat:=s.size+1
def wl{α:Type}(w:α->E):D α->E
 |[]=>0
 |x::l=>w x+wl w l
def Vgr{α:Type}{w:α->E}:∀ {l:D α} {x:α},x∈l->w x<=wl w l
 |y::l,x,h=>by
  simp only[Ya]at h;rcases h with rfl|h
  ·simp[wl]
  ·have:=Vgr (w:=w) h;simp[wl];omega
def Vpx{α:Type}[Yp α]{w:α->E}{l:D α}{i:E}(h:i<l.length):w (el l i)<=wl w l:=Vgr (Vbk h)
def Vb9{α:Type}{w:α->E}(hw:∀ x,1<=w x):∀ l:D α,l.length<=wl w l
 |[]=>by simp
 |x::l=>by have:=Vb9 hw l;have:=hw x;simp[wl];omega
def quo(k:Q8)(a b:J):Int:=k.wrap (a.tdiv b)
def Vi3(xs:D Zh)(i:E)(h:i<xs.length):0<=((i:E):J)/\(xs.map Vak)[i]? =Y (Vak (el xs i)):=elx rfl h rfl
def el_vI(xs:D J)(i:E)(h:i<xs.length):0<=((i:E):J)/\(xs.map vI)[i]? =Y (vI (el xs i)):=elx rfl h rfl
def elI_vI(xs:D J)(i:J)(h0:0<=i)(h:i<(xs.length:J)):0<=i/\(xs.map vI)[i.toNat]? =Y (vI (el xs i.toNat)):=elxI rfl h0 h rfl
def uni_strAV(l:D Zh):Bk 1 (l.map Vak):=by intro y hy;simp only[Yg]at hy;obtain⟨x,_,rfl⟩:=hy;exact⟨rfl,rfl⟩
def Vn0(l:D J):Bk 1 (l.map vI):=by intro y hy;simp only[Yg]at hy;obtain⟨x,_,rfl⟩:=hy;exact⟨rfl,rfl⟩
def Veh{s:Zh}(h:eqs s ⟨#[]⟩=V):0<s.size:=by
 obtain⟨⟨l⟩⟩:=s;cases l with
 |nil=>exact Jt h gj
 |cons x l=>show 0<(x::l).length;simp
def size_neqs_t{s:Zh}(h:(!eqs s ⟨#[]⟩)=R):0<s.size:=Veh (by simpa using h)
def Vcm(s:Zh)(i:E):Yw s i<256:=by
 unfold Yw;exact UInt8.toNat_lt _
def Vbm(s:Zh)(i:E):IntKind.i64.wrap ((Yw s i:E):J)=((Yw s i:E):J):=wrap_i64 kv (by have:=Vcm s i;omega)
def ap1{α:Type}(f:α->AV)(xs:D α)(y:α):xs.map f++[f y]=(xs++[y]).map f:=ku
def Ves(s:Zh):1<=wStr s:=by simp[wStr]
structure DPair where
 fKey:Zh
 fValue:Zh
instance:Yp DPair:=⟨⟨⟨#[]⟩,⟨#[]⟩⟩⟩
def Vaz(x:DPair):AV:=.agg [(vS x.fKey),(vS x.fValue)]
def Vhi(x:DPair):Nat:=1+wStr x.fKey+wStr x.fValue
def aPair_eq(x:DPair):Vaz x=.agg [(vS x.fKey),(vS x.fValue)]:=rfl
def wPair_eq(x:DPair):Vhi x=1+wStr x.fKey+wStr x.fValue:=rfl
def Vkb(xs:D DPair)(i:E)(h:i<xs.length):0<=((i:E):J)/\(xs.map Vaz)[i]? =Y (Vaz (el xs i)):=elx rfl h rfl
def uni_aPair(l:D DPair):Bk 2 (l.map Vaz):=by intro y hy;simp only[Yg]at hy;obtain⟨x,_,rfl⟩:=hy;rw[aPair_eq];exact⟨rfl,rfl⟩
def Vfp(x:DPair):1<=Vhi x:=by rw[wPair_eq];omega
structure DAttr where
 fID:Zh
 fClasses:D Zh
 fPairs:D DPair
instance:Yp DAttr:=⟨⟨⟨#[]⟩,[],[]⟩⟩
def Vfq(x:DAttr):Nat:=1+wStr x.fID+(wl wStr) x.fClasses+(wl Vhi) x.fPairs
def Vcv(x:DAttr):Vfq x=1+wStr x.fID+(wl wStr) x.fClasses+(wl Vhi) x.fPairs:=rfl
def Vph(x:DAttr):AV:=.agg [(vS x.fID),(.sl ((x.fClasses).map Vak)),(.sl ((x.fPairs).map Vaz))]
structure DCited where
 fKey:Zh
 fPrefix:Zh
 fSuffix:Zh
 fBare:Zs
instance:Yp DCited:=⟨⟨⟨#[]⟩,⟨#[]⟩,⟨#[]⟩,V⟩⟩
def Vap(x:DCited):AV:=.agg [(vS x.fKey),(vS x.fPrefix),(vS x.fSuffix),(vB x.fBare)]
def Vc8(x:DCited):Nat:=1+wStr x.fKey+wStr x.fPrefix+wStr x.fSuffix+w1 x.fBare
def aCited_eq(x:DCited):Vap x=.agg [(vS x.fKey),(vS x.fPrefix),(vS x.fSuffix),(vB x.fBare)]:=rfl
def Vq0(x:DCited):Vc8 x=1+wStr x.fKey+wStr x.fPrefix+wStr x.fSuffix+w1 x.fBare:=rfl
def cCited(x:DCited):AV:=.agg [(vS x.fKey),(vS x.fPrefix),(vS x.fSuffix),(vB x.fBare)]
def Vlu(xs:D DCited)(i:E)(h:i<xs.length):0<=((i:E):J)/\(xs.map Vap)[i]? =Y (Vap (el xs i)):=elx rfl h rfl
def uni_aCited(l:D DCited):Bk 4 (l.map Vap):=by intro y hy;simp only[Yg]at hy;obtain⟨x,_,rfl⟩:=hy;rw[aCited_eq];exact⟨rfl,rfl⟩
def Vgj(x:DCited):1<=Vc8 x:=by rw[Vq0];omega
structure DInline where
 fKind:J
 fText:Zh
 fDest:Zh
 fTitle:Zh
 fAttr:DAttr
 fArgs:D Zh
 fCites:D DCited
 fKids:D DInline
instance:Yp DInline:=⟨⟨0,⟨#[]⟩,⟨#[]⟩,⟨#[]⟩,⟨⟨#[]⟩,[],[]⟩,[],[],[]⟩⟩
mutual
def Va2:DInline->AV
 |⟨y0,y1,y2,y3,y4,y5,y6,y7⟩=>.agg [(vI y0),(vS y1),(vS y2),(vS y3),(vS ((y4).fID)),(.sl (((y4).fClasses).map Vak)),(.sl (((y4).fPairs).map Vaz)),(.sl ((y5).map Vak)),(.sl ((y6).map Vap)),(.sl (Vkc y7))]
def Vkc:D DInline->D AV
 |[]=>[]
 |x::l=>Va2 x::Vkc l
end
mutual
def Va4:DInline->E
 |⟨y0,y1,y2,y3,y4,y5,y6,y7⟩=>1+w1 y0+wStr y1+wStr y2+wStr y3+Vfq y4+(wl wStr) y5+(wl Vc8) y6+Vk2 y7
def Vk2:D DInline->E
 |[]=>0
 |x::l=>Va4 x+Vk2 l
end
def Vjs:∀ l,Vkc l=l.map Va2
 |[]=>rfl
 |x::l=>by rw[Vkc,Vjs l];rfl
def Vkg:∀ l,Vk2 l=wl Va4 l
 |[]=>rfl
 |x::l=>by rw[Vk2,Vkg l];rfl
def Vbw(x:DInline):Va2 x=.agg [(vI x.fKind),(vS x.fText),(vS x.fDest),(vS x.fTitle),(vS ((x.fAttr).fID)),(.sl (((x.fAttr).fClasses).map Vak)),(.sl (((x.fAttr).fPairs).map Vaz)),(.sl ((x.fArgs).map Vak)),(.sl ((x.fCites).map Vap)),(.sl ((x.fKids).map Va2))]:=by cases x;rw[Va2,Vjs]
def Vao(x:DInline):Va4 x=1+w1 x.fKind+wStr x.fText+wStr x.fDest+wStr x.fTitle+Vfq x.fAttr+(wl wStr) x.fArgs+(wl Vc8) x.fCites+(wl Va4) x.fKids:=by cases x;rw[Va4,Vkg]
def Vaq(x:DInline):AV:=.agg [(vI x.fKind),(vS x.fText),(vS x.fDest),(vS x.fTitle),(vS ((x.fAttr).fID)),(.sl (((x.fAttr).fClasses).map Vak)),(.sl (((x.fAttr).fPairs).map Vaz)),(.sl ((x.fArgs).map Vak)),(.sl ((x.fCites).map Vap)),(.sl ((x.fKids).map Va2))]
def Vf1(x:DInline):D SV:=[(jI x.fKind),(jS x.fText),(jS x.fDest),(jS x.fTitle),(jS ((x.fAttr).fID)),(jL (((x.fAttr).fClasses).map Vak)),(jL (((x.fAttr).fPairs).map Vaz)),(jL ((x.fArgs).map Vak)),(jL ((x.fCites).map Vap)),(jL ((x.fKids).map Va2))]
def Vb0(xs:D DInline)(i:E)(h:i<xs.length):0<=((i:E):J)/\(xs.map Va2)[i]? =Y (Vaq (el xs i)):=elx rfl h (Vbw _)
def elI_aInline(xs:D DInline)(i:J)(h0:0<=i)(h:i<(xs.length:J)):0<=i/\(xs.map Va2)[i.toNat]? =Y (Vaq (el xs i.toNat)):=elxI rfl h0 h (Vbw _)
def Vki(l:D DInline):Bk 10 (l.map Va2):=by intro y hy;simp only[Yg]at hy;obtain⟨x,_,rfl⟩:=hy;rw[Vbw];exact⟨rfl,rfl⟩
def ap1_aInline(xs:D DInline)(y:DInline):xs.map Va2++[Vaq y]=(xs++[y]).map Va2:=by simp[Vbw y,Vaq]
def Vaw(x:DInline):1<=Va4 x:=by rw[Vao];omega
structure DBlock where
 fKind:J
 fLevel:J
 fInfo:Zh
 fText:Zh
 fDest:Zh
 fTitle:Zh
 fAttr:DAttr
 fLine:D DInline
 fKids:D DBlock
instance:Yp DBlock:=⟨⟨0,0,⟨#[]⟩,⟨#[]⟩,⟨#[]⟩,⟨#[]⟩,⟨⟨#[]⟩,[],[]⟩,[],[]⟩⟩
structure DDoc where
 fMeta:D DPair
 fBlocks:D DBlock
instance:Yp DDoc:=⟨⟨[],[]⟩⟩
structure DPiece where
 fKind:J
 fInline:DInline
 fChar:Zh
 fN:J
 fOpen:Zs
 fClose:Zs
 fImage:Zs
 fAt:J
 fTo:J
instance:Yp DPiece:=⟨⟨0,⟨0,⟨#[]⟩,⟨#[]⟩,⟨#[]⟩,⟨⟨#[]⟩,[],[]⟩,[],[],[]⟩,⟨#[]⟩,0,V,V,V,0,0⟩⟩
def Vb7(x:DPiece):AV:=.agg [(vI x.fKind),(vI ((x.fInline).fKind)),(vS ((x.fInline).fText)),(vS ((x.fInline).fDest)),(vS ((x.fInline).fTitle)),(vS (((x.fInline).fAttr).fID)),(.sl ((((x.fInline).fAttr).fClasses).map Vak)),(.sl ((((x.fInline).fAttr).fPairs).map Vaz)),(.sl (((x.fInline).fArgs).map Vak)),(.sl (((x.fInline).fCites).map Vap)),(.sl (((x.fInline).fKids).map Va2)),(vS x.fChar),(vI x.fN),(vB x.fOpen),(vB x.fClose),(vB x.fImage),(vI x.fAt),(vI x.fTo)]
def Vs5(x:DPiece):Vb7 x=.agg [(vI x.fKind),(vI ((x.fInline).fKind)),(vS ((x.fInline).fText)),(vS ((x.fInline).fDest)),(vS ((x.fInline).fTitle)),(vS (((x.fInline).fAttr).fID)),(.sl ((((x.fInline).fAttr).fClasses).map Vak)),(.sl ((((x.fInline).fAttr).fPairs).map Vaz)),(.sl (((x.fInline).fArgs).map Vak)),(.sl (((x.fInline).fCites).map Vap)),(.sl (((x.fInline).fKids).map Va2)),(vS x.fChar),(vI x.fN),(vB x.fOpen),(vB x.fClose),(vB x.fImage),(vI x.fAt),(vI x.fTo)]:=rfl
def Vby(x:DPiece):AV:=.agg [(vI x.fKind),(vI ((x.fInline).fKind)),(vS ((x.fInline).fText)),(vS ((x.fInline).fDest)),(vS ((x.fInline).fTitle)),(vS (((x.fInline).fAttr).fID)),(.sl ((((x.fInline).fAttr).fClasses).map Vak)),(.sl ((((x.fInline).fAttr).fPairs).map Vaz)),(.sl (((x.fInline).fArgs).map Vak)),(.sl (((x.fInline).fCites).map Vap)),(.sl (((x.fInline).fKids).map Va2)),(vS x.fChar),(vI x.fN),(vB x.fOpen),(vB x.fClose),(vB x.fImage),(vI x.fAt),(vI x.fTo)]
def sPiece(x:DPiece):D SV:=[(jI x.fKind),(jI ((x.fInline).fKind)),(jS ((x.fInline).fText)),(jS ((x.fInline).fDest)),(jS ((x.fInline).fTitle)),(jS (((x.fInline).fAttr).fID)),(jL ((((x.fInline).fAttr).fClasses).map Vak)),(jL ((((x.fInline).fAttr).fPairs).map Vaz)),(jL (((x.fInline).fArgs).map Vak)),(jL (((x.fInline).fCites).map Vap)),(jL (((x.fInline).fKids).map Va2)),(jS x.fChar),(jI x.fN),(jB x.fOpen),(jB x.fClose),(jB x.fImage),(jI x.fAt),(jI x.fTo)]
def el_aPiece(xs:D DPiece)(i:E)(h:i<xs.length):0<=((i:E):J)/\(xs.map Vb7)[i]? =Y (Vb7 (el xs i)):=elx rfl h rfl
def Vje(xs:D DPiece)(i:J)(h0:0<=i)(h:i<(xs.length:J)):0<=i/\(xs.map Vb7)[i.toNat]? =Y (Vb7 (el xs i.toNat)):=elxI rfl h0 h rfl
structure DElem where
 fkind:J
 fpiece:DPiece
 fimage:Zs
 freferences:J
instance:Yp DElem:=⟨⟨0,⟨0,⟨0,⟨#[]⟩,⟨#[]⟩,⟨#[]⟩,⟨⟨#[]⟩,[],[]⟩,[],[],[]⟩,⟨#[]⟩,0,V,V,V,0,0⟩,V,0⟩⟩
def Vb6(x:DElem):AV:=.agg [(vI x.fkind),(vI ((x.fpiece).fKind)),(vI (((x.fpiece).fInline).fKind)),(vS (((x.fpiece).fInline).fText)),(vS (((x.fpiece).fInline).fDest)),(vS (((x.fpiece).fInline).fTitle)),(vS ((((x.fpiece).fInline).fAttr).fID)),(.sl (((((x.fpiece).fInline).fAttr).fClasses).map Vak)),(.sl (((((x.fpiece).fInline).fAttr).fPairs).map Vaz)),(.sl ((((x.fpiece).fInline).fArgs).map Vak)),(.sl ((((x.fpiece).fInline).fCites).map Vap)),(.sl ((((x.fpiece).fInline).fKids).map Va2)),(vS ((x.fpiece).fChar)),(vI ((x.fpiece).fN)),(vB ((x.fpiece).fOpen)),(vB ((x.fpiece).fClose)),(vB ((x.fpiece).fImage)),(vI ((x.fpiece).fAt)),(vI ((x.fpiece).fTo)),(vB x.fimage),(vI x.freferences)]
def Vrt(x:DElem):AV:=.agg [(vI x.fkind),(vI ((x.fpiece).fKind)),(vI (((x.fpiece).fInline).fKind)),(vS (((x.fpiece).fInline).fText)),(vS (((x.fpiece).fInline).fDest)),(vS (((x.fpiece).fInline).fTitle)),(vS ((((x.fpiece).fInline).fAttr).fID)),(.sl (((((x.fpiece).fInline).fAttr).fClasses).map Vak)),(.sl (((((x.fpiece).fInline).fAttr).fPairs).map Vaz)),(.sl ((((x.fpiece).fInline).fArgs).map Vak)),(.sl ((((x.fpiece).fInline).fCites).map Vap)),(.sl ((((x.fpiece).fInline).fKids).map Va2)),(vS ((x.fpiece).fChar)),(vI ((x.fpiece).fN)),(vB ((x.fpiece).fOpen)),(vB ((x.fpiece).fClose)),(vB ((x.fpiece).fImage)),(vI ((x.fpiece).fAt)),(vI ((x.fpiece).fTo)),(vB x.fimage),(vI x.freferences)]
def Vi4(xs:D DElem)(i:J)(h0:0<=i)(h:i<(xs.length:J)):0<=i/\(xs.map Vb6)[i.toNat]? =Y (Vb6 (el xs i.toNat)):=elxI rfl h0 h rfl
structure DEm where
 fin:DInline
 frun:Zs
 fpiece:J
 fleft:J
 fbefore:J
 fnext:J
instance:Yp DEm:=⟨⟨⟨0,⟨#[]⟩,⟨#[]⟩,⟨#[]⟩,⟨⟨#[]⟩,[],[]⟩,[],[],[]⟩,V,0,0,0,0⟩⟩
def aEm(x:DEm):AV:=.agg [(vI ((x.fin).fKind)),(vS ((x.fin).fText)),(vS ((x.fin).fDest)),(vS ((x.fin).fTitle)),(vS (((x.fin).fAttr).fID)),(.sl ((((x.fin).fAttr).fClasses).map Vak)),(.sl ((((x.fin).fAttr).fPairs).map Vaz)),(.sl (((x.fin).fArgs).map Vak)),(.sl (((x.fin).fCites).map Vap)),(.sl (((x.fin).fKids).map Va2)),(vB x.frun),(vI x.fpiece),(vI x.fleft),(vI x.fbefore),(vI x.fnext)]
def aEm_eq(x:DEm):aEm x=.agg [(vI ((x.fin).fKind)),(vS ((x.fin).fText)),(vS ((x.fin).fDest)),(vS ((x.fin).fTitle)),(vS (((x.fin).fAttr).fID)),(.sl ((((x.fin).fAttr).fClasses).map Vak)),(.sl ((((x.fin).fAttr).fPairs).map Vaz)),(.sl (((x.fin).fArgs).map Vak)),(.sl (((x.fin).fCites).map Vap)),(.sl (((x.fin).fKids).map Va2)),(vB x.frun),(vI x.fpiece),(vI x.fleft),(vI x.fbefore),(vI x.fnext)]:=rfl
def cEm(x:DEm):AV:=.agg [(vI ((x.fin).fKind)),(vS ((x.fin).fText)),(vS ((x.fin).fDest)),(vS ((x.fin).fTitle)),(vS (((x.fin).fAttr).fID)),(.sl ((((x.fin).fAttr).fClasses).map Vak)),(.sl ((((x.fin).fAttr).fPairs).map Vaz)),(.sl (((x.fin).fArgs).map Vak)),(.sl (((x.fin).fCites).map Vap)),(.sl (((x.fin).fKids).map Va2)),(vB x.frun),(vI x.fpiece),(vI x.fleft),(vI x.fbefore),(vI x.fnext)]
def sEm(x:DEm):D SV:=[(jI ((x.fin).fKind)),(jS ((x.fin).fText)),(jS ((x.fin).fDest)),(jS ((x.fin).fTitle)),(jS (((x.fin).fAttr).fID)),(jL ((((x.fin).fAttr).fClasses).map Vak)),(jL ((((x.fin).fAttr).fPairs).map Vaz)),(jL (((x.fin).fArgs).map Vak)),(jL (((x.fin).fCites).map Vap)),(jL (((x.fin).fKids).map Va2)),(jB x.frun),(jI x.fpiece),(jI x.fleft),(jI x.fbefore),(jI x.fnext)]
def Vck(xs:D DEm)(i:J)(h0:0<=i)(h:i<(xs.length:J)):0<=i/\(xs.map aEm)[i.toNat]? =Y (aEm (el xs i.toNat)):=elxI rfl h0 h rfl
structure DPoint where
 fC:J
 fN:J
instance:Yp DPoint:=⟨⟨0,0⟩⟩
def Vdt(x:DPoint):AV:=.agg [(vI x.fC),(vI x.fN)]
def Vi9(x:DPoint):AV:=.agg [(vI x.fC),(vI x.fN)]
def el_aPoint(xs:D DPoint)(i:E)(h:i<xs.length):0<=((i:E):J)/\(xs.map Vdt)[i]? =Y (Vdt (el xs i)):=elx rfl h rfl
def Vai(s:Zh)(i j:E):(Zi s i j).size=min j s.size-i:=ku
def letA(b:J):Bool:=Zg (Zg (O ((b:J)>=97)) (O ((b:J)<=122)) V) R (Zg (O ((b:J)>=65)) (O ((b:J)<=90)) V)
def letA_to(b:J):Va1 Zq 226 [(.av (.val (.int .u8 b)))] [] [] (jB (letA b)) [] []:=by
 refine BEG (λr:Zs=>(jB r)) (letA b) Tryz.func226 kx ?_;refine UF (letA.eq_1 ..) ?_;refine GO (j8 (O ((b:J)>=97)) j6 z<|m7 (Zg (O ((b:J)>=97)) (O ((b:J)<=122)) V) z (t7 (O ((b:J)>=65)) j6 z z) m5) kx ?_;exact EN kx
def inN(b:J):Bool:=Zg (Zg ((b:J)==45) ((b:J)==45) (Zg ((b:J)==95) ((b:J)==95) (Zg ((b:J)==46) ((b:J)==46) ((b:J)==58)))) R (Zg (letA b) R (Zg (O ((b:J)>=48)) (O ((b:J)<=57)) V))
def inN_to(b:J):Va1 Zq 270 [(.av (.val (.int .u8 b)))] [] [] (jB (inN b)) [] []:=by
 refine BEG (λr:Zs=>(jB r)) (inN b) Tryz.func270 kx ?_;refine UF (inN.eq_1 ..) ?_;refine GO (tn 4<|ks ((b:J)==45) [4] z (tn 2<|ks ((b:J)==95) [4] z (tn 2<|ks ((b:J)==46) [4] z j6 z) z) z) kx ?_;refine CS (λh1=>?_) (λh1=>?_)
 ·refine GO (kb h1 m5) kx ?_;exact EN kx
 ·refine GO (kb h1<|n7 (letA_to b)<|m7 (letA b) z (t7 (O ((b:J)>=48)) j6 z z) m5) kx ?_;exact EN kx
def wrdA_L0(s:Zh)(i:J):E->J->J
 |0,_=>default
 |n0+1,v1=>Zg (Zg (O ((v1:J)<((Ze s:E):J))) (inN ((Yw s (Zc v1):E):J)) V) (wrdA_L0 s i n0 (v1+1)) v1
def wrdA(s:Zh)(i:J):Int:=wrdA_L0 s i ((s.size-Zc i)+1) i
def wrdA_to(s:Zh)(i:J)(hs:s.size<=1073741824)(h0:0<=i)(h1:i<=1073741833):Va1 Zq 227 [(jS s),(jI i)] [] [] (jI (wrdA s i)) [] []:=by
 refine BEG (λr:J=>(jI r)) (wrdA s i) Tryz.func227 kx ?_;refine UF (wrdA.eq_1 ..) ?_;refine GO m5 kx ?_;refine LP (λN M S=>∃ v1:J,(0<=v1)/\(v1<=1073741833)/\(s.size-Zc v1<N)/\M=wrdA_L0 s i N v1/\S=(sx 18 [(0,(jS s)),(1,(jI v1))] [] [])) kx ⟨_,by first|omega|assumption|(simp only[Va6];omega)|(simp;done)|(simp;omega),by first|omega|assumption|(simp only[Va6];omega)|(simp;done)|(simp;omega),kv,rfl,rfl⟩ (WK kx) ?_;rintro n0 M S ⟨v1,hv,hb,hF0,rfl,rfl⟩;obtain⟨n0,rfl⟩:∃ k,n0=k+1:=⟨n0-1,kv⟩
 refine UF (wrdA_L0.eq_2 ..) ?_;refine GO (jq (O ((v1:J)<((Ze s:E):J))) (m9 (λh=>by have j0:=h.2;have j0p:=Zd j0;exact(ib s v1 kv))<|hc (λh=>by have j0:=h.2;have j0p:=Zd j0;exact(inN_to ((Yw s (Zc v1):E):J))) z) z z) kx ?_;refine CS (λh1=>?_) (λh1=>?_)
 ·obtain⟨h1a,h1o⟩:=Va9 h1;have h1ap:=Zd h1a;refine GO (kb h1<|m6 (wrE (v1+1) (v1+1) kv) m5) kx ?_;exact AG ⟨_,by first|omega|assumption|(simp only[Va6];omega)|(simp;done)|(simp;omega),by first|omega|assumption|(simp only[Va6];omega)|(simp;done)|(simp;omega),kv,rfl,rfl⟩ (WK kx) kx (Yo _)
 ·refine GO (kb h1 z) kx ?_;refine OUT j6 kx ?_;exact EN kx
def namA(s:Zh):Bool:=Zg (Zg (Zg (((Ze s:E):J)==0) R (O (((Ze s:E):J)>60))) R (!letA ((Yw s 0:E):J))) V ((wrdA s 0:J)==((Ze s:E):J))
def Vdl(s:Zh)(hs:s.size<=1073741824):Va1 Zq 174 [(jS s)] [] [] (jB (namA s)) [] []:=by
 refine BEG (λr:Zs=>(jB r)) (namA s) Tryz.func174 kx ?_;refine UF (namA.eq_1 ..) ?_;refine GO (jq (((Ze s:E):J)==0) z i6<|m7 (Zg (((Ze s:E):J)==0) R (O (((Ze s:E):J)>60))) z (tn 1<|hp (λh=>by have j0:=h.2;obtain⟨j0a,j0o⟩:=Va8 j0;have j0ap:=Q0 j0a;have j0op:=Zk j0o;exact(ib s 0 kv))<|hc (λh=>by have j0:=h.2;obtain⟨j0a,j0o⟩:=Va8 j0;have j0ap:=Q0 j0a;have j0op:=Zk j0o;exact(letA_to ((Yw s 0:E):J))) m5) z) kx ?_;refine CS (λh1=>?_) (λh1=>?_)
 ·refine GO (kb h1 m5) kx ?_;exact EN kx
 ·obtain⟨h1a,h1o⟩:=Va8 h1;obtain⟨h1aa,h1ao⟩:=Va8 h1a;have h1aap:=Q0 h1aa;have h1aop:=Zk h1ao;have h1on:=notf h1o;refine GO (kb h1<|n7 (wrdA_to s 0 ky ky ky) i7) kx ?_;exact EN kx
def spcC(c:J):Bool:=Zg ((c:J)==32) R ((c:J)==10)
def Vog(c:J):Va1 Zq 236 [(jI c)] [] [] (jB (spcC c)) [] []:=by
 refine BEG (λr:Zs=>(jB r)) (spcC c) Tryz.func236 kx ?_;refine UF (spcC.eq_1 ..) ?_;refine GO (j8 ((c:J)==32) z j6 m5) kx ?_;exact EN kx
def digC(c:J):Bool:=Zg (O ((c:J)>=48)) (O ((c:J)<=57)) V
def Vlw(c:J):Va1 Zq 183 [(jI c)] [] [] (jB (digC c)) [] []:=by
 refine BEG (λr:Zs=>(jB r)) (digC c) Tryz.func183 kx ?_;refine UF (digC.eq_1 ..) ?_;refine GO (j8 (O ((c:J)>=48)) j6 z m5) kx ?_;exact EN kx
def pncC(c:J):Bool:=Zg (Zg (Zg (O ((c:J)>=33)) (O ((c:J)<=47)) V) (Zg (O ((c:J)>=33)) (O ((c:J)<=47)) V) (Zg (Zg (O ((c:J)>=58)) (O ((c:J)<=64)) V) (Zg (O ((c:J)>=58)) (O ((c:J)<=64)) V) (Zg (Zg (O ((c:J)>=91)) (O ((c:J)<=96)) V) (Zg (O ((c:J)>=91)) (O ((c:J)<=96)) V) (Zg (O ((c:J)>=123)) (O ((c:J)<=126)) V)))) R (Zg (Zg (Zg (O ((c:J)>=161)) (O ((c:J)<=169)) V) (Zg (O ((c:J)>=161)) (O ((c:J)<=169)) V) (Zg (Zg (O ((c:J)>=171)) (O ((c:J)<=180)) V) (Zg (O ((c:J)>=171)) (O ((c:J)<=180)) V) (Zg (Zg (O ((c:J)>=182)) (O ((c:J)<=185)) V) (Zg (O ((c:J)>=182)) (O ((c:J)<=185)) V) (Zg (O ((c:J)>=187)) (O ((c:J)<=191)) V)))) R (Zg (Zg ((c:J)==215) ((c:J)==215) ((c:J)==247)) R (Zg (Zg (Zg (O ((c:J)>=8208)) (O ((c:J)<=8231)) V) (Zg (O ((c:J)>=8208)) (O ((c:J)<=8231)) V) (Zg (Zg (O ((c:J)>=8240)) (O ((c:J)<=8286)) V) (Zg (O ((c:J)>=8240)) (O ((c:J)<=8286)) V) (Zg (O ((c:J)>=12289)) (O ((c:J)<=12291)) V))) R V)))
def Vfz(c:J):Va1 Zq 181 [(jI c)] [] [] (jB (pncC c)) [] []:=by
 refine BEG (λr:Zs=>(jB r)) (pncC c) Tryz.func181 kx ?_;refine UF (pncC.eq_1 ..) ?_;refine GO (j8 (O ((c:J)>=33)) j6 z<|fq (Zg (O ((c:J)>=33)) (O ((c:J)<=47)) V) [3] z (t7 (O ((c:J)>=58)) j6 z<|fq (Zg (O ((c:J)>=58)) (O ((c:J)<=64)) V) [3] z (t7 (O ((c:J)>=91)) j6 z<|fq (Zg (O ((c:J)>=91)) (O ((c:J)<=96)) V) [3] z (t7 (O ((c:J)>=123)) j6 z m5) z) z) z) kx ?_;refine CS (λh1=>?_) (λh1=>?_)
 ·refine GO (kb h1 m5) kx ?_;exact EN kx
 ·refine GO (kb h1<|t7 (O ((c:J)>=161)) j6 z<|fq (Zg (O ((c:J)>=161)) (O ((c:J)<=169)) V) [28] z (t7 (O ((c:J)>=171)) j6 z<|fq (Zg (O ((c:J)>=171)) (O ((c:J)<=180)) V) [28] z (t7 (O ((c:J)>=182)) j6 z<|fq (Zg (O ((c:J)>=182)) (O ((c:J)<=185)) V) [28] z (t7 (O ((c:J)>=187)) j6 z m5) z) z) z) kx ?_;refine CS (λh2=>?_) (λh2=>?_)
  ·refine GO (kb h2 m5) kx ?_;exact EN kx
  ·refine GO (kb h2<|tn 3<|ks ((c:J)==215) [53] z i6 z) kx ?_;refine CS (λh3=>?_) (λh3=>?_)
   ·refine GO (kb h3 m5) kx ?_;exact EN kx
   ·refine GO (kb h3<|t7 (O ((c:J)>=8208)) j6 z<|fq (Zg (O ((c:J)>=8208)) (O ((c:J)<=8231)) V) [58] z (t7 (O ((c:J)>=8240)) j6 z<|fq (Zg (O ((c:J)>=8240)) (O ((c:J)<=8286)) V) [58] z (t7 (O ((c:J)>=12289)) j6 z m5) z) z) kx ?_;refine CS (λh4=>?_) (λh4=>?_)
    ·refine GO (kb h4 m5) kx ?_;exact EN kx
    ·refine GO (kb h4 m5) kx ?_;exact EN kx
def letL(c:J):Bool:=Zg (Zg (Zg (O ((c:J)>=65)) (O ((c:J)<=90)) V) (Zg (O ((c:J)>=65)) (O ((c:J)<=90)) V) (Zg (Zg (O ((c:J)>=97)) (O ((c:J)<=122)) V) (Zg (O ((c:J)>=97)) (O ((c:J)<=122)) V) (Zg ((c:J)==170) ((c:J)==170) (Zg ((c:J)==181) ((c:J)==181) ((c:J)==186))))) R (Zg (Zg (Zg (O ((c:J)>=192)) (O ((c:J)<=214)) V) (Zg (O ((c:J)>=192)) (O ((c:J)<=214)) V) (Zg (Zg (O ((c:J)>=216)) (O ((c:J)<=246)) V) (Zg (O ((c:J)>=216)) (O ((c:J)<=246)) V) (Zg (O ((c:J)>=248)) (O ((c:J)<=687)) V))) R (Zg (Zg (Zg (O ((c:J)>=880)) (O ((c:J)<=1327)) V) (Zg (O ((c:J)>=880)) (O ((c:J)<=1327)) V) (Zg (Zg (O ((c:J)>=4256)) (O ((c:J)<=4351)) V) (Zg (O ((c:J)>=4256)) (O ((c:J)<=4351)) V) (Zg (O ((c:J)>=7680)) (O ((c:J)<=8191)) V))) R (Zg (Zg (Zg (O ((c:J)>=12353)) (O ((c:J)<=12538)) V) (Zg (O ((c:J)>=12353)) (O ((c:J)<=12538)) V) (Zg (Zg (O ((c:J)>=19968)) (O ((c:J)<=40959)) V) (Zg (O ((c:J)>=19968)) (O ((c:J)<=40959)) V) (Zg (O ((c:J)>=44032)) (O ((c:J)<=55203)) V))) R V)))
def letL_to(c:J):Va1 Zq 225 [(jI c)] [] [] (jB (letL c)) [] []:=by
 refine BEG (λr:Zs=>(jB r)) (letL c) Tryz.func225 kx ?_;refine UF (letL.eq_1 ..) ?_;refine GO (j8 (O ((c:J)>=65)) j6 z<|fq (Zg (O ((c:J)>=65)) (O ((c:J)<=90)) V) [3] z (t7 (O ((c:J)>=97)) j6 z<|fq (Zg (O ((c:J)>=97)) (O ((c:J)<=122)) V) [3] z (tn 3<|ks ((c:J)==170) [3] z (tn 3<|ks ((c:J)==181) [3] z i6 z) z) z) z) kx ?_;refine CS (λh1=>?_) (λh1=>?_)
 ·refine GO (kb h1 m5) kx ?_;exact EN kx
 ·refine GO (kb h1<|t7 (O ((c:J)>=192)) j6 z<|fq (Zg (O ((c:J)>=192)) (O ((c:J)<=214)) V) [22] z (t7 (O ((c:J)>=216)) j6 z<|fq (Zg (O ((c:J)>=216)) (O ((c:J)<=246)) V) [22] z (t7 (O ((c:J)>=248)) j6 z m5) z) z) kx ?_;refine CS (λh2=>?_) (λh2=>?_)
  ·refine GO (kb h2 m5) kx ?_;exact EN kx
  ·refine GO (kb h2<|t7 (O ((c:J)>=880)) j6 z<|fq (Zg (O ((c:J)>=880)) (O ((c:J)<=1327)) V) [41] z (t7 (O ((c:J)>=4256)) j6 z<|fq (Zg (O ((c:J)>=4256)) (O ((c:J)<=4351)) V) [41] z (t7 (O ((c:J)>=7680)) j6 z m5) z) z) kx ?_;refine CS (λh3=>?_) (λh3=>?_)
   ·refine GO (kb h3 m5) kx ?_;exact EN kx
   ·refine GO (kb h3<|t7 (O ((c:J)>=12353)) j6 z<|fq (Zg (O ((c:J)>=12353)) (O ((c:J)<=12538)) V) [60] z (t7 (O ((c:J)>=19968)) j6 z<|fq (Zg (O ((c:J)>=19968)) (O ((c:J)<=40959)) V) [60] z (t7 (O ((c:J)>=44032)) j6 z m5) z) z) kx ?_;refine CS (λh4=>?_) (λh4=>?_)
    ·refine GO (kb h4 m5) kx ?_;exact EN kx
    ·refine GO (kb h4 m5) kx ?_;exact EN kx
def lowC(c:J):Int:=Zg (Zg (O ((c:J)>=65)) (O ((c:J)<=90)) V) (c+32) (Zg (Zg (Zg (O ((c:J)>=192)) (O ((c:J)<=222)) V) ((c:J) !=215) V) (c+32) (Zg (Zg (Zg (O ((c:J)>=913)) (O ((c:J)<=939)) V) ((c:J) !=930) V) (c+32) (Zg (Zg (O ((c:J)>=1040)) (O ((c:J)<=1071)) V) (c+32) (Zg (Zg (O ((c:J)>=1024)) (O ((c:J)<=1039)) V) (c+80) c))))
def lowC_to(c:J)(h0: -1000000000<=c)(h1:c<=1000000000):Va1 Zq 269 [(jI c)] [] [] (jI (lowC c)) [] []:=by
 refine BEG (λr:J=>(jI r)) (lowC c) Tryz.func269 kx ?_;refine UF (lowC.eq_1 ..) ?_;refine GO (j8 (O ((c:J)>=65)) j6 z m5) kx ?_;refine CS (λh1=>?_) (λh1=>?_)
 ·obtain⟨h1a,h1o⟩:=Va9 h1;have h1ap:=Zd h1a;have h1op:=Zd h1o;refine GO (kb h1<|m6 (wrE (c+32) (c+32) kv) m5) kx ?_;exact EN kx
 ·refine GO (kb h1<|t7 (O ((c:J)>=192)) j6 z<|m7 (Zg (O ((c:J)>=192)) (O ((c:J)<=222)) V) j6 z m5) kx ?_;refine CS (λh2=>?_) (λh2=>?_)
  ·obtain⟨h2a,h2o⟩:=Va9 h2;obtain⟨h2aa,h2ao⟩:=Va9 h2a;have h2aap:=Zd h2aa;have h2aop:=Zd h2ao;have h2op:=Z2.1 h2o;refine GO (kb h2<|m6 (wrE (c+32) (c+32) kv) m5) kx ?_;exact EN kx
  ·refine GO (kb h2<|t7 (O ((c:J)>=913)) j6 z<|m7 (Zg (O ((c:J)>=913)) (O ((c:J)<=939)) V) j6 z m5) kx ?_;refine CS (λh3=>?_) (λh3=>?_)
   ·obtain⟨h3a,h3o⟩:=Va9 h3;obtain⟨h3aa,h3ao⟩:=Va9 h3a;have h3aap:=Zd h3aa;have h3aop:=Zd h3ao;have h3op:=Z2.1 h3o;refine GO (kb h3<|m6 (wrE (c+32) (c+32) kv) m5) kx ?_;exact EN kx
   ·refine GO (kb h3<|t7 (O ((c:J)>=1040)) j6 z m5) kx ?_;refine CS (λh4=>?_) (λh4=>?_)
    ·obtain⟨h4a,h4o⟩:=Va9 h4;have h4ap:=Zd h4a;have h4op:=Zd h4o;refine GO (kb h4<|m6 (wrE (c+32) (c+32) kv) m5) kx ?_;exact EN kx
    ·refine GO (kb h4<|t7 (O ((c:J)>=1024)) j6 z m5) kx ?_;refine CS (λh5=>?_) (λh5=>?_)
     ·obtain⟨h5a,h5o⟩:=Va9 h5;have h5ap:=Zd h5a;have h5op:=Zd h5o;refine GO (kb h5<|m6 (wrE (c+80) (c+80) kv) m5) kx ?_;exact EN kx
     ·refine GO (kb h5 j6) kx ?_;exact EN kx
def uncB(c:J):Bool:=Zg (Zg (O ((c:J)<32)) ((c:J) !=10) V) R ((c:J)==127)
def uncB_to(c:J):Va1 Zq 222 [(jI c)] [] [] (jB (uncB c)) [] []:=by
 refine BEG (λr:Zs=>(jB r)) (uncB c) Tryz.func222 kx ?_;refine UF (uncB.eq_1 ..) ?_;refine GO (j8 (O ((c:J)<32)) j6 z<|m7 (Zg (O ((c:J)<32)) ((c:J) !=10) V) z j6 m5) kx ?_;exact EN kx
def wdtI(b:J):Int:=Zg (O ((b:J)<128)) 1 (Zg (Zg (O ((b:J)>=194)) (O ((b:J)<=223)) V) 2 (Zg (Zg (O ((b:J)>=224)) (O ((b:J)<=239)) V) 3 (Zg (Zg (O ((b:J)>=240)) (O ((b:J)<=244)) V) 4 0)))
def wdtI_to(b:J):Va1 Zq 192 [(.av (.val (.int .u8 b)))] [] [] (jI (wdtI b)) [] []:=by
 refine BEG (λr:J=>(jI r)) (wdtI b) Tryz.func192 kx ?_;refine UF (wdtI.eq_1 ..) ?_;refine GO i7 kx ?_;refine CSd (λh1p h1=>?_) (λh1p h1=>?_)
 ·refine GO (kb h1 m5) kx ?_;exact EN kx
 ·refine GO (kb h1<|t7 (O ((b:J)>=194)) j6 z m5) kx ?_;refine CS (λh2=>?_) (λh2=>?_)
  ·obtain⟨h2a,h2o⟩:=Va9 h2;have h2ap:=Zd h2a;have h2op:=Zd h2o;refine GO (kb h2 m5) kx ?_;exact EN kx
  ·refine GO (kb h2<|t7 (O ((b:J)>=224)) j6 z m5) kx ?_;refine CS (λh3=>?_) (λh3=>?_)
   ·obtain⟨h3a,h3o⟩:=Va9 h3;have h3ap:=Zd h3a;have h3op:=Zd h3o;refine GO (kb h3 m5) kx ?_;exact EN kx
   ·refine GO (kb h3<|t7 (O ((b:J)>=240)) j6 z m5) kx ?_;refine CS (λh4=>?_) (λh4=>?_)
    ·obtain⟨h4a,h4o⟩:=Va9 h4;have h4ap:=Zd h4a;have h4op:=Zd h4o;refine GO (kb h4 m5) kx ?_;exact EN kx
    ·refine GO (kb h4 m5) kx ?_;exact EN kx
def empA(a:DAttr):Bool:=Zg (Zg (eqs a.fID (⟨#[]⟩)) (((lenM Vak a.fClasses:E):J)==0) V) (((lenM Vaz a.fPairs:E):J)==0) V
def empA_to(a:DAttr)(ha:Vfq a<=1073741824):Va1 Zq 118 [(.av (Vph a))] [] [] (jB (empA a)) [] []:=by
 have hwa:=Vcv a;simp only[wStr]at hwa;have hw_0:=Vb9 (w:=wStr) Ves a.fClasses;have hw_1:=Vb9 (w:=Vhi) Vfp a.fPairs;refine BEG (λr:Zs=>(jB r)) (empA a) Tryz.func118 kx ?_;refine UF (empA.eq_1 ..) ?_;refine GO (tn 6<|kj (eqs a.fID (⟨#[]⟩)) i7 z<|m7 (Zg (eqs a.fID (⟨#[]⟩)) (((lenM Vak a.fClasses:E):J)==0) V) i7 z m5) kx ?_;exact EN kx
def skpS_L0(s:Zh)(i:J):E->J->J
 |0,_=>default
 |n0+1,v1=>Zg (Zg (O ((v1:J)<((Ze s:E):J))) (((Yw s (Zc v1):E):J)==32) V) (skpS_L0 s i n0 (v1+1)) v1
def skpS(s:Zh)(i:J):Int:=skpS_L0 s i ((s.size-Zc i)+1) i
def Vkv(s:Zh)(i:J)(hs:s.size<=1073741824)(h0:0<=i)(h1:i<=1073741833):Va1 Zq 133 [(jS s),(jI i)] [] [] (jI (skpS s i)) [] []:=by
 refine BEG (λr:J=>(jI r)) (skpS s i) Tryz.func133 kx ?_;refine UF (skpS.eq_1 ..) ?_;refine GO m5 kx ?_;refine LP (λN M S=>∃ v1:J,(0<=v1)/\(v1<=1073741833)/\(s.size-Zc v1<N)/\M=skpS_L0 s i N v1/\S=(sx 18 [(0,(jS s)),(1,(jI v1))] [] [])) kx ⟨_,by first|omega|assumption|(simp only[Va6];omega)|(simp;done)|(simp;omega),by first|omega|assumption|(simp only[Va6];omega)|(simp;done)|(simp;omega),kv,rfl,rfl⟩ (WK kx) ?_;rintro n0 M S ⟨v1,hv,hb,hF0,rfl,rfl⟩;obtain⟨n0,rfl⟩:∃ k,n0=k+1:=⟨n0-1,kv⟩
 refine UF (skpS_L0.eq_2 ..) ?_;refine GO (jq (O ((v1:J)<((Ze s:E):J))) (m9 (λh=>by have j0:=h.2;have j0p:=Zd j0;exact(ib s v1 kv)) m5) z z) kx ?_;refine CS (λh1=>?_) (λh1=>?_)
 ·obtain⟨h1a,h1o⟩:=Va9 h1;have h1ap:=Zd h1a;have h1op:=eq_of_beq h1o;refine GO (kb h1<|m6 (wrE (v1+1) (v1+1) kv) m5) kx ?_;exact AG ⟨_,by first|omega|assumption|(simp only[Va6];omega)|(simp;done)|(simp;omega),by first|omega|assumption|(simp only[Va6];omega)|(simp;done)|(simp;omega),kv,rfl,rfl⟩ (WK kx) kx (Yo _)
 ·refine GO (kb h1 z) kx ?_;refine OUT j6 kx ?_;exact EN kx
def litP(s:Zh)(i:J)(e:J):DPiece:=DPiece.mk 0 (DInline.mk 1 (Zi s (Zc i) (Zc e)) (⟨#[]⟩) (⟨#[]⟩) (DAttr.mk (⟨#[]⟩) ([]) ([])) ([]) ([]) ([])) (⟨#[]⟩) 0 V V V 0 e
def Vcr(s:Zh)(i:J)(e:J)(hs:s.size<=1073741824)(h0:0<=i)(h1:i<=e)(h2:e<=s.size):Va1 Zq 134 [(jS s),(jI i),(jI e)] [] [] (.av (Vby (litP s i e))) [] []:=by
 refine BEG (λr:DPiece=>(.av (Vby r))) (litP s i e) Tryz.func134 kx ?_;refine UF (litP.eq_1 ..) ?_;have:=Vai s (Zc i) (Zc e);refine GO (z8 (show 0<=(i:J)/\(i:J)<=e/\e<=((Ze s:E):J)from(by first|omega|(simp only[Va6,Y6];omega))) i7) kx ?_;exact EN kx
def sndI(b:J):(J×J):=Zg ((b:J)==224) (160,191) (Zg ((b:J)==237) (128,159) (Zg ((b:J)==240) (144,191) (Zg ((b:J)==244) (128,143) (128,191))))
def sndI_to(b:J):Va1 Zq 193 [(.av (.val (.int .u8 b)))] [] [] (.av (.tup [(.val (.int .u8 ((sndI b).1))),(.val (.int .u8 ((sndI b).2)))])) [] []:=by
 refine BEG (λr:(J×J)=>(.av (.tup [(.val (.int .u8 r.1)),(.val (.int .u8 r.2))]))) (sndI b) Tryz.func193 kx ?_;refine UF (sndI.eq_1 ..) ?_;refine GO n8 kx ?_;refine CSe (λh1p h1=>?_) (λh1p h1=>?_)
 ·refine GO (kb h1 j6) kx ?_;exact EN kx
 ·refine GO (kb h1 j6) kx ?_;refine CSe (λh2p h2=>?_) (λh2p h2=>?_)
  ·refine GO (kb h2 j6) kx ?_;exact EN kx
  ·refine GO (kb h2 j6) kx ?_;refine CSe (λh3p h3=>?_) (λh3p h3=>?_)
   ·refine GO (kb h3 j6) kx ?_;exact EN kx
   ·refine GO (kb h3 j6) kx ?_;refine CSe (λh4p h4=>?_) (λh4p h4=>?_)
    ·refine GO (kb h4 j6) kx ?_;exact EN kx
    ·refine GO (kb h4 j6) kx ?_;exact EN kx
def isrP(p:DPiece):Bool:=Zg ((p.fKind:J) !=1) V (Zg (Zg (eqs p.fChar (⟨#[42]⟩)) (eqs p.fChar (⟨#[42]⟩)) (eqs p.fChar (⟨#[95]⟩))) (Zg (O ((p.fN:J)>=1)) (O ((p.fN:J)<=262144)) V) (Zg (eqs p.fChar (⟨#[126]⟩)) ((p.fN:J)==2) V))
def isrP_to(p:DPiece):Va1 Zq 198 [(.av (Vby p))] [] [] (jB (isrP p)) [] []:=by
 refine BEG (λr:Zs=>(jB r)) (isrP p) Tryz.func198 kx ?_;refine UF (isrP.eq_1 ..) ?_;refine GO n8 kx ?_;refine CSn (λh1p h1=>?_) (λh1p h1=>?_)
 ·refine GO (kb h1 m5) kx ?_;exact EN kx
 ·refine GO (kb h1<|tn 4<|ks (eqs p.fChar (⟨#[42]⟩)) [8] z j6 z) kx ?_;refine CS (λh2=>?_) (λh2=>?_)
  ·refine GO (kb h2<|j8 (O ((p.fN:J)>=1)) i6 z m5) kx ?_;exact EN kx
  ·refine GO (kb h2 j6) kx ?_;refine CS (λh3=>?_) (λh3=>?_)
   ·refine GO (kb h3 i7) kx ?_;exact EN kx
   ·refine GO (kb h3 m5) kx ?_;exact EN kx
def sgnI(image:Zs):ByteArray:=Zg image (⟨#[33,91]⟩) (⟨#[91]⟩)
def sgnI_to(image:Zs):Va1 Zq 54 [(jB image)] [] [] (jS (sgnI image)) [] []:=by
 refine BEG (λr:Zh=>(jS r)) (sgnI image) Tryz.func54 kx ?_;refine UF (sgnI.eq_1 ..) ?_;refine GO j6 kx ?_;refine CS (λh1=>?_) (λh1=>?_)
 ·refine GO (kb h1 m5) kx ?_;exact EN kx
 ·refine GO (kb h1 m5) kx ?_;exact EN kx
def runE_L0(s:Zh)(i:J):E->J->J
 |0,_=>default
 |n0+1,v5=>Zg (O ((v5:J)<((Ze s:E):J))) (Zg (((Yw s (Zc v5):E):J)==((Yw s (Zc i):E):J)) (runE_L0 s i n0 (v5+1)) v5) v5
def runE(s:Zh)(i:J):Int:=runE_L0 s i ((s.size-Zc i)+1) i
def Vky(s:Zh)(i:J)(hs:s.size<=1073741824)(h0:0<=i)(h1:i<s.size):Va1 Zq 130 [(jS s),(jI i)] [] [] (jI (runE s i)) [] []:=by
 refine BEG (λr:J=>(jI r)) (runE s i) Tryz.func130 kx ?_;refine UF (runE.eq_1 ..) ?_;refine GO i6 kx ?_;refine LP (λN M S=>∃ v5:J,(i<=v5)/\(v5<=s.size)/\(s.size-Zc v5<N)/\M=runE_L0 s i N v5/\S=(sx 23 [(0,(jS s)),(1,(jI i)),(5,(jI v5))] [] [])) kx ⟨_,by first|omega|assumption|(simp only[Va6];omega)|(simp;done)|(simp;omega),by first|omega|assumption|(simp only[Va6];omega)|(simp;done)|(simp;omega),kv,rfl,rfl⟩ (WK kx) ?_;rintro n0 M S ⟨v5,hv,hb,hF0,rfl,rfl⟩;obtain⟨n0,rfl⟩:∃ k,n0=k+1:=⟨n0-1,kv⟩
 refine UF (runE_L0.eq_2 ..) ?_;refine GO z kx ?_;refine CSd (λh1p h1=>?_) (λh1p h1=>?_)
 ·refine DR3 (tn 5<|ko (.b R)<|kp (show O ((v5:J)<((Ze s:E):J))=R from h1)<|oq (.b R)<|kp (show O ((v5:J)<((Ze s:E):J))=R from h1)<|oq (.b R)<|kp (show O ((v5:J)<((Ze s:E):J))=R from h1)<|kp (show 0<=(v5:J)/\(v5:J)<((Ze s:E):J)from(by first|omega|(simp only[Va6,Y6];omega)))<|ko (.b R)<|kp (show O ((v5:J)<((Ze s:E):J))=R from h1)<|oq (.b R)<|kp (show O ((v5:J)<((Ze s:E):J))=R from h1)<|oq (.b R)<|kp (show O ((v5:J)<((Ze s:E):J))=R from h1)<|kp (show 0<=(i:J)/\(i:J)<((Ze s:E):J)from(by first|omega|(simp only[Va6,Y6];omega)))<|ko (.b R)<|kp (show O ((v5:J)<((Ze s:E):J))=R from h1)<|oq (.b R)<|kp h1 z) kx kx kx ?_;refine CSe (λh2p h2=>?_) (λh2p h2=>?_)
  ·refine GO (kb h2<|m6 (wrE (v5+1) (v5+1) kv) m5) kx ?_;exact AG ⟨_,by first|omega|assumption|(simp only[Va6];omega)|(simp;done)|(simp;omega),by first|omega|assumption|(simp only[Va6];omega)|(simp;done)|(simp;omega),kv,rfl,rfl⟩ (WK kx) kx (Yo _)
  ·refine GO (kb h2 z) kx ?_;refine OUT j6 kx ?_;exact EN kx
 ·refine DR3 (tn 5<|ko (.b V)<|kp (show O ((v5:J)<((Ze s:E):J))=V from h1)<|ko (.b V)<|kp (show O ((v5:J)<((Ze s:E):J))=V from h1)<|ko (.b V)<|kp (show O ((v5:J)<((Ze s:E):J))=V from h1)<|ko (.b V)<|kp (show O ((v5:J)<((Ze s:E):J))=V from h1)<|ko (.b V)<|kp (show O ((v5:J)<((Ze s:E):J))=V from h1)<|ko (.b V)<|kp (show O ((v5:J)<((Ze s:E):J))=V from h1)<|ko (.b V)<|kp (show O ((v5:J)<((Ze s:E):J))=V from h1)<|ko (.b V)<|kp h1<|kb ff z) kx kx kx ?_;refine OUT j6 kx ?_;exact EN kx
def nmeS_L0(s:Zh)(i:J):E->J->J
 |0,_=>default
 |n0+1,v1=>Zg (O ((v1:J)<((Ze s:E):J))) (Zg (Zg (Zg (Zg (Zg (Zg (!Zg (Zg (O (((Yw s (Zc v1):E):J)>=97)) (O (((Yw s (Zc v1):E):J)<=122)) V) R (Zg (O (((Yw s (Zc v1):E):J)>=65)) (O (((Yw s (Zc v1):E):J)<=90)) V)) (!digC (IntKind.i64.wrap ((Yw s (Zc v1):E):J))) V) (((Yw s (Zc v1):E):J) !=45) V) (((Yw s (Zc v1):E):J) !=95) V) (((Yw s (Zc v1):E):J) !=46) V) (((Yw s (Zc v1):E):J) !=58) V) v1 (nmeS_L0 s i n0 (v1+1))) v1
def nmeS(s:Zh)(i:J):Int:=nmeS_L0 s i ((s.size-Zc i)+1) i
def Voy(s:Zh)(i:J)(hs:s.size<=1073741824)(h0:0<=i)(h1:i<=1073741833):Va1 Zq 188 [(jS s),(jI i)] [] [] (jI (nmeS s i)) [] []:=by
 refine BEG (λr:J=>(jI r)) (nmeS s i) Tryz.func188 kx ?_;refine UF (nmeS.eq_1 ..) ?_;refine GO m5 kx ?_;refine LP (λN M S=>∃ v1:J,(0<=v1)/\(v1<=1073741833)/\(s.size-Zc v1<N)/\M=nmeS_L0 s i N v1/\S=(sx 55 [(0,(jS s)),(1,(jI v1))] [] [])) kx ⟨_,by first|omega|assumption|(simp only[Va6];omega)|(simp;done)|(simp;omega),by first|omega|assumption|(simp only[Va6];omega)|(simp;done)|(simp;omega),kv,rfl,rfl⟩ (WK kx) ?_;rintro n0 M S ⟨v1,hv,hb,hF0,rfl,rfl⟩;obtain⟨n0,rfl⟩:∃ k,n0=k+1:=⟨n0-1,kv⟩
 refine UF (nmeS_L0.eq_2 ..) ?_;refine GO i7 kx ?_;refine CSd (λh1p h1=>?_) (λh1p h1=>?_)
 ·refine GO (kb h1<|p7 (ib s v1 kv)<|j8 (O (((Yw s (Zc v1):E):J)>=97)) j6 z<|m7 (Zg (O (((Yw s (Zc v1):E):J)>=97)) (O (((Yw s (Zc v1):E):J)<=122)) V) z (t7 (O (((Yw s (Zc v1):E):J)>=65)) j6 z z)<|j8 (!Zg (Zg (O (((Yw s (Zc v1):E):J)>=97)) (O (((Yw s (Zc v1):E):J)<=122)) V) R (Zg (O (((Yw s (Zc v1):E):J)>=65)) (O (((Yw s (Zc v1):E):J)<=90)) V)) (tn 2<|hc (λh=>by have j0:=h.2;have j0n:=nott j0;have:=Vbm s (Zc v1);have:=Vcm s (Zc v1);exact(Vlw (IntKind.i64.wrap ((Yw s (Zc v1):E):J)))) m5) z<|m7 (Zg (!Zg (Zg (O (((Yw s (Zc v1):E):J)>=97)) (O (((Yw s (Zc v1):E):J)<=122)) V) R (Zg (O (((Yw s (Zc v1):E):J)>=65)) (O (((Yw s (Zc v1):E):J)<=90)) V)) (!digC (IntKind.i64.wrap ((Yw s (Zc v1):E):J))) V) j6 z<|m7 (Zg (Zg (!Zg (Zg (O (((Yw s (Zc v1):E):J)>=97)) (O (((Yw s (Zc v1):E):J)<=122)) V) R (Zg (O (((Yw s (Zc v1):E):J)>=65)) (O (((Yw s (Zc v1):E):J)<=90)) V)) (!digC (IntKind.i64.wrap ((Yw s (Zc v1):E):J))) V) (((Yw s (Zc v1):E):J) !=45) V) j6 z<|m7 (Zg (Zg (Zg (!Zg (Zg (O (((Yw s (Zc v1):E):J)>=97)) (O (((Yw s (Zc v1):E):J)<=122)) V) R (Zg (O (((Yw s (Zc v1):E):J)>=65)) (O (((Yw s (Zc v1):E):J)<=90)) V)) (!digC (IntKind.i64.wrap ((Yw s (Zc v1):E):J))) V) (((Yw s (Zc v1):E):J) !=45) V) (((Yw s (Zc v1):E):J) !=95) V) j6 z<|m7 (Zg (Zg (Zg (Zg (!Zg (Zg (O (((Yw s (Zc v1):E):J)>=97)) (O (((Yw s (Zc v1):E):J)<=122)) V) R (Zg (O (((Yw s (Zc v1):E):J)>=65)) (O (((Yw s (Zc v1):E):J)<=90)) V)) (!digC (IntKind.i64.wrap ((Yw s (Zc v1):E):J))) V) (((Yw s (Zc v1):E):J) !=45) V) (((Yw s (Zc v1):E):J) !=95) V) (((Yw s (Zc v1):E):J) !=46) V) j6 z z) kx ?_;refine CS (λh2=>?_) (λh2=>?_)
  ·obtain⟨h2a,h2o⟩:=Va9 h2;obtain⟨h2aa,h2ao⟩:=Va9 h2a;obtain⟨h2aaa,h2aao⟩:=Va9 h2aa;obtain⟨h2aaaa,h2aaao⟩:=Va9 h2aaa;obtain⟨h2aaaaa,h2aaaao⟩:=Va9 h2aaaa;have h2aaaaan:=nott h2aaaaa;have h2aaaaon:=nott h2aaaao;have h2aaaop:=Z2.1 h2aaao;have h2aaop:=Z2.1 h2aao;have h2aop:=Z2.1 h2ao;have h2op:=Z2.1 h2o;refine GO (kb h2 z) kx ?_;refine OUT j6 kx ?_;exact EN kx
  ·refine GO (kb h2<|m6 (wrE (v1+1) (v1+1) kv) m5) kx ?_;exact AG ⟨_,by first|omega|assumption|(simp only[Va6];omega)|(simp;done)|(simp;omega),by first|omega|assumption|(simp only[Va6];omega)|(simp;done)|(simp;omega),kv,rfl,rfl⟩ (WK kx) kx (Yo _)
 ·refine GO (kb h1 z) kx ?_;refine OUT j6 kx ?_;exact EN kx
def skpL_L0(s:Zh)(i:J):E->J->J
 |0,_=>default
 |n0+1,v1=>Zg (Zg (O ((v1:J)<((Ze s:E):J))) (spcC (IntKind.i64.wrap ((Yw s (Zc v1):E):J))) V) (skpL_L0 s i n0 (v1+1)) v1
def skpL(s:Zh)(i:J):Int:=skpL_L0 s i ((s.size-Zc i)+1) i
def skpL_to(s:Zh)(i:J)(hs:s.size<=1073741824)(h0:0<=i)(h1:i<=1073741833):Va1 Zq 238 [(jS s),(jI i)] [] [] (jI (skpL s i)) [] []:=by
 refine BEG (λr:J=>(jI r)) (skpL s i) Tryz.func238 kx ?_;refine UF (skpL.eq_1 ..) ?_;refine GO m5 kx ?_;refine LP (λN M S=>∃ v1:J,(0<=v1)/\(v1<=1073741833)/\(s.size-Zc v1<N)/\M=skpL_L0 s i N v1/\S=(sx 19 [(0,(jS s)),(1,(jI v1))] [] [])) kx ⟨_,by first|omega|assumption|(simp only[Va6];omega)|(simp;done)|(simp;omega),by first|omega|assumption|(simp only[Va6];omega)|(simp;done)|(simp;omega),kv,rfl,rfl⟩ (WK kx) ?_;rintro n0 M S ⟨v1,hv,hb,hF0,rfl,rfl⟩;obtain⟨n0,rfl⟩:∃ k,n0=k+1:=⟨n0-1,kv⟩
 refine UF (skpL_L0.eq_2 ..) ?_;refine GO (jq (O ((v1:J)<((Ze s:E):J))) (m9 (λh=>by have j0:=h.2;have j0p:=Zd j0;exact(ib s v1 kv))<|tn 1<|hc (λh=>by have j0:=h.2;have j0p:=Zd j0;have:=Vbm s (Zc v1);have:=Vcm s (Zc v1);exact(Vog (IntKind.i64.wrap ((Yw s (Zc v1):E):J)))) z) z z) kx ?_;refine CS (λh1=>?_) (λh1=>?_)
 ·obtain⟨h1a,h1o⟩:=Va9 h1;have h1ap:=Zd h1a;refine GO (kb h1<|m6 (wrE (v1+1) (v1+1) kv) m5) kx ?_;exact AG ⟨_,by first|omega|assumption|(simp only[Va6];omega)|(simp;done)|(simp;omega),by first|omega|assumption|(simp only[Va6];omega)|(simp;done)|(simp;omega),kv,rfl,rfl⟩ (WK kx) kx (Yo _)
 ·refine GO (kb h1 z) kx ?_;refine OUT j6 kx ?_;exact EN kx
def escL(s:Zh)(i:J):Bool:=Zg (Zg (Zg (((Yw s (Zc i):E):J)==92) (O ((i+1:J)<((Ze s:E):J))) V) (O (((Yw s (Zc (i+1)):E):J)<128)) V) (pncC (IntKind.i64.wrap ((Yw s (Zc (i+1)):E):J))) V
def Vp9(s:Zh)(i:J)(hs:s.size<=1073741824)(h0:0<=i)(h1:i<s.size):Va1 Zq 279 [(jS s),(jI i)] [] [] (jB (escL s i)) [] []:=by
 refine BEG (λr:Zs=>(jB r)) (escL s i) Tryz.func279 kx ?_;refine UF (escL.eq_1 ..) ?_;refine GO (qq (ib s i kv)<|wq (((Yw s (Zc i):E):J)==92) (tn 1<|hn (λh=>by have j0:=h.2;have j0p:=eq_of_beq j0;exact(wrE (i+1) (i+1) kv)) i6) z<|m7 (Zg (((Yw s (Zc i):E):J)==92) (O ((i+1:J)<((Ze s:E):J))) V) (dq (λh=>by have j0:=h.2;obtain⟨j0a,j0o⟩:=Va9 j0;have j0ap:=eq_of_beq j0a;have j0op:=Zd j0o;exact(wrE (i+1) (i+1) kv))<|hp (λh=>by have j0:=h.2;obtain⟨j0a,j0o⟩:=Va9 j0;have j0ap:=eq_of_beq j0a;have j0op:=Zd j0o;exact(ib s (i+1) kv)) m5) z<|m7 (Zg (Zg (((Yw s (Zc i):E):J)==92) (O ((i+1:J)<((Ze s:E):J))) V) (O (((Yw s (Zc (i+1)):E):J)<128)) V) (dq (λh=>by have j0:=h.2;obtain⟨j0a,j0o⟩:=Va9 j0;obtain⟨j0aa,j0ao⟩:=Va9 j0a;have j0aap:=eq_of_beq j0aa;have j0aop:=Zd j0ao;have j0op:=Zd j0o;exact(wrE (i+1) (i+1) kv))<|hp (λh=>by have j0:=h.2;obtain⟨j0a,j0o⟩:=Va9 j0;obtain⟨j0aa,j0ao⟩:=Va9 j0a;have j0aap:=eq_of_beq j0aa;have j0aop:=Zd j0ao;have j0op:=Zd j0o;exact(ib s (i+1) kv))<|tn 1<|hc (λh=>by have j0:=h.2;obtain⟨j0a,j0o⟩:=Va9 j0;obtain⟨j0aa,j0ao⟩:=Va9 j0a;have j0aap:=eq_of_beq j0aa;have j0aop:=Zd j0ao;have j0op:=Zd j0o;have:=Vbm s (Zc (i+1));have:=Vcm s (Zc (i+1));exact(Vfz (IntKind.i64.wrap ((Yw s (Zc (i+1)):E):J)))) z) z m5) kx ?_;exact EN kx
end Go.Proofs.YthbpjmogdonlkaaGreatDoor
namespace Go.Proofs
open Go.Shelf
def Tryz.lays172_ren:Go.Shelf.Ren:=⟨λ|129=>286|171=>93|172=>149|205=>297|243=>146|244=>204|245=>205|246=>197|247=>254|279=>255|280=>256|281=>257|282=>258|283=>244|284=>245|285=>246|286=>247|287=>295|316=>296|317=>285|318=>287|319=>288|320=>289|321=>308|322=>309|337=>305|338=>306|n=>n,λ|0=>0|2=>2|3=>3|4=>4|5=>5|9=>9|20=>20|21=>21|37=>33|46=>208|51=>291|53=>255|75=>91|76=>92|80=>82|85=>267|127=>132|143=>309|145=>311|167=>266|168=>269|171=>254|173=>258|175=>298|210=>301|212=>290|213=>292|232=>312|233=>313|n=>n,λ|1=>2|3=>0|4=>1|15=>4|16=>5|17=>3|18=>6|19=>7|n=>n⟩
def Tryz.lays172:Go.Proofs.Lays.n172 Zq Tryz.lays172_ren:={
 mixed:=by kernel_rfl
 f129:=Tryz.func286.trans (Zf Y (by kernel_rfl))
 f171:=Tryz.func93.trans (Zf Y (by kernel_rfl))
 f172:=Tryz.func149.trans (Zf Y (by kernel_rfl))
 f205:=Tryz.func297.trans (Zf Y (by kernel_rfl))
 f243:=Tryz.func146.trans (Zf Y (by kernel_rfl))
 f244:=Tryz.func204.trans (Zf Y (by kernel_rfl))
 f245:=Tryz.func205.trans (Zf Y (by kernel_rfl))
 f246:=Tryz.func197.trans (Zf Y (by kernel_rfl))
 f247:=Tryz.func254.trans (Zf Y (by kernel_rfl))
 f279:=Tryz.func255.trans (Zf Y (by kernel_rfl))
 f280:=Tryz.func256.trans (Zf Y (by kernel_rfl))
 f281:=Tryz.func257.trans (Zf Y (by kernel_rfl))
 f282:=Tryz.func258.trans (Zf Y (by kernel_rfl))
 f283:=Tryz.func244.trans (Zf Y (by kernel_rfl))
 f284:=Tryz.func245.trans (Zf Y (by kernel_rfl))
 f285:=Tryz.func246.trans (Zf Y (by kernel_rfl))
 f286:=Tryz.func247.trans (Zf Y (by kernel_rfl))
 f287:=Tryz.func295.trans (Zf Y (by kernel_rfl))
 f316:=Tryz.func296.trans (Zf Y (by kernel_rfl))
 f317:=Tryz.func285.trans (Zf Y (by kernel_rfl))
 f318:=Tryz.func287.trans (Zf Y (by kernel_rfl))
 f319:=Tryz.func288.trans (Zf Y (by kernel_rfl))
 f320:=Tryz.func289.trans (Zf Y (by kernel_rfl))
 f321:=Tryz.func308.trans (Zf Y (by kernel_rfl))
 f322:=Tryz.func309.trans (Zf Y (by kernel_rfl))
 f337:=Tryz.func305.trans (Zf Y (by kernel_rfl))
 f338:=Tryz.func306.trans (Zf Y (by kernel_rfl))
 t0:=Xd
 a0:=Qw
 z0:=Qh
 v0:=Xl
 t2:=Dx
 a2:=Tryz.isAgg2
 z2:=Tryz.sizeOf2
 v2:=D6
 t3:=Z6
 a3:=Y9
 z3:=Yz
 v3:=Yc
 t4:=Yd
 a4:=Xh
 z4:=Y7
 v4:=Yh
 t5:=Ym
 a5:=Xt
 z5:=Xj
 v5:=Yt
 t9:=Z5
 a9:=Y8
 z9:=Yy
 v9:=Yb
 t20:=Qf
 a20:=I4
 z20:=Ip
 v20:=Qp
 t21:=Qe
 a21:=I3
 z21:=Im
 v21:=Qo
 t37:=Qd
 a37:=I2
 z37:=Il
 v37:=Qn
 t46:=Yn
 a46:=Xn
 z46:=Xe
 v46:=Ys
 t51:=Xi
 a51:=Qs
 z51:=Qg
 v51:=Xq
 t53:=Ia
 a53:=Jr
 z53:=Je
 v53:=Ih
 t75:=Ik
 a75:=Dp
 z75:=Jp
 v75:=Iu
 t76:=Ij
 a76:=Do
 z76:=Jo
 v76:=Ir
 t85:=Tryz.underlying267
 a85:=Tryz.isAgg267
 z85:=Tryz.sizeOf267
 v85:=Tryz.zeroValue267
 t127:=Ib
 a127:=Js
 z127:=Jf
 v127:=Ii
 t143:=Tryz.underlying309
 a143:=Tryz.isAgg309
 z143:=Tryz.sizeOf309
 v143:=Tryz.zeroValue309
 t145:=Tryz.underlying311
 a145:=Tryz.isAgg311
 z145:=Tryz.sizeOf311
 v145:=Tryz.zeroValue311
 t167:=Tryz.underlying266
 a167:=Tryz.isAgg266
 z167:=Tryz.sizeOf266
 v167:=Tryz.zeroValue266
 t168:=Tryz.underlying269
 a168:=Tryz.isAgg269
 z168:=Tryz.sizeOf269
 v168:=Tryz.zeroValue269
 t171:=J0
 a171:=F4
 z171:=Fi
 v171:=Dd
 t173:=Jz
 a173:=F3
 z173:=Fh
 v173:=Dc
 t175:=Tryz.underlying298
 a175:=Tryz.isAgg298
 z175:=Tryz.sizeOf298
 v175:=Tryz.zeroValue298
 t210:=Tryz.underlying301
 a210:=Tryz.isAgg301
 z210:=Tryz.sizeOf301
 v210:=Tryz.zeroValue301
 t212:=Jy
 a212:=F2
 z212:=Fg
 v212:=Db
 t213:=Jw
 a213:=F1
 z213:=Ff
 t232:=Jv
 a232:=F0
 z232:=Fe
 v232:=Da
 t233:=Ju
 a233:=Fz
 z233:=Fc
 v233:=J9
 g15:=by kernel_rfl
 g16:=by kernel_rfl
 g17:=by kernel_rfl
 g18:=by kernel_rfl
 g19:=by kernel_rfl}
def Tryz.lays137_ren:Go.Shelf.Ren:=⟨λ|137=>171|217=>223|266=>267|n=>n,λ|3=>3|5=>5|9=>9|n=>n,λ|1=>2|3=>0|4=>1|15=>4|16=>5|17=>3|18=>6|19=>7|n=>n⟩
def Tryz.lays137:Go.Proofs.Lays.n137 Zq Tryz.lays137_ren:={
 mixed:=by kernel_rfl
 f137:=Tryz.func171.trans (Zf Y (by kernel_rfl))
 f217:=Tryz.func223.trans (Zf Y (by kernel_rfl))
 f266:=Tryz.func267.trans (Zf Y (by kernel_rfl))
 t3:=Z6
 a3:=Y9
 z3:=Yz
 v3:=Yc
 t5:=Ym
 a5:=Xt
 z5:=Xj
 v5:=Yt
 t9:=Z5
 a9:=Y8
 z9:=Yy
 v9:=Yb}
def Tryz.lays99_ren:Go.Shelf.Ren:=⟨λ|99=>182|206=>228|n=>n,λ|3=>3|4=>4|9=>9|n=>n,λ|1=>2|3=>0|4=>1|15=>4|16=>5|17=>3|18=>6|19=>7|n=>n⟩
def Tryz.lays99:Go.Proofs.Lays.n99 Zq Tryz.lays99_ren:={
 mixed:=by kernel_rfl
 f99:=Tryz.func182.trans (Zf Y (by kernel_rfl))
 f206:=Tryz.func228.trans (Zf Y (by kernel_rfl))
 t3:=Z6
 a3:=Y9
 z3:=Yz
 v3:=Yc
 t4:=Yd
 a4:=Xh
 z4:=Y7
 v4:=Yh
 t9:=Z5
 a9:=Y8
 z9:=Yy
 v9:=Yb}
def Tryz.lays153_ren:Go.Shelf.Ren:=⟨λ|119=>178|137=>171|152=>128|153=>187|217=>223|224=>179|225=>180|226=>233|227=>46|228=>84|266=>267|n=>n,λ|0=>0|3=>3|4=>4|5=>5|9=>9|21=>21|46=>208|116=>96|117=>97|124=>100|n=>n,λ|1=>2|3=>0|4=>1|15=>4|16=>5|17=>3|18=>6|19=>7|n=>n⟩
def Tryz.lays153:Go.Proofs.Lays.n153 Zq Tryz.lays153_ren:={
 mixed:=by kernel_rfl
 f119:=Tryz.func178.trans (Zf Y (by kernel_rfl))
 f137:=Tryz.func171.trans (Zf Y (by kernel_rfl))
 f152:=Tryz.func128.trans (Zf Y (by kernel_rfl))
 f153:=Tryz.func187.trans (Zf Y (by kernel_rfl))
 f217:=Tryz.func223.trans (Zf Y (by kernel_rfl))
 f224:=Tryz.func179.trans (Zf Y (by kernel_rfl))
 f225:=Tryz.func180.trans (Zf Y (by kernel_rfl))
 f226:=Tryz.func233.trans (Zf Y (by kernel_rfl))
 f227:=Tryz.func46.trans (Zf Y (by kernel_rfl))
 f228:=Tryz.func84.trans (Zf Y (by kernel_rfl))
 f266:=Tryz.func267.trans (Zf Y (by kernel_rfl))
 t0:=Xd
 a0:=Qw
 z0:=Qh
 v0:=Xl
 t3:=Z6
 a3:=Y9
 z3:=Yz
 v3:=Yc
 t4:=Yd
 a4:=Xh
 z4:=Y7
 v4:=Yh
 t5:=Ym
 a5:=Xt
 z5:=Xj
 v5:=Yt
 t9:=Z5
 a9:=Y8
 z9:=Yy
 v9:=Yb
 t21:=Qe
 a21:=I3
 z21:=Im
 v21:=Qo
 t46:=Yn
 a46:=Xn
 z46:=Xe
 v46:=Ys
 t116:=Dk
 a116:=Bg
 z116:=Fv
 t117:=Dj
 a117:=Bf
 z117:=Fu
 v117:=Du
 t124:=J6
 a124:=Ba
 z124:=Fq
 v124:=Di}
def Tryz.lays160_ren:Go.Shelf.Ren:=⟨λ|119=>178|120=>129|137=>171|151=>86|152=>128|160=>22|197=>85|217=>223|224=>179|225=>180|227=>46|228=>84|231=>44|232=>45|233=>47|234=>48|235=>49|236=>50|260=>127|266=>267|271=>87|n=>n,λ|0=>0|3=>3|4=>4|5=>5|9=>9|21=>21|46=>208|105=>141|116=>96|117=>97|119=>207|124=>100|138=>210|139=>211|n=>n,λ|1=>2|3=>0|4=>1|15=>4|16=>5|17=>3|18=>6|19=>7|n=>n⟩
def Tryz.lays160:Go.Proofs.Lays.n160 Zq Tryz.lays160_ren:={
 mixed:=by kernel_rfl
 f119:=Tryz.func178.trans (Zf Y (by kernel_rfl))
 f120:=Tryz.func129.trans (Zf Y (by kernel_rfl))
 f137:=Tryz.func171.trans (Zf Y (by kernel_rfl))
 f151:=Tryz.func86.trans (Zf Y (by kernel_rfl))
 f152:=Tryz.func128.trans (Zf Y (by kernel_rfl))
 f160:=Tryz.func22.trans (Zf Y (by kernel_rfl))
 f197:=Tryz.func85.trans (Zf Y (by kernel_rfl))
 f217:=Tryz.func223.trans (Zf Y (by kernel_rfl))
 f224:=Tryz.func179.trans (Zf Y (by kernel_rfl))
 f225:=Tryz.func180.trans (Zf Y (by kernel_rfl))
 f227:=Tryz.func46.trans (Zf Y (by kernel_rfl))
 f228:=Tryz.func84.trans (Zf Y (by kernel_rfl))
 f231:=Tryz.func44.trans (Zf Y (by kernel_rfl))
 f232:=Tryz.func45.trans (Zf Y (by kernel_rfl))
 f233:=Tryz.func47.trans (Zf Y (by kernel_rfl))
 f234:=Tryz.func48.trans (Zf Y (by kernel_rfl))
 f235:=Tryz.func49.trans (Zf Y (by kernel_rfl))
 f236:=Tryz.func50.trans (Zf Y (by kernel_rfl))
 f260:=Tryz.func127.trans (Zf Y (by kernel_rfl))
 f266:=Tryz.func267.trans (Zf Y (by kernel_rfl))
 f271:=Tryz.func87.trans (Zf Y (by kernel_rfl))
 t0:=Xd
 a0:=Qw
 z0:=Qh
 v0:=Xl
 t3:=Z6
 a3:=Y9
 z3:=Yz
 v3:=Yc
 t4:=Yd
 a4:=Xh
 z4:=Y7
 v4:=Yh
 t5:=Ym
 a5:=Xt
 z5:=Xj
 v5:=Yt
 t9:=Z5
 a9:=Y8
 z9:=Yy
 v9:=Yb
 t21:=Qe
 a21:=I3
 z21:=Im
 v21:=Qo
 t46:=Yn
 a46:=Xn
 z46:=Xe
 v46:=Ys
 t105:=J5
 a105:=F9
 z105:=Fp
 v105:=Dh
 t116:=Dk
 a116:=Bg
 z116:=Fv
 t117:=Dj
 a117:=Bf
 z117:=Fu
 v117:=Du
 t119:=J3
 a119:=F7
 z119:=Fl
 t124:=J6
 a124:=Ba
 z124:=Fq
 v124:=Di
 t138:=J2
 a138:=F6
 z138:=Fk
 v138:=Df
 t139:=J1
 a139:=F5
 z139:=Fj
 v139:=De
 g3:=by kernel_rfl
 g4:=by kernel_rfl}
def Tryz.lays219_ren:Go.Shelf.Ren:=⟨λ|217=>223|219=>313|224=>179|225=>180|266=>267|267=>315|314=>317|n=>n,λ|3=>3|4=>4|5=>5|9=>9|46=>208|51=>291|146=>294|n=>n,λ|1=>2|3=>0|4=>1|15=>4|16=>5|17=>3|18=>6|19=>7|n=>n⟩
def Tryz.lays219:Go.Proofs.Lays.n219 Zq Tryz.lays219_ren:={
 mixed:=by kernel_rfl
 f217:=Tryz.func223.trans (Zf Y (by kernel_rfl))
 f219:=Tryz.func313.trans (Zf Y (by kernel_rfl))
 f224:=Tryz.func179.trans (Zf Y (by kernel_rfl))
 f225:=Tryz.func180.trans (Zf Y (by kernel_rfl))
 f266:=Tryz.func267.trans (Zf Y (by kernel_rfl))
 f267:=Tryz.func315.trans (Zf Y (by kernel_rfl))
 f314:=Tryz.func317.trans (Zf Y (by kernel_rfl))
 t3:=Z6
 a3:=Y9
 z3:=Yz
 v3:=Yc
 t4:=Yd
 a4:=Xh
 z4:=Y7
 v4:=Yh
 t5:=Ym
 a5:=Xt
 z5:=Xj
 v5:=Yt
 t9:=Z5
 a9:=Y8
 z9:=Yy
 v9:=Yb
 t46:=Yn
 a46:=Xn
 z46:=Xe
 v46:=Ys
 t51:=Xi
 a51:=Qs
 z51:=Qg
 v51:=Xq
 t146:=Q9
 a146:=Jq
 z146:=Jd
 v146:=Ig
 g1:=by kernel_rfl}
def Tryz.lays171_ren:Go.Shelf.Ren:=⟨λ|129=>286|171=>93|243=>146|246=>197|283=>244|284=>245|285=>246|286=>247|317=>285|318=>287|319=>288|320=>289|337=>305|338=>306|n=>n,λ|0=>0|2=>2|3=>3|4=>4|5=>5|9=>9|20=>20|37=>33|46=>208|51=>291|53=>255|171=>254|173=>258|212=>290|213=>292|232=>312|233=>313|n=>n,λ|1=>2|3=>0|4=>1|15=>4|16=>5|17=>3|18=>6|19=>7|n=>n⟩
def Tryz.lays171:Go.Proofs.Lays.n171 Zq Tryz.lays171_ren:={
 mixed:=by kernel_rfl
 f129:=Tryz.func286.trans (Zf Y (by kernel_rfl))
 f171:=Tryz.func93.trans (Zf Y (by kernel_rfl))
 f243:=Tryz.func146.trans (Zf Y (by kernel_rfl))
 f246:=Tryz.func197.trans (Zf Y (by kernel_rfl))
 f283:=Tryz.func244.trans (Zf Y (by kernel_rfl))
 f284:=Tryz.func245.trans (Zf Y (by kernel_rfl))
 f285:=Tryz.func246.trans (Zf Y (by kernel_rfl))
 f286:=Tryz.func247.trans (Zf Y (by kernel_rfl))
 f317:=Tryz.func285.trans (Zf Y (by kernel_rfl))
 f318:=Tryz.func287.trans (Zf Y (by kernel_rfl))
 f319:=Tryz.func288.trans (Zf Y (by kernel_rfl))
 f320:=Tryz.func289.trans (Zf Y (by kernel_rfl))
 f337:=Tryz.func305.trans (Zf Y (by kernel_rfl))
 f338:=Tryz.func306.trans (Zf Y (by kernel_rfl))
 t0:=Xd
 a0:=Qw
 z0:=Qh
 v0:=Xl
 t2:=Dx
 a2:=Tryz.isAgg2
 z2:=Tryz.sizeOf2
 v2:=D6
 t3:=Z6
 a3:=Y9
 z3:=Yz
 v3:=Yc
 t4:=Yd
 a4:=Xh
 z4:=Y7
 v4:=Yh
 t5:=Ym
 a5:=Xt
 z5:=Xj
 v5:=Yt
 t9:=Z5
 a9:=Y8
 z9:=Yy
 v9:=Yb
 t20:=Qf
 a20:=I4
 z20:=Ip
 v20:=Qp
 t37:=Qd
 a37:=I2
 z37:=Il
 v37:=Qn
 t46:=Yn
 a46:=Xn
 z46:=Xe
 v46:=Ys
 t51:=Xi
 a51:=Qs
 z51:=Qg
 v51:=Xq
 t53:=Ia
 a53:=Jr
 z53:=Je
 v53:=Ih
 t171:=J0
 a171:=F4
 z171:=Fi
 v171:=Dd
 t173:=Jz
 a173:=F3
 z173:=Fh
 v173:=Dc
 t212:=Jy
 a212:=F2
 z212:=Fg
 v212:=Db
 t213:=Jw
 a213:=F1
 z213:=Ff
 t232:=Jv
 a232:=F0
 z232:=Fe
 v232:=Da
 t233:=Ju
 a233:=Fz
 z233:=Fc
 v233:=J9
 g17:=by kernel_rfl
 g18:=by kernel_rfl
 g19:=by kernel_rfl}
def Tryz.lays155_ren:Go.Shelf.Ren:=⟨λ|138=>299|143=>300|154=>273|155=>231|165=>252|166=>43|169=>38|195=>311|197=>85|217=>223|218=>312|219=>313|224=>179|225=>180|240=>83|241=>294|260=>127|266=>267|267=>315|276=>126|277=>307|314=>317|n=>n,λ|0=>0|3=>3|4=>4|5=>5|9=>9|20=>20|21=>21|37=>33|46=>208|51=>291|70=>78|72=>80|75=>91|76=>92|80=>82|105=>141|119=>207|127=>132|138=>210|139=>211|146=>294|164=>174|n=>n,λ|1=>2|3=>0|4=>1|15=>4|16=>5|17=>3|18=>6|19=>7|n=>n⟩
def Tryz.lays155:Go.Proofs.Lays.n155 Zq Tryz.lays155_ren:={
 mixed:=by kernel_rfl
 f138:=Tryz.func299.trans (Zf Y (by kernel_rfl))
 f143:=Tryz.func300.trans (Zf Y (by kernel_rfl))
 f154:=Tryz.func273.trans (Zf Y (by kernel_rfl))
 f155:=Tryz.func231.trans (Zf Y (by kernel_rfl))
 f165:=Tryz.func252.trans (Zf Y (by kernel_rfl))
 f166:=Tryz.func43.trans (Zf Y (by kernel_rfl))
 f169:=Tryz.func38.trans (Zf Y (by kernel_rfl))
 f195:=Tryz.func311.trans (Zf Y (by kernel_rfl))
 f197:=Tryz.func85.trans (Zf Y (by kernel_rfl))
 f217:=Tryz.func223.trans (Zf Y (by kernel_rfl))
 f218:=Tryz.func312.trans (Zf Y (by kernel_rfl))
 f219:=Tryz.func313.trans (Zf Y (by kernel_rfl))
 f224:=Tryz.func179.trans (Zf Y (by kernel_rfl))
 f225:=Tryz.func180.trans (Zf Y (by kernel_rfl))
 f240:=Tryz.func83.trans (Zf Y (by kernel_rfl))
 f241:=Tryz.func294.trans (Zf Y (by kernel_rfl))
 f260:=Tryz.func127.trans (Zf Y (by kernel_rfl))
 f266:=Tryz.func267.trans (Zf Y (by kernel_rfl))
 f267:=Tryz.func315.trans (Zf Y (by kernel_rfl))
 f276:=Tryz.func126.trans (Zf Y (by kernel_rfl))
 f277:=Tryz.func307.trans (Zf Y (by kernel_rfl))
 f314:=Tryz.func317.trans (Zf Y (by kernel_rfl))
 t0:=Xd
 a0:=Qw
 z0:=Qh
 v0:=Xl
 t3:=Z6
 a3:=Y9
 z3:=Yz
 v3:=Yc
 t4:=Yd
 a4:=Xh
 z4:=Y7
 v4:=Yh
 t5:=Ym
 a5:=Xt
 z5:=Xj
 v5:=Yt
 t9:=Z5
 a9:=Y8
 z9:=Yy
 v9:=Yb
 t20:=Qf
 a20:=I4
 z20:=Ip
 v20:=Qp
 t21:=Qe
 a21:=I3
 z21:=Im
 v21:=Qo
 t37:=Qd
 a37:=I2
 z37:=Il
 v37:=Qn
 t46:=Yn
 a46:=Xn
 z46:=Xe
 v46:=Ys
 t51:=Xi
 a51:=Qs
 z51:=Qg
 v51:=Xq
 t70:=Dm
 a70:=Tryz.isAgg78
 z70:=Fy
 v70:=Dw
 t72:=Dl
 a72:=Tryz.isAgg80
 z72:=Fw
 v72:=Dv
 t75:=Ik
 a75:=Dp
 z75:=Jp
 v75:=Iu
 t76:=Ij
 a76:=Do
 z76:=Jo
 v76:=Ir
 t105:=J5
 a105:=F9
 z105:=Fp
 v105:=Dh
 t119:=J3
 a119:=F7
 z119:=Fl
 t127:=Ib
 a127:=Js
 z127:=Jf
 v127:=Ii
 t138:=J2
 a138:=F6
 z138:=Fk
 v138:=Df
 t139:=J1
 a139:=F5
 z139:=Fj
 v139:=De
 t146:=Q9
 a146:=Jq
 z146:=Jd
 v146:=Ig
 t164:=J4
 a164:=F8
 z164:=Fo
 v164:=Dg
 g1:=by kernel_rfl
 g3:=by kernel_rfl
 g4:=by kernel_rfl}
def Tryz.lays100_ren:Go.Shelf.Ren:=⟨λ|100=>232|207=>274|n=>n,λ|3=>3|4=>4|9=>9|n=>n,λ|1=>2|3=>0|4=>1|15=>4|16=>5|17=>3|18=>6|19=>7|n=>n⟩
def Tryz.lays100:Go.Proofs.Lays.n100 Zq Tryz.lays100_ren:={
 mixed:=by kernel_rfl
 f100:=Tryz.func232.trans (Zf Y (by kernel_rfl))
 f207:=Tryz.func274.trans (Zf Y (by kernel_rfl))
 t3:=Z6
 a3:=Y9
 z3:=Yz
 v3:=Yc
 t4:=Yd
 a4:=Xh
 z4:=Y7
 v4:=Yh
 t9:=Z5
 a9:=Y8
 z9:=Yy
 v9:=Yb}
def Tryz.lays105_ren:Go.Shelf.Ren:=⟨λ|99=>182|105=>203|165=>252|166=>43|169=>38|170=>253|206=>228|212=>251|240=>83|241=>294|263=>292|264=>293|276=>126|277=>307|n=>n,λ|0=>0|3=>3|4=>4|5=>5|9=>9|20=>20|37=>33|46=>208|51=>291|53=>255|70=>78|72=>80|75=>91|76=>92|80=>82|109=>264|127=>132|146=>294|148=>296|164=>174|n=>n,λ|1=>2|3=>0|4=>1|15=>4|16=>5|17=>3|18=>6|19=>7|n=>n⟩
def Tryz.lays105:Go.Proofs.Lays.n105 Zq Tryz.lays105_ren:={
 mixed:=by kernel_rfl
 f99:=Tryz.func182.trans (Zf Y (by kernel_rfl))
 f105:=Tryz.func203.trans (Zf Y (by kernel_rfl))
 f165:=Tryz.func252.trans (Zf Y (by kernel_rfl))
 f166:=Tryz.func43.trans (Zf Y (by kernel_rfl))
 f169:=Tryz.func38.trans (Zf Y (by kernel_rfl))
 f170:=Tryz.func253.trans (Zf Y (by kernel_rfl))
 f206:=Tryz.func228.trans (Zf Y (by kernel_rfl))
 f212:=Tryz.func251.trans (Zf Y (by kernel_rfl))
 f240:=Tryz.func83.trans (Zf Y (by kernel_rfl))
 f241:=Tryz.func294.trans (Zf Y (by kernel_rfl))
 f263:=Tryz.func292.trans (Zf Y (by kernel_rfl))
 f264:=Tryz.func293.trans (Zf Y (by kernel_rfl))
 f276:=Tryz.func126.trans (Zf Y (by kernel_rfl))
 f277:=Tryz.func307.trans (Zf Y (by kernel_rfl))
 t0:=Xd
 a0:=Qw
 z0:=Qh
 v0:=Xl
 t3:=Z6
 a3:=Y9
 z3:=Yz
 v3:=Yc
 t4:=Yd
 a4:=Xh
 z4:=Y7
 v4:=Yh
 t5:=Ym
 a5:=Xt
 z5:=Xj
 v5:=Yt
 t9:=Z5
 a9:=Y8
 z9:=Yy
 v9:=Yb
 t20:=Qf
 a20:=I4
 z20:=Ip
 v20:=Qp
 t37:=Qd
 a37:=I2
 z37:=Il
 v37:=Qn
 t46:=Yn
 a46:=Xn
 z46:=Xe
 v46:=Ys
 t51:=Xi
 a51:=Qs
 z51:=Qg
 v51:=Xq
 t53:=Ia
 a53:=Jr
 z53:=Je
 v53:=Ih
 t70:=Dm
 a70:=Tryz.isAgg78
 z70:=Fy
 v70:=Dw
 t72:=Dl
 a72:=Tryz.isAgg80
 z72:=Fw
 v72:=Dv
 t75:=Ik
 a75:=Dp
 z75:=Jp
 v75:=Iu
 t76:=Ij
 a76:=Do
 z76:=Jo
 v76:=Ir
 t109:=Tryz.underlying264
 a109:=Tryz.isAgg264
 z109:=Tryz.sizeOf264
 v109:=Tryz.zeroValue264
 t127:=Ib
 a127:=Js
 z127:=Jf
 v127:=Ii
 t146:=Q9
 a146:=Jq
 z146:=Jd
 v146:=Ig
 t148:=Tryz.underlying296
 a148:=Tryz.isAgg296
 z148:=Tryz.sizeOf296
 v148:=Tryz.zeroValue296
 t164:=J4
 a164:=F8
 z164:=Fo
 v164:=Dg}
end Go.Proofs
namespace Go.Proofs.YthbpjmogdonlkaaGreatDoor
section
open Go Go.Eng Go.RowKit
def A7(s:Zh):Prop:=∀(j:E) b,s.data.toList[j]? =Y b->b.toNat<128
def A7.ext{s:Zh}(h:A7 s)(i j:E):A7 (s.extract i j):=by
 intro k b hk;have hm:=Xa hk;have h2:b∈s.data.toList:=by
  have e:(s.extract i j).data.toList=(s.data.toList.drop i).take (j-i):=by simp[List.extract_eq_take_drop]
  rw[e]at hm;exact Qz (Ji hm)
 obtain⟨n,hn,e⟩:=Jn h2;exact h n b (by rw[Xz hn,e])
def Vc9{G:Gh}{w w':Zx}(hw:Wf G w)(h:Below w.heap.size w w'):Iv G w G w'/\Wf G w'/\∀ κ,Keep G w G w' κ:=by
 have hU:∀ k,0<G.U k->k<w.heap.size:=λk hk=>by
  rcases Zl k w.heap.size with h|h
  ·exact h
  ·rw[hw.zero k h]at hk;omega
 have hk:∀ κ,Keep G w G w' κ:=λκ=>⟨rfl,λb hb=>⟨h.block b (hw.lt κ b hb),rfl⟩⟩
 refine⟨⟨⟨λ_=>Yr _,⟨λb o ho=>World.cell?_of_block (h.block b (hU b kv)),λb es c h1 h2=>(h.block b (hU b kv)).trans h2,λb e h1 ⟨arr,m,h2⟩=>⟨arr,m,(h.block b (hU b kv)).trans h2⟩,λb o n h1 _ ⟨arr,e,lo,hi,h2,h3⟩=>⟨arr,e,lo,hi,(h.block b (hU b kv)).trans h2,h3⟩,λb e h1 _ ⟨arr,h2⟩=>⟨arr,(h.block b (hU b kv)).trans h2⟩⟩,h.size,h.os,by rw[h.tape],h.output,λ_ _=>rfl,λ_=>Yr _,λκ _ _=>hk κ⟩,
  λb hb _=>⟨h.block b hb,rfl⟩,λκ b hb=>.inl ⟨κ,hb⟩⟩,⟨hw.inj,λκ b hb=>Nat.lt_of_lt_of_le (hw.lt κ b hb) h.size,λb hb=>hw.zero b (Bi h.size hb)⟩,hk⟩
def Vcu{P:Zj}{f:Qr}{args:D SV}{vs:Yj Yq}{res:SV}{v:Yq}(he:Vij P f)(hargs:∀(G:Gh)(w:Zx)(us:D Yq),D5 G w args us->us.toArray=vs)(hres:∀(G:Gh)(w:Zx),Xv G w res v)
  (h:∀ w,Calls P f vs w λe w'=>e=.returned v/\Below w.heap.size w w'):Va1 P f args [] [] res [] []:=by
 refine⟨he,λG w us hw hr _ _=>?_⟩;rw[hargs G w us hr];refine(h w).mono ?_;rintro e w' ⟨rfl,hb⟩;obtain⟨s1,s2,s3⟩:=Vc9 hw hb;exact⟨v,G,rfl,s1,s2,hres G _,ku,λi _=>s3 _,λ_ _=>rfl,λκ=>rfl⟩
def args1{G:Gh}{w:Zx}{s:Zh}{us:D Yq}(h:D5 G w [jS s] us):us.toArray=#[.string s]:=by
 obtain⟨u,l,rfl,h1,h2⟩:=h;have h3:l=[]:=h2;subst h3;rw[h1.1]
def args2{G:Gh}{w:Zx}{s:Zh}{c:J}{us:D Yq}(h:D5 G w [jS s,.av (.val (.int .u8 c))] us):us.toArray=#[.string s,.int .u8 c]:=by
 obtain⟨u,l,rfl,h1,h2⟩:=h;obtain⟨u2,l2,rfl,h3,h4⟩:=h2;have h5:l2=[]:=h4;subst h5;rw[h1.1,h3.1]
def Vrz{G:Gh}{w:Zx}{s t:Zh}{us:D Yq}(h:D5 G w [jS s,jS t] us):us.toArray=#[.string s,.string t]:=by
 obtain⟨u,l,rfl,h1,h2⟩:=h;obtain⟨u2,l2,rfl,h3,h4⟩:=h2;have h5:l2=[]:=h4;subst h5;rw[h1.1,h3.1]
def idxB(s:Zh)(c:J):Int:=Qt s.data.toList c.toNat.toUInt8
def Vj9(s:Zh)(c:J):Va1 Zq 171 [jS s,.av (.val (.int .u8 c))] [] [] (jI (idxB s c)) [] []:=by
 refine Vcu ⟨Tryz.f171,Tryz.func171,kx,kx⟩ (λG w us h=>args2 h) (λG w=>⟨rfl,rfl⟩) (λw=>?_);refine(Any.strings_IndexByte Tryz.lays137 s c w).mono λe w' ⟨he,hw⟩=>⟨he,by rw[hw];exact Below.refl _ _⟩
def hpxB(s p:Zh):Bool:=Lib.hasPrefix s.data.toList p.data.toList
def Vcj(s p:Zh):Va1 Zq 182 [jS s,jS p] [] [] (jB (hpxB s p)) [] []:=by
 refine Vcu ⟨Tryz.f182,Tryz.func182,kx,kx⟩ (λG w us h=>Vrz h) (λG w=>⟨rfl,rfl⟩) (λw=>?_);refine(Any.strings_HasPrefix Tryz.lays99 s p w).mono λe w' ⟨he,hw⟩=>⟨he,by rw[hw];exact Below.refl _ _⟩
def idxA(s p:Zh):Int:=Q7 s.data.toList p.data.toList
def zero256:∀ w,(zeroValue (Tryz.lays153_ren.t 116)).run Zq w=.ok (.agg (Xm 256 (.bool V))) w:=λw=>by
 have h:Van Zq (Tryz.lays153_ren.t 116)=Y (256,256,Y (.agg (Xm 256 (.bool V)))):=kx;exact Var h w
def info256:(Tryz.prog.info? (Tryz.lays153_ren.t 116)).map (·.size)=Y 256:=kx
def ctnA(s p:Zh):Bool:=Lib.containsAny s.data.toList p.data.toList
def trmB(s p:Zh):ByteArray:=⟨(Be s.data.toList p.data.toList).toArray⟩
def Vin(s p:Zh)(hs:s.size<=1073741824)(hp:p.size<=1073741824)(hap:A7 p):Va1 Zq 22 [jS s,jS p] [] [] (jS (trmB s p)) [] []:=by
 refine Vcu ⟨Tryz.f22,Tryz.func22,kx,kx⟩ (λG w us h=>Vrz h) (λG w=>⟨rfl,rfl⟩) (λw=>?_);refine(Any.strings_Trim_ascii Tryz.lays160 zero256 info256 s p w kv kv hap).mono λe w' ⟨he,hw⟩=>⟨he,hw⟩
def idxB_lt:∀(l:D UInt8)(c:UInt8), -1<=Qt l c/\Qt l c<l.length
 |[],c=>by simp[Qt]
 |x::l,c=>by
  have h:=idxB_lt l c;simp only[Qt,D2]
  split
  ·omega
  ·split <;>omega
def idxB_bd(s:Zh)(c:J): -1<=idxB s c/\idxB s c<s.size:=by
 have h:=idxB_lt s.data.toList c.toNat.toUInt8;have e:=Jl s;unfold idxB;omega
def idxA_lt:∀(l p:D UInt8), -1<=Q7 l p/\Q7 l p<l.length
 |[],p=>by simp[Q7]
 |x::l,p=>by
  have h:=idxA_lt l p;simp only[Q7,D2]
  split
  ·omega
  ·split <;>omega
def Vlj(s p:Zh): -1<=idxA s p/\idxA s p<s.size:=by
 have h:=idxA_lt s.data.toList p.data.toList;have e:=Jl s;unfold idxA;omega
def trmS_sub(l p:D UInt8):(Be l p).Sublist l:=by
 refine(I7 _).trans ?_;have h:=I7 (p.contains ·) (l:=l.reverse);have h2:=h.reverse;rw[List.reverse_reverse]at h2;exact h2
def Veu(s p:Zh):(trmB s p).size<=s.size:=by
 have h:=(trmS_sub s.data.toList p.data.toList).length_le;have e:=Jl s;have e2:=Jl (trmB s p);have e3:(trmB s p).data.toList=Be s.data.toList p.data.toList:=rfl;rw[e3]at e2;omega
def A7.trm{s:Zh}(h:A7 s)(p:Zh):A7 (trmB s p):=by
 intro k b hk;have h2:=(trmS_sub s.data.toList p.data.toList).subset (Xa hk);obtain⟨n,hn,e⟩:=Jn h2;exact h n b (by rw[Xz hn,e])
def A7.lit{s:Zh}(h:s.data.toList.all (λb=>b.toNat<128)=R):A7 s:=by
 intro k b hk;have:=Zz.1 h b (Xa hk);simpa using this
def Vf0(s:Zh)(F:E->J->J)(hF:∀ n v,F (n+1) v=v\/(v<(s.size:J)/\F (n+1) v=F n (v+1))):∀(n:E)(v:J),0<=v->s.size-v.toNat<n->v<=F n v/\(F n v<=s.size\/F n v<=v)
 |0,v,h0,h1=>by omega
 |n+1,v,h0,h1=>by
  rcases hF n v with h|⟨h2,h⟩
  ·rw[h];omega
  ·have:=Vf0 s F hF n (v+1) kv kv;rw[h];omega
def cond_or2{a y:Zs}(h:Zg a R y=R):a=R\/y=true:=by cases a <;>simp_all
def Vcz{a b:Prop}(h:a=b)(p:a):b:=h ▸ p
attribute [irreducible] idxB hpxB idxA ctnA trmB
end
section
open Go Go.Eng
def Vke(s:Zh)(i:J)(h:0<=i):i<=wrdA s i/\(wrdA s i<=s.size\/wrdA s i<=i):=by
 refine Vf0 s (wrdA_L0 s i) (λn v=>?_) _ i h kv;rw[wrdA_L0];refine Va5 (λr:J=>r=v\/(v<(s.size:J)/\r=wrdA_L0 s i n (v+1))) (λq=>?_) (λq=>.inl rfl)
 first
 |exact .inr ⟨Zd (Va9 q).1,rfl⟩
 |(have q1:=Zd q;exact Va5 (λr:J=>r=v\/(v<(s.size:J)/\r=wrdA_L0 s i n (v+1))) (λ_=>.inl rfl) (λ_=>.inr ⟨q1,rfl⟩))
 |(have q1:=Zd q;exact Va5 (λr:J=>r=v\/(v<(s.size:J)/\r=wrdA_L0 s i n (v+1))) (λ_=>.inr ⟨q1,rfl⟩) (λ_=>.inl rfl))
def Vc4(s:Zh)(i:J)(h:0<=i):i<=skpS s i/\(skpS s i<=s.size\/skpS s i<=i):=by
 refine Vf0 s (skpS_L0 s i) (λn v=>?_) _ i h kv;rw[skpS_L0];refine Va5 (λr:J=>r=v\/(v<(s.size:J)/\r=skpS_L0 s i n (v+1))) (λq=>?_) (λq=>.inl rfl)
 first
 |exact .inr ⟨Zd (Va9 q).1,rfl⟩
 |(have q1:=Zd q;exact Va5 (λr:J=>r=v\/(v<(s.size:J)/\r=skpS_L0 s i n (v+1))) (λ_=>.inl rfl) (λ_=>.inr ⟨q1,rfl⟩))
 |(have q1:=Zd q;exact Va5 (λr:J=>r=v\/(v<(s.size:J)/\r=skpS_L0 s i n (v+1))) (λ_=>.inr ⟨q1,rfl⟩) (λ_=>.inl rfl))
def Vf3(s:Zh)(i:J)(h:0<=i):i<=runE s i/\(runE s i<=s.size\/runE s i<=i):=by
 refine Vf0 s (runE_L0 s i) (λn v=>?_) _ i h kv;rw[runE_L0];refine Va5 (λr:J=>r=v\/(v<(s.size:J)/\r=runE_L0 s i n (v+1))) (λq=>?_) (λq=>.inl rfl)
 first
 |exact .inr ⟨Zd (Va9 q).1,rfl⟩
 |(have q1:=Zd q;exact Va5 (λr:J=>r=v\/(v<(s.size:J)/\r=runE_L0 s i n (v+1))) (λ_=>.inl rfl) (λ_=>.inr ⟨q1,rfl⟩))
 |(have q1:=Zd q;exact Va5 (λr:J=>r=v\/(v<(s.size:J)/\r=runE_L0 s i n (v+1))) (λ_=>.inr ⟨q1,rfl⟩) (λ_=>.inl rfl))
def Vg0(s:Zh)(i:J)(h:0<=i):i<=nmeS s i/\(nmeS s i<=s.size\/nmeS s i<=i):=by
 refine Vf0 s (nmeS_L0 s i) (λn v=>?_) _ i h kv;rw[nmeS_L0];refine Va5 (λr:J=>r=v\/(v<(s.size:J)/\r=nmeS_L0 s i n (v+1))) (λq=>?_) (λq=>.inl rfl)
 first
 |exact .inr ⟨Zd (Va9 q).1,rfl⟩
 |(have q1:=Zd q;exact Va5 (λr:J=>r=v\/(v<(s.size:J)/\r=nmeS_L0 s i n (v+1))) (λ_=>.inl rfl) (λ_=>.inr ⟨q1,rfl⟩))
 |(have q1:=Zd q;exact Va5 (λr:J=>r=v\/(v<(s.size:J)/\r=nmeS_L0 s i n (v+1))) (λ_=>.inr ⟨q1,rfl⟩) (λ_=>.inl rfl))
def Vit(s:Zh)(i:J)(h:0<=i):i<=skpL s i/\(skpL s i<=s.size\/skpL s i<=i):=by
 refine Vf0 s (skpL_L0 s i) (λn v=>?_) _ i h kv;rw[skpL_L0];refine Va5 (λr:J=>r=v\/(v<(s.size:J)/\r=skpL_L0 s i n (v+1))) (λq=>?_) (λq=>.inl rfl)
 first
 |exact .inr ⟨Zd (Va9 q).1,rfl⟩
 |(have q1:=Zd q;exact Va5 (λr:J=>r=v\/(v<(s.size:J)/\r=skpL_L0 s i n (v+1))) (λ_=>.inl rfl) (λ_=>.inr ⟨q1,rfl⟩))
 |(have q1:=Zd q;exact Va5 (λr:J=>r=v\/(v<(s.size:J)/\r=skpL_L0 s i n (v+1))) (λ_=>.inr ⟨q1,rfl⟩) (λ_=>.inl rfl))
def bslP(s:Zh)(i:J):(DInline×J):=Zg (O ((i+1:J)>=((Ze s:E):J))) (DInline.mk 0 (⟨#[]⟩) (⟨#[]⟩) (⟨#[]⟩) (DAttr.mk (⟨#[]⟩) ([]) ([])) ([]) ([]) ([]),0) (Zg (((Yw s (Zc (i+1)):E):J)==10) (DInline.mk 3 (⟨#[]⟩) (⟨#[]⟩) (⟨#[]⟩) (DAttr.mk (⟨#[]⟩) ([]) ([])) ([]) ([]) ([]),skpS s (i+2)) (Zg (Zg (O (((Yw s (Zc (i+1)):E):J)<128)) (pncC (IntKind.i64.wrap ((Yw s (Zc (i+1)):E):J))) V) (DInline.mk 1 (Zi s (Zc (i+1)) (Zc (i+2))) (⟨#[]⟩) (⟨#[]⟩) (DAttr.mk (⟨#[]⟩) ([]) ([])) ([]) ([]) ([]),i+2) (DInline.mk 0 (⟨#[]⟩) (⟨#[]⟩) (⟨#[]⟩) (DAttr.mk (⟨#[]⟩) ([]) ([])) ([]) ([]) ([]),0)))
def bslP_to(s:Zh)(i:J)(hs:s.size<=1073741824)(h0:0<=i)(h1:i<s.size):Va1 Zq 132 [(jS s),(jI i)] [] [] (.av (.tup [(Vaq ((bslP s i).1)),(vI ((bslP s i).2))])) [] []:=by
 refine BEG (λr:(DInline×J)=>(.av (.tup [(Vaq r.1),(vI r.2)]))) (bslP s i) Tryz.func132 kx ?_;refine UF (bslP.eq_1 ..) ?_;refine GO (t8 (wrE (i+1) (i+1) kv) i6) kx ?_;refine CSd (λh1p h1=>?_) (λh1p h1=>?_)
 ·refine GO (kb h1 i6) kx ?_;exact EN kx
 ·refine GO (kb h1<|p8 (wrE (i+1) (i+1) kv)<|kp (ib s (i+1) kv) m5) kx ?_;refine CSe (λh2p h2=>?_) (λh2p h2=>?_)
  ·have:=Vc4 s (i+2) gk;refine GO (kb h2<|t8 (wrE (i+2) (i+2) kv)<|kc (Vkv s (i+2) ky ky ky) j6) kx ?_;exact EN kx
  ·refine GO (kb h2<|p8 (wrE (i+1) (i+1) kv)<|kp (ib s (i+1) kv)<|wq (O (((Yw s (Zc (i+1)):E):J)<128)) (dq (λh=>by have j0:=h.2;have j0p:=Zd j0;exact(wrE (i+1) (i+1) kv))<|hp (λh=>by have j0:=h.2;have j0p:=Zd j0;exact(ib s (i+1) kv))<|tn 1<|hc (λh=>by have j0:=h.2;have j0p:=Zd j0;have:=Vbm s (Zc (i+1));have:=Vcm s (Zc (i+1));exact(Vfz (IntKind.i64.wrap ((Yw s (Zc (i+1)):E):J)))) z) z z) kx ?_;refine CS (λh3=>?_) (λh3=>?_)
   ·obtain⟨h3a,h3o⟩:=Va9 h3;have h3ap:=Zd h3a;have:=Vai s (Zc (i+1)) (Zc (i+2));refine GO (kb h3<|p8 (wrE (i+1) (i+1) kv)<|m6 (wrE (i+2) (i+2) kv)<|kp (show 0<=(i+1:J)/\(i+1:J)<=i+2/\i+2<=((Ze s:E):J)from(by first|omega|(simp only[Va6,Y6];omega)))<|p8 (wrE (i+2) (i+2) kv) j6) kx ?_;exact EN kx
   ·refine GO (kb h3 i6) kx ?_;exact EN kx
def citF(part:Zh):(DCited×Zs):=Zg (Zg (O ((idxB part 64:J)<0)) R (O ((idxB (Zi part (Zc ((idxB part 64)+1)) (Ze part)) 64:J)>=0))) (DCited.mk (⟨#[]⟩) (⟨#[]⟩) (⟨#[]⟩) V,V) (Zg (Zg (O ((idxB part 64:J)>0)) (((Yw part (Zc ((idxB part 64)-1)):E):J)==45) V) (Zg (Zg (O (((idxB part 64)-1:J)>0)) (((Yw part (Zc (((idxB part 64)-1)-1)):E):J) !=32) V) (DCited.mk (⟨#[]⟩) (⟨#[]⟩) (⟨#[]⟩) V,V) (Zg (!namA (Zi part (Zc ((idxB part 64)+1)) (Zc (nmeS part ((idxB part 64)+1))))) (DCited.mk (⟨#[]⟩) (⟨#[]⟩) (⟨#[]⟩) V,V) (DCited.mk (Zi part (Zc ((idxB part 64)+1)) (Zc (nmeS part ((idxB part 64)+1)))) (trmB (Zi part 0 (Zc ((idxB part 64)-1))) (⟨#[32]⟩)) (trmB (Zi part (Zc (nmeS part ((idxB part 64)+1))) (Ze part)) (⟨#[32]⟩)) R,R))) (Zg (Zg (O ((idxB part 64:J)>0)) (((Yw part (Zc ((idxB part 64)-1)):E):J) !=32) V) (DCited.mk (⟨#[]⟩) (⟨#[]⟩) (⟨#[]⟩) V,V) (Zg (!namA (Zi part (Zc ((idxB part 64)+1)) (Zc (nmeS part ((idxB part 64)+1))))) (DCited.mk (⟨#[]⟩) (⟨#[]⟩) (⟨#[]⟩) V,V) (DCited.mk (Zi part (Zc ((idxB part 64)+1)) (Zc (nmeS part ((idxB part 64)+1)))) (trmB (Zi part 0 (Zc (idxB part 64))) (⟨#[32]⟩)) (trmB (Zi part (Zc (nmeS part ((idxB part 64)+1))) (Ze part)) (⟨#[32]⟩)) V,R))))
def citF_to(part:Zh)(hpart:part.size<=1073741824):Va1 Zq 235 [(jS part)] [] [] (.av (.tup [(cCited ((citF part).1)),(vB ((citF part).2))])) [] []:=by
 refine BEG (λr:(DCited×Zs)=>(.av (.tup [(cCited r.1),(vB r.2)]))) (citF part) Tryz.func235 kx ?_;refine UF (citF.eq_1 ..) ?_;have:=idxB_bd part 64;refine GO (m8 (Vj9 part 64)<|j8 (O ((idxB part 64:J)<0)) z (dq (λh=>by have j0:=h.2;have j0p:=Zk j0;exact(wrE ((idxB part 64)+1) ((idxB part 64)+1) kv))<|hp (λh=>by have j0:=h.2;have j0p:=Zk j0;have:=Vai part (Zc ((idxB part 64)+1)) (Ze part);exact(show 0<=((idxB part 64)+1:J)/\((idxB part 64)+1:J)<=((Ze part:E):J)/\((Ze part:E):J)<=((Ze part:E):J)from(by first|omega|(simp only[Va6,Y6];omega))))<|kc (Vj9 (Zi part (Zc ((idxB part 64)+1)) (Ze part)) 64) m5) z) kx ?_;refine CS (λh1=>?_) (λh1=>?_)
 ·refine GO (kb h1 i6) kx ?_;exact EN kx
 ·obtain⟨h1a,h1o⟩:=Va8 h1;have h1ap:=Zk h1a;have h1op:=Zk h1o;refine GO (kb h1<|tn 6<|kj (O ((idxB part 64:J)>0)) (dq (λh=>by have j0:=h.2;have j0p:=Zd j0;exact(wrE ((idxB part 64)-1) ((idxB part 64)-1) kv))<|hp (λh=>by have j0:=h.2;have j0p:=Zd j0;exact(ib part ((idxB part 64)-1) kv)) m5) z z) kx ?_;refine CS (λh2=>?_) (λh2=>?_)
  ·obtain⟨h2a,h2o⟩:=Va9 h2;have h2ap:=Zd h2a;have h2op:=eq_of_beq h2o;refine GO (kb h2<|t8 (wrE ((idxB part 64)-1) ((idxB part 64)-1) kv)<|j8 (O (((idxB part 64)-1:J)>0)) (dq (λh=>by have j0:=h.2;have j0p:=Zd j0;exact(wrE (((idxB part 64)-1)-1) (((idxB part 64)-1)-1) kv))<|hp (λh=>by have j0:=h.2;have j0p:=Zd j0;exact(ib part (((idxB part 64)-1)-1) kv)) m5) z z) kx ?_;refine CS (λh3=>?_) (λh3=>?_)
   ·obtain⟨h3a,h3o⟩:=Va9 h3;have h3ap:=Zd h3a;have h3op:=Z2.1 h3o;refine GO (kb h3 i6) kx ?_;exact EN kx
   ·have:=Vg0 part ((idxB part 64)+1) gk;have:=Vai part (Zc ((idxB part 64)+1)) (Zc (nmeS part ((idxB part 64)+1)));have:=Vai part 0 (Zc ((idxB part 64)-1));have:=Veu (Zi part 0 (Zc ((idxB part 64)-1))) (⟨#[32]⟩);have:=Vai part (Zc (nmeS part ((idxB part 64)+1))) (Ze part);have:=Veu (Zi part (Zc (nmeS part ((idxB part 64)+1))) (Ze part)) (⟨#[32]⟩);refine GO (kb h3<|p8 (wrE ((idxB part 64)+1) ((idxB part 64)+1) kv)<|kc (Voy part ((idxB part 64)+1) ky ky ky)<|t8 (wrE ((idxB part 64)+1) ((idxB part 64)+1) kv)<|p9 (show 0<=((idxB part 64)+1:J)/\((idxB part 64)+1:J)<=nmeS part ((idxB part 64)+1)/\nmeS part ((idxB part 64)+1)<=((Ze part:E):J)from(by first|omega|(simp only[Va6,Y6];omega)))<|z8 (show 0<=(0:J)/\(0:J)<=(idxB part 64)-1/\(idxB part 64)-1<=((Ze part:E):J)from(by first|omega|(simp only[Va6,Y6];omega)))<|kc (Vin (Zi part 0 (Zc ((idxB part 64)-1))) (⟨#[32]⟩) ky ky (by repeat (first|assumption|(with_reducible apply A7.ext)|(with_reducible apply A7.trm)|exact A7.lit gj)))<|z8 (show 0<=(nmeS part ((idxB part 64)+1):J)/\(nmeS part ((idxB part 64)+1):J)<=((Ze part:E):J)/\((Ze part:E):J)<=((Ze part:E):J)from(by first|omega|(simp only[Va6,Y6];omega)))<|kc (Vin (Zi part (Zc (nmeS part ((idxB part 64)+1))) (Ze part)) (⟨#[32]⟩) ky ky (by repeat (first|assumption|(with_reducible apply A7.ext)|(with_reducible apply A7.trm)|exact A7.lit gj)))<|cq (Vdl (Zi part (Zc ((idxB part 64)+1)) (Zc (nmeS part ((idxB part 64)+1)))) ky) m5) kx ?_;refine CS (λh4=>?_) (λh4=>?_)
    ·have h4n:=nott h4;refine GO (kb h4 i6) kx ?_;exact EN kx
    ·have h4n:=notf h4;refine GO (kb h4 i6) kx ?_;exact EN kx
  ·refine GO (kb h2<|t7 (O ((idxB part 64:J)>0)) (dq (λh=>by have j0:=h.2;have j0p:=Zd j0;exact(wrE ((idxB part 64)-1) ((idxB part 64)-1) kv))<|hp (λh=>by have j0:=h.2;have j0p:=Zd j0;exact(ib part ((idxB part 64)-1) kv)) m5) z z) kx ?_;refine CS (λh5=>?_) (λh5=>?_)
   ·obtain⟨h5a,h5o⟩:=Va9 h5;have h5ap:=Zd h5a;have h5op:=Z2.1 h5o;refine GO (kb h5 i6) kx ?_;exact EN kx
   ·have:=Vg0 part ((idxB part 64)+1) gk;have:=Vai part (Zc ((idxB part 64)+1)) (Zc (nmeS part ((idxB part 64)+1)));have:=Vai part 0 (Zc (idxB part 64));have:=Veu (Zi part 0 (Zc (idxB part 64))) (⟨#[32]⟩);have:=Vai part (Zc (nmeS part ((idxB part 64)+1))) (Ze part);have:=Veu (Zi part (Zc (nmeS part ((idxB part 64)+1))) (Ze part)) (⟨#[32]⟩);refine GO (kb h5<|p8 (wrE ((idxB part 64)+1) ((idxB part 64)+1) kv)<|kc (Voy part ((idxB part 64)+1) ky ky ky)<|t8 (wrE ((idxB part 64)+1) ((idxB part 64)+1) kv)<|p9 (show 0<=((idxB part 64)+1:J)/\((idxB part 64)+1:J)<=nmeS part ((idxB part 64)+1)/\nmeS part ((idxB part 64)+1)<=((Ze part:E):J)from(by first|omega|(simp only[Va6,Y6];omega)))<|z8 (show 0<=(0:J)/\(0:J)<=idxB part 64/\idxB part 64<=((Ze part:E):J)from(by first|omega|(simp only[Va6,Y6];omega)))<|kc (Vin (Zi part 0 (Zc (idxB part 64))) (⟨#[32]⟩) ky ky (by repeat (first|assumption|(with_reducible apply A7.ext)|(with_reducible apply A7.trm)|exact A7.lit gj)))<|z8 (show 0<=(nmeS part ((idxB part 64)+1):J)/\(nmeS part ((idxB part 64)+1):J)<=((Ze part:E):J)/\((Ze part:E):J)<=((Ze part:E):J)from(by first|omega|(simp only[Va6,Y6];omega)))<|kc (Vin (Zi part (Zc (nmeS part ((idxB part 64)+1))) (Ze part)) (⟨#[32]⟩) ky ky (by repeat (first|assumption|(with_reducible apply A7.ext)|(with_reducible apply A7.trm)|exact A7.lit gj)))<|cq (Vdl (Zi part (Zc ((idxB part 64)+1)) (Zc (nmeS part ((idxB part 64)+1)))) ky) m5) kx ?_;refine CS (λh6=>?_) (λh6=>?_)
    ·have h6n:=nott h6;refine GO (kb h6 i6) kx ?_;exact EN kx
    ·have h6n:=notf h6;refine GO (kb h6 i6) kx ?_;exact EN kx
def nmdP(s:Zh)(i:J):(DInline×J):=Zg (Zg (O ((i+1:J)>=((Ze s:E):J))) R (Zg (((Yw s (Zc (i+1)):E):J) !=94) (((Yw s (Zc (i+1)):E):J) !=35) V)) (DInline.mk 0 (⟨#[]⟩) (⟨#[]⟩) (⟨#[]⟩) (DAttr.mk (⟨#[]⟩) ([]) ([])) ([]) ([]) ([]),0) (Zg (!namA (Zi s (Zc (i+2)) (Zc (nmeS s (i+2))))) (DInline.mk 0 (⟨#[]⟩) (⟨#[]⟩) (⟨#[]⟩) (DAttr.mk (⟨#[]⟩) ([]) ([])) ([]) ([]) ([]),0) (Zg (Zg (((Yw s (Zc (i+1)):E):J)==94) (hpxB (Zi s (Zc (nmeS s (i+2))) (Ze s)) (⟨#[93]⟩)) V) (DInline.mk 12 (Zi s (Zc (i+2)) (Zc (nmeS s (i+2)))) (⟨#[]⟩) (⟨#[]⟩) (DAttr.mk (⟨#[]⟩) ([]) ([])) ([]) ([]) ([]),(nmeS s (i+2))+1) (Zg (Zg (((Yw s (Zc (i+1)):E):J)==35) (hpxB (Zi s (Zc (nmeS s (i+2))) (Ze s)) (⟨#[93]⟩)) V) (DInline.mk 14 (Zi s (Zc (i+2)) (Zc (nmeS s (i+2)))) (⟨#[]⟩) (⟨#[]⟩) (DAttr.mk (⟨#[]⟩) ([]) ([])) ([]) ([]) ([]),(nmeS s (i+2))+1) (Zg (Zg (((Yw s (Zc (i+1)):E):J)==35) (hpxB (Zi s (Zc (nmeS s (i+2))) (Ze s)) (⟨#[32,112,97,103,101,93]⟩)) V) (DInline.mk 14 (Zi s (Zc (i+2)) (Zc (nmeS s (i+2)))) (⟨#[]⟩) (⟨#[112,97,103,101]⟩) (DAttr.mk (⟨#[]⟩) ([]) ([])) ([]) ([]) ([]),(nmeS s (i+2))+6) (DInline.mk 0 (⟨#[]⟩) (⟨#[]⟩) (⟨#[]⟩) (DAttr.mk (⟨#[]⟩) ([]) ([])) ([]) ([]) ([]),0)))))
def nmdP_to(s:Zh)(i:J)(hs:s.size<=1073741824)(h0:0<=i)(h1:i<s.size):Va1 Zq 141 [(jS s),(jI i)] [] [] (.av (.tup [(Vaq ((nmdP s i).1)),(vI ((nmdP s i).2))])) [] []:=by
 refine BEG (λr:(DInline×J)=>(.av (.tup [(Vaq r.1),(vI r.2)]))) (nmdP s i) Tryz.func141 kx ?_;refine UF (nmdP.eq_1 ..) ?_;refine GO (t8 (wrE (i+1) (i+1) kv)<|j8 (O ((i+1:J)>=((Ze s:E):J))) z (dq (λh=>by have j0:=h.2;have j0p:=Zk j0;exact(wrE (i+1) (i+1) kv))<|hp (λh=>by have j0:=h.2;have j0p:=Zk j0;exact(ib s (i+1) kv))<|wq (((Yw s (Zc (i+1)):E):J) !=94) (dq (λh=>by have j0:=h.1.2;have j0p:=Zk j0;have j1:=h.2;have j1p:=Z2.1 j1;exact(wrE (i+1) (i+1) kv))<|hp (λh=>by have j0:=h.1.2;have j0p:=Zk j0;have j1:=h.2;have j1p:=Z2.1 j1;exact(ib s (i+1) kv)) m5) z z) z) kx ?_;refine CS (λh1=>?_) (λh1=>?_)
 ·refine GO (kb h1 i6) kx ?_;exact EN kx
 ·obtain⟨h1a,h1o⟩:=Va8 h1;have h1ap:=Zk h1a;have:=Vg0 s (i+2) gk;have:=Vai s (Zc (i+2)) (Zc (nmeS s (i+2)));refine GO (kb h1<|p8 (wrE (i+2) (i+2) kv)<|kc (Voy s (i+2) ky ky ky)<|t8 (wrE (i+2) (i+2) kv)<|p9 (show 0<=(i+2:J)/\(i+2:J)<=nmeS s (i+2)/\nmeS s (i+2)<=((Ze s:E):J)from(by first|omega|(simp only[Va6,Y6];omega)))<|j7 (Vdl (Zi s (Zc (i+2)) (Zc (nmeS s (i+2)))) ky) m5) kx ?_;refine CS (λh2=>?_) (λh2=>?_)
  ·have h2n:=nott h2;refine GO (kb h2 i6) kx ?_;exact EN kx
  ·have h2n:=notf h2;have:=Vai s (Zc (nmeS s (i+2))) (Ze s);refine GO (kb h2<|p7 (show 0<=(nmeS s (i+2):J)/\(nmeS s (i+2):J)<=((Ze s:E):J)/\((Ze s:E):J)<=((Ze s:E):J)from(by first|omega|(simp only[Va6,Y6];omega)))<|t8 (wrE (i+1) (i+1) kv)<|kp (ib s (i+1) kv)<|wq (((Yw s (Zc (i+1)):E):J)==94) (n7 (Vcj (Zi s (Zc (nmeS s (i+2))) (Ze s)) (⟨#[93]⟩)) z) z m5) kx ?_;refine CS (λh3=>?_) (λh3=>?_)
   ·obtain⟨h3a,h3o⟩:=Va9 h3;have h3ap:=eq_of_beq h3a;refine GO (kb h3<|t8 (wrE ((nmeS s (i+2))+1) ((nmeS s (i+2))+1) kv) j6) kx ?_;exact EN kx
   ·refine GO (kb h3<|p8 (wrE (i+1) (i+1) kv)<|kp (ib s (i+1) kv)<|wq (((Yw s (Zc (i+1)):E):J)==35) (n7 (Vcj (Zi s (Zc (nmeS s (i+2))) (Ze s)) (⟨#[93]⟩)) z) z m5) kx ?_;refine CS (λh4=>?_) (λh4=>?_)
    ·obtain⟨h4a,h4o⟩:=Va9 h4;have h4ap:=eq_of_beq h4a;refine GO (kb h4<|t8 (wrE ((nmeS s (i+2))+1) ((nmeS s (i+2))+1) kv) j6) kx ?_;exact EN kx
    ·refine GO (kb h4<|p8 (wrE (i+1) (i+1) kv)<|kp (ib s (i+1) kv)<|wq (((Yw s (Zc (i+1)):E):J)==35) (n7 (Vcj (Zi s (Zc (nmeS s (i+2))) (Ze s)) (⟨#[32,112,97,103,101,93]⟩)) z) z m5) kx ?_;refine CS (λh5=>?_) (λh5=>?_)
     ·obtain⟨h5a,h5o⟩:=Va9 h5;have h5ap:=eq_of_beq h5a;refine GO (kb h5<|t8 (wrE ((nmeS s (i+2))+6) ((nmeS s (i+2))+6) kv) j6) kx ?_;exact EN kx
     ·refine GO (kb h5 i6) kx ?_;exact EN kx
def autP_L1(s:Zh)(i:J)(v6:J)(k0:J->(DInline×J)):E->J->(DInline×J)
 |0,_=>default
 |n1+1,w6=>Zg (Zg (Zg (Zg (Zg (O ((w6:J)<((Ze s:E):J))) (((Yw s (Zc w6):E):J) !=32) V) (((Yw s (Zc w6):E):J) !=10) V) (((Yw s (Zc w6):E):J) !=60) V) (((Yw s (Zc w6):E):J) !=62) V) (autP_L1 s i v6 k0 n1 (w6+1)) (Zg (Zg (O ((w6:J)>=((Ze s:E):J))) R (((Yw s (Zc w6):E):J) !=62)) (DInline.mk 0 (⟨#[]⟩) (⟨#[]⟩) (⟨#[]⟩) (DAttr.mk (⟨#[]⟩) ([]) ([])) ([]) ([]) ([]),0) (DInline.mk 16 (⟨#[]⟩) (Zi s (Zc (i+1)) (Zc w6)) (⟨#[]⟩) (DAttr.mk (⟨#[]⟩) ([]) ([])) ([]) ([]) ([]),w6+1))
def autP_L0(s:Zh)(i:J):E->J->(DInline×J)
 |0,_=>default
 |n0+1,v6=>Zg (Zg (O ((v6:J)<((Ze s:E):J))) (Zg (Zg (O (((Yw s (Zc v6):E):J)>=97)) (O (((Yw s (Zc v6):E):J)<=122)) V) R (Zg (O (((Yw s (Zc v6):E):J)>=65)) (O (((Yw s (Zc v6):E):J)<=90)) V)) V) (autP_L0 s i n0 (v6+1)) (Zg (Zg (Zg (Zg (O (((v6-i)-1:J)<2)) R (O (((v6-i)-1:J)>20))) R (O ((v6:J)>=((Ze s:E):J)))) R (((Yw s (Zc v6):E):J) !=58)) (DInline.mk 0 (⟨#[]⟩) (⟨#[]⟩) (⟨#[]⟩) (DAttr.mk (⟨#[]⟩) ([]) ([])) ([]) ([]) ([]),0) (autP_L1 s i v6 (autP_L0 s i n0) ((s.size-Zc v6)+1) v6))
def autP(s:Zh)(i:J):(DInline×J):=autP_L0 s i ((s.size-Zc (i+1))+1) (i+1)
def autP_to(s:Zh)(i:J)(hs:s.size<=1073741824)(h0:0<=i)(h1:i<s.size):Va1 Zq 139 [(jS s),(jI i)] [] [] (.av (.tup [(Vaq ((autP s i).1)),(vI ((autP s i).2))])) [] []:=by
 refine BEG (λr:(DInline×J)=>(.av (.tup [(Vaq r.1),(vI r.2)]))) (autP s i) Tryz.func139 kx ?_;refine UF (autP.eq_1 ..) ?_;refine GO (t8 (wrE (i+1) (i+1) kv) m5) kx ?_;refine LP (λN M S=>∃ v6:J,(i+1<=v6)/\(v6<=s.size)/\(s.size-Zc v6<N)/\M=autP_L0 s i N v6/\S=(sx 112 [(0,(jS s)),(1,(jI i)),(4,(.ptr 4 0)),(6,(jI v6))] [(4,(.cells 42 [(jI 0),(jS (⟨#[]⟩)),(jS (⟨#[]⟩)),(jS (⟨#[]⟩)),(jS (⟨#[]⟩)),.nil,.nil,.nil,.nil,.nil]))] [])) kx ⟨_,by first|omega|assumption|(simp only[Va6];omega)|(simp;done)|(simp;omega),by first|omega|assumption|(simp only[Va6];omega)|(simp;done)|(simp;omega),kv,rfl,rfl⟩ (WK kx) ?_;rintro n0 M S ⟨v6,hv,hb,hF0,rfl,rfl⟩;obtain⟨n0,rfl⟩:∃ k,n0=k+1:=⟨n0-1,kv⟩
 refine UF (autP_L0.eq_2 ..) ?_;refine GO (jq (O ((v6:J)<((Ze s:E):J))) (m9 (λh=>by have j0:=h.2;have j0p:=Zd j0;exact(ib s v6 kv))<|wq (O (((Yw s (Zc v6):E):J)>=97)) (m9 (λh=>by have j0:=h.1.2;have j0p:=Zd j0;have j1:=h.2;have j1p:=Zd j1;exact(ib s v6 kv)) m5) z<|m7 (Zg (O (((Yw s (Zc v6):E):J)>=97)) (O (((Yw s (Zc v6):E):J)<=122)) V) z (m9 (λh=>by have j0:=h.1.2;have j0p:=Zd j0;have j1:=h.2;exact(ib s v6 kv))<|wq (O (((Yw s (Zc v6):E):J)>=65)) (m9 (λh=>by have j0:=h.1.1.2;have j0p:=Zd j0;have j1:=h.1.2;have j2:=h.2;have j2p:=Zd j2;exact(ib s v6 kv)) m5) z z) z) z z) kx ?_;refine CS (λh1=>?_) (λh1=>?_)
 ·obtain⟨h1a,h1o⟩:=Va9 h1;have h1ap:=Zd h1a;refine GO (kb h1<|m6 (wrE (v6+1) (v6+1) kv) m5) kx ?_;exact AG ⟨_,by first|omega|assumption|(simp only[Va6];omega)|(simp;done)|(simp;omega),by first|omega|assumption|(simp only[Va6];omega)|(simp;done)|(simp;omega),kv,rfl,rfl⟩ (WK kx) kx (Yo _)
 ·refine GO (kb h1 z) kx ?_;refine OUT (p8 (wrE (v6-i) (v6-i) kv)<|kn (wrE ((v6-i)-1) ((v6-i)-1) kv)<|j8 (O (((v6-i)-1:J)<2)) z j6<|m7 (Zg (O (((v6-i)-1:J)<2)) R (O (((v6-i)-1:J)>20))) z i7<|m7 (Zg (Zg (O (((v6-i)-1:J)<2)) R (O (((v6-i)-1:J)>20))) R (O ((v6:J)>=((Ze s:E):J)))) z (m9 (λh=>by have j0:=h.2;obtain⟨j0a,j0o⟩:=Va8 j0;obtain⟨j0aa,j0ao⟩:=Va8 j0a;have j0aap:=Zk j0aa;have j0aop:=Zk j0ao;have j0op:=Zk j0o;exact(ib s v6 kv)) m5) z) kx ?_;refine CS (λh2=>?_) (λh2=>?_)
  ·refine GO (kb h2 i6) kx ?_;exact EN kx
  ·obtain⟨h2a,h2o⟩:=Va8 h2;obtain⟨h2aa,h2ao⟩:=Va8 h2a;obtain⟨h2aaa,h2aao⟩:=Va8 h2aa;have h2aaap:=Zk h2aaa;have h2aaop:=Zk h2aao;have h2aop:=Zk h2ao;have h2op:=Va7 h2o;refine GO (kb h2 z) kx ?_;refine LP (λN M S=>∃ w6:J,(i+1<=w6)/\(w6<=s.size)/\(s.size-Zc w6<N)/\M=autP_L1 s i v6 (autP_L0 s i n0) N w6/\S=(sx 112 [(0,(jS s)),(1,(jI i)),(4,(.ptr 4 0)),(6,(jI w6))] [(4,(.cells 42 [(jI 0),(jS (⟨#[]⟩)),(jS (⟨#[]⟩)),(jS (⟨#[]⟩)),(jS (⟨#[]⟩)),.nil,.nil,.nil,.nil,.nil]))] [])) kx ⟨_,by first|omega|assumption|(simp only[Va6];omega)|(simp;done)|(simp;omega),by first|omega|assumption|(simp only[Va6];omega)|(simp;done)|(simp;omega),kv,rfl,rfl⟩ (WK kx) ?_;rintro n1 M S ⟨w6,hv,hb,hF1,rfl,rfl⟩;obtain⟨n1,rfl⟩:∃ k,n1=k+1:=⟨n1-1,kv⟩
   refine UF (autP_L1.eq_2 ..) ?_;refine GO (jq (O ((w6:J)<((Ze s:E):J))) (m9 (λh=>by have j0:=h.2;have j0p:=Zd j0;exact(ib s w6 kv)) m5) z<|m7 (Zg (O ((w6:J)<((Ze s:E):J))) (((Yw s (Zc w6):E):J) !=32) V) (m9 (λh=>by have j0:=h.2;obtain⟨j0a,j0o⟩:=Va9 j0;have j0ap:=Zd j0a;have j0op:=Z2.1 j0o;exact(ib s w6 kv)) m5) z<|m7 (Zg (Zg (O ((w6:J)<((Ze s:E):J))) (((Yw s (Zc w6):E):J) !=32) V) (((Yw s (Zc w6):E):J) !=10) V) (m9 (λh=>by have j0:=h.2;obtain⟨j0a,j0o⟩:=Va9 j0;obtain⟨j0aa,j0ao⟩:=Va9 j0a;have j0aap:=Zd j0aa;have j0aop:=Z2.1 j0ao;have j0op:=Z2.1 j0o;exact(ib s w6 kv)) m5) z<|m7 (Zg (Zg (Zg (O ((w6:J)<((Ze s:E):J))) (((Yw s (Zc w6):E):J) !=32) V) (((Yw s (Zc w6):E):J) !=10) V) (((Yw s (Zc w6):E):J) !=60) V) (m9 (λh=>by have j0:=h.2;obtain⟨j0a,j0o⟩:=Va9 j0;obtain⟨j0aa,j0ao⟩:=Va9 j0a;obtain⟨j0aaa,j0aao⟩:=Va9 j0aa;have j0aaap:=Zd j0aaa;have j0aaop:=Z2.1 j0aao;have j0aop:=Z2.1 j0ao;have j0op:=Z2.1 j0o;exact(ib s w6 kv)) m5) z z) kx ?_;refine CS (λh3=>?_) (λh3=>?_)
   ·obtain⟨h3a,h3o⟩:=Va9 h3;obtain⟨h3aa,h3ao⟩:=Va9 h3a;obtain⟨h3aaa,h3aao⟩:=Va9 h3aa;obtain⟨h3aaaa,h3aaao⟩:=Va9 h3aaa;have h3aaaap:=Zd h3aaaa;have h3aaaop:=Z2.1 h3aaao;have h3aaop:=Z2.1 h3aao;have h3aop:=Z2.1 h3ao;have h3op:=Z2.1 h3o;refine GO (kb h3<|m6 (wrE (w6+1) (w6+1) kv) m5) kx ?_;exact AG ⟨_,by first|omega|assumption|(simp only[Va6];omega)|(simp;done)|(simp;omega),by first|omega|assumption|(simp only[Va6];omega)|(simp;done)|(simp;omega),kv,rfl,rfl⟩ (WK kx) kx (Yo _)
   ·refine GO (kb h3 z) kx ?_;refine OUT (jq (O ((w6:J)>=((Ze s:E):J))) z (m9 (λh=>by have j0:=h.2;have j0p:=Zk j0;exact(ib s w6 kv)) m5) z) kx ?_;refine CS (λh4=>?_) (λh4=>?_)
    ·refine GO (kb h4 i6) kx ?_;exact EN kx
    ·obtain⟨h4a,h4o⟩:=Va8 h4;have h4ap:=Zk h4a;have h4op:=Va7 h4o;have:=Vai s (Zc (i+1)) (Zc w6);refine GO (kb h4<|p8 (wrE (i+1) (i+1) kv)<|p9 (show 0<=(i+1:J)/\(i+1:J)<=w6/\w6<=((Ze s:E):J)from(by first|omega|(simp only[Va6,Y6];omega)))<|p8 (wrE (w6+1) (w6+1) kv) j6) kx ?_;exact EN kx
def flkB(c:Zh)(before:J)(after:J):(Zs×Zs):=Zg (Zg (eqs c (⟨#[42]⟩)) (eqs c (⟨#[42]⟩)) (eqs c (⟨#[126]⟩))) (Zg (!Zg (O ((after:J)<0)) R (spcC after)) (Zg (Zg (!pncC after) R (Zg (O ((before:J)<0)) R (spcC before))) R (pncC before)) V,Zg (!Zg (O ((before:J)<0)) R (spcC before)) (Zg (Zg (!pncC before) R (Zg (O ((after:J)<0)) R (spcC after))) R (pncC after)) V) (Zg (eqs c (⟨#[95]⟩)) (Zg (Zg (!Zg (O ((after:J)<0)) R (spcC after)) (Zg (Zg (!pncC after) R (Zg (O ((before:J)<0)) R (spcC before))) R (pncC before)) V) (Zg (!Zg (!Zg (O ((before:J)<0)) R (spcC before)) (Zg (Zg (!pncC before) R (Zg (O ((after:J)<0)) R (spcC after))) R (pncC after)) V) R (pncC before)) V,Zg (Zg (!Zg (O ((before:J)<0)) R (spcC before)) (Zg (Zg (!pncC before) R (Zg (O ((after:J)<0)) R (spcC after))) R (pncC after)) V) (Zg (!Zg (!Zg (O ((after:J)<0)) R (spcC after)) (Zg (Zg (!pncC after) R (Zg (O ((before:J)<0)) R (spcC before))) R (pncC before)) V) R (pncC after)) V) (V,V))
def flkB_to(c:Zh)(before:J)(after:J):Va1 Zq 190 [(jS c),(jI before),(jI after)] [] [] (.av (.tup [(vB ((flkB c before after).1)),(vB ((flkB c before after).2))])) [] []:=by
 refine BEG (λr:(Zs×Zs)=>(.av (.tup [(vB r.1),(vB r.2)]))) (flkB c before after) Tryz.func190 kx ?_;refine UF (flkB.eq_1 ..) ?_;refine GO (jq (O ((before:J)<0)) z (n7 (Vog before) z)<|j8 (O ((after:J)<0)) z (n7 (Vog after) z)<|j8 (!Zg (O ((after:J)<0)) R (spcC after)) (n7 (Vfz after)<|wq (!pncC after) z m5<|m7 (Zg (!pncC after) R (Zg (O ((before:J)<0)) R (spcC before))) z (n7 (Vfz before) z) z) z<|j8 (!Zg (O ((before:J)<0)) R (spcC before)) (n7 (Vfz before)<|wq (!pncC before) z m5<|m7 (Zg (!pncC before) R (Zg (O ((after:J)<0)) R (spcC after))) z (n7 (Vfz after) z) z) z<|tn 4<|ks (eqs c (⟨#[42]⟩)) [53] z j6 z) kx ?_;refine CS (λh1=>?_) (λh1=>?_)
 ·refine GO (kb h1 i7) kx ?_;exact EN kx
 ·refine GO (kb h1 j6) kx ?_;refine CS (λh2=>?_) (λh2=>?_)
  ·refine GO (kb h2<|wq (Zg (!Zg (O ((after:J)<0)) R (spcC after)) (Zg (Zg (!pncC after) R (Zg (O ((before:J)<0)) R (spcC before))) R (pncC before)) V) (t7 (!Zg (!Zg (O ((before:J)<0)) R (spcC before)) (Zg (Zg (!pncC before) R (Zg (O ((after:J)<0)) R (spcC after))) R (pncC after)) V) z (n7 (Vfz before) z) z) z<|wq (Zg (!Zg (O ((before:J)<0)) R (spcC before)) (Zg (Zg (!pncC before) R (Zg (O ((after:J)<0)) R (spcC after))) R (pncC after)) V) (t7 (!Zg (!Zg (O ((after:J)<0)) R (spcC after)) (Zg (Zg (!pncC after) R (Zg (O ((before:J)<0)) R (spcC before))) R (pncC before)) V) z (n7 (Vfz after) z) z) z j6) kx ?_;exact EN kx
  ·refine GO (kb h2 j6) kx ?_;exact EN kx
end
end Go.Proofs.YthbpjmogdonlkaaGreatDoor
namespace Go.Eng
section
section
variable {P:Zj} {α:Type}
def UI(P:Zj)(c:Jm)(ks:D Fm)(K:α->Yk->St->Prop)(M:α):E->St->Prop
 |0,_=>False
 |n+1,S=>W P c (Vq1 (UI P c ks K M n) (Kont P (K M) ks)) S
def KU(P:Zj)(c:Jm)(ks:D Fm)(K:α->Yk->St->Prop)(n:E)(M:α):Yk->St->Prop:=
 Vq1 (UI P c ks K M n) (Kont P (K M) ks)
def UN{K:α->Yk->St->Prop}{M:α}{X:Cf}(S0:St)(n:E)(hX:isLp X=R)(hw:Qv (stOf X) S0)(h:Nx P (KU P (lpC X) (lpK X) K n) M (start (lpC X) S0)):Nx P K M X:=by
 unfold isLp at hX
 split at hX
 ·rename_i c0 o0 c ks S;refine⟨W_loop (I:=λn S=>UI P c ks K M n S) (n:=n+1) hw h.x (λn S' hI=>?_)⟩;cases n with
  |zero=>exact hI.elim
  |succ n=>
   refine Vgg hI (λe S2 hq=>?_);cases e with
   |normal=>exact⟨n,S2,Yo n,λ_ _ _ h=>h,hq⟩
   |exit id=>exact hq
   |goto l=>exact hq
   |ret=>exact hq
   |panic ch=>exact hq
   |outgrown=>exact hq
 ·simp at hX
def UA{c:Jm}{ks:D Fm}{K:α->Yk->St->Prop}{M:α}{X:Cf}{n:E}(S0:St)(hX:Vp7 X=Y .normal)(hw:Qv (stOf X) S0)(h:Nx P (KU P c ks K n) M (start c S0)):Nx P (KU P c ks K (n+1)) M X:=by
 unfold Vp7 at hX
 split at hX
 ·simp only[Za]at hX;subst hX;refine⟨?_⟩;have h1:W P c (KU P c ks K n M) S0:=h.x;exact Vaj hw h1
 ·simp at hX
def UO{c:Jm}{ks:D Fm}{K:α->Yk->St->Prop}{M:α}{X:Cf}{n:E}(oc:OC)(h:csOf (outX P ks X oc.o)=Y oc.c)(hn:Nx P K M (outX P ks X oc.o)):Nx P (KU P c ks K n) M X:=by
 obtain⟨hn⟩:=hn;unfold outX at h hn
 split at h
 ·simp[csOf]at h
 ·rename_i c0 o0 e S hne;simp only at hn;cases hk:goK P ks (Y ([],oc.o,.fin e S))with
  |none=>rw[hk]at h;simp[csOf]at h
  |some r=>
   obtain⟨c2,o2,out2⟩:=r;rw[hk]at h hn;unfold csOf at h
   split at h
   ·rename_i e2;simp only[Za,Zb]at e2 h;obtain⟨rfl,rfl,rfl⟩:=e2;subst h;obtain⟨q1,q2⟩:=Vau (K M) ks _ _ _ _ _ _ hk (oc.h Yf) hn;exact⟨skipS q2 (by rintro rfl;first|exact hne rfl|exact hne _ rfl|exact hne _ _ rfl)⟩
   ·simp at h
 ·simp[csOf]at h
end
end
section
variable {P:Zj}
def Vc3{ops:Yj Zt}{o:Zt}{rest:D Zt}{Q:St->Prop}{S:St}{r:Res}(hg:o.guard=Zo)(hs:Sound P o S r)(hok:r.ok)(h:WO P ops rest Q (r.st.put o.dst r.v)):WO P ops (o::rest) Q S:=by
 refine WO_op (λG w a hr=>Vat hg a) (λG w a hr Q' next hn=>?_) h;obtain⟨nx,v,w',G',h1,h2,h3,h4,h5,h6⟩:=hs hok G w a hr;unfold Fb;rw[h1];rcases h2 with rfl|⟨rfl,rfl⟩
 ·rw[Q1];exact hn G' _ w' h3 (h4.put o.dst h5) h6
 ·rw[Jg];exact hn G' _ w' h3 (h4.put o.dst h5) h6
def run_eq_nil{t e:Qm}(ht:P.underlying t=Y (.slice e))(w:Zx)(a:Zn Addr)(n c n' c':E):(binOp .eql t (.slice a n c) (.slice Zo n' c')).run P w=.ok (.bool a.isNone) w:=by
 have h:(Op.equal t (.slice a n c) (.slice Zo n' c')).run P w=.ok a.isNone w:=by
  rw[show Op.equal t (.slice a n c) (.slice Zo n' c')=Op.equalIn (9999+1) t (.slice a n c) (.slice Zo n' c')from rfl];unfold Op.equalIn;cases a <;>simp[Va0 ht]
 simp[binOp,h]
def WO_isnil{ops:Yj Zt}{o:Zt}{rest:D Zt}{Q:St->Prop}{S:St}{t t' e:Qm}{x:Q5}{l:D AV}(ho:o.op=.binOp .eql t x (.const (.slice Zo 0 0)) t')(hg:o.guard=Zo)(ht:P.underlying t=Y (.slice e))(hx:S.ev x=.av (.sl l))
  (h:∀ b:Zs,(b=R->l=[])->WO P ops rest Q (S.put o.dst (.av (.val (.bool b))))):WO P ops (o::rest) Q S:=by
 intro more Q' G w a hr hq;have hxr:=hr.ev x;rw[hx]at hxr;simp only[Xv,Bm]at hxr;obtain⟨ad,cap,es,sz,hu,h1,h2,h3,h4⟩:=hxr;have hbl:ad.isNone=R->l=[]:=by
  intro hn;have:es=[]:=h3 (by simpa using hn);subst this;exact Qb.1 (by have:=h1.length;simpa using this.symm)
 have he:(execOp a.eval o).run P w=.ok (.value (.bool ad.isNone)) w:=by
  have e1:=run_eq_nil ht w ad l.length cap 0 0;have e2:(eqGuard .eql t x (.const (.slice Zo 0 0)) (.slice ad l.length cap) (.slice Zo 0 0)).run P w=.ok () w:=by
   unfold eqGuard;simp
  have e3:a.eval (.const (.slice Zo 0 0))=.slice Zo 0 0:=rfl;simp only[execOp,ho,hu,e3,Sem.run_bind,e2,e1,Result.andThen_ok];rfl
 simp only[Y1,wpList];rw[Z1 (Vat hg a)];refine .inl ?_;unfold Fb;rw[he,Q1];exact h ad.isNone hbl more Q' G w _ (hr.put o.dst ⟨rfl,rfl⟩) hq
def step_tok0{G:Gh}{w:Zx}(hw:Wf G w)(o:Obj){k:Xs}(hk0:0<k.2)(n:E):
  Iv G w ((G.setU w.heap.size n).next k w.heap.size) (w.alloc o)/\Wf ((G.setU w.heap.size n).next k w.heap.size) (w.alloc o)/\
   ∀κ,κ≠k->Keep G w ((G.setU w.heap.size n).next k w.heap.size) (w.alloc o) κ:=by
 obtain⟨s1,s2,s3⟩:=Vef hw o n;have how:∀ κ b,(if κ=k then Y w.heap.size else G.ow κ)=Y b->(κ=k/\b=w.heap.size)\/(κ≠k/\G.ow κ=Y b):=by
  intro κ b h
  split at h
  ·rename_i hk;simp at h;exact .inl ⟨hk,h.symm⟩
  ·rename_i hk;exact .inr ⟨hk,h⟩
 have hkp:∀ κ,κ≠k->Keep G w ((G.setU w.heap.size n).next k w.heap.size) (w.alloc o) κ:=λκ hκ=>⟨by simp only[Xk];rw[Xw hκ];rfl,λb hb=>(s3 κ).2 b hb⟩
 refine⟨⟨⟨s1.U,⟨s1.imm.cell,s1.imm.map,s1.imm.typ,s1.imm.frz,s1.imm.pln⟩,s1.size,s1.os,s1.tape,s1.output,s1.cp,λκ=>?_,λκ _ hg=>?_⟩,s1.stay,λκ b h=>?_⟩,⟨λκ κ' b h h'=>?_,λκ b h=>?_,s2.zero⟩,hkp⟩
 ·simp only[Xk,Qj];split <;>omega
 ·refine hkp κ (λe=>?_);simp only[Xk,Qj,Z1 e]at hg;omega
 ·rcases how κ b h with⟨_,rfl⟩|⟨_,h1⟩
  ·exact .inr (Yr _)
  ·exact .inl ⟨κ,h1⟩
 ·rcases how κ b h with⟨h1,h2⟩|⟨h1,h2⟩ <;>rcases how κ' b h' with⟨h3,h4⟩|⟨h3,h4⟩
  ·rw[h1,h3]
  ·have:=hw.lt κ' b h4;omega
  ·have:=hw.lt κ b h2;omega
  ·exact hw.inj κ κ' b h2 h4
 ·rcases how κ b h with⟨_,rfl⟩|⟨_,h1⟩
  ·simp
  ·have:=hw.lt κ b h1;simp;omega
def Vqa{o:Zt}{S:St}{t e:Qm}{sz bt:E}{z:Yq}(d:E)(ho:o.op=.buildSlice t 0 #[])(ht:Vbe P t=Y e)(hi:Van P e=Y (sz,bt,Y z)):Sound P o S ⟨Bb,.own (d,e+1) (S.gen (d,e+1)+1) sz [],S.next (d,e+1)⟩:=by
 intro _ G w a hr;have ht':P.underlying t=Y (.slice e):=by
  unfold Vbe at ht;split at ht
  ·rename_i hh;simp at ht;subst ht;exact hh
  ·simp at ht
 have hk0:0<((d,e+1):Xs).2:=Nat.succ_pos e;have hk2:∀ κ:Xs,κ.2=0->κ≠(d,e+1):=by intro κ h0 he;rw[he]at h0;simp at h0
 obtain⟨s1,s2,s3⟩:=step_tok0 hr.wf (.cells #[] e) hk0 0;refine⟨_,.slice (Y ⟨w.heap.size,0,Zo⟩) 0 0,w.alloc (.cells #[] e),_,?_,.inl rfl,s1,hr.nextTok s1.toExt s2 (λκ h0=>s3 κ (hk2 κ h0)) (Vf5 (G:=G.setU _ _) hr.gn _ _),?_,λi _=>by simp only[Xk,Qj];rw[Xw (hk2 (i,0) rfl)]⟩
 ·simp only[execOp,ho,Instr.buildSlice,Sem.run_bind,Va0 ht',Result.andThen_ok,Vae hi];simp[newRow,Instr.fill];congr 2;apply Array.ext';simp
 ·have hg:G.gen (d,e+1)=S.gen (d,e+1):=hr.gn _;refine⟨hk0,by simp only[Xk,Qj,Xp];omega,Y ⟨w.heap.size,0,Zo⟩,0,[],rfl,by simp[Fr],ku,ku,ku,ku,.inl (by simp[Va3]),λ_=>.inr ⟨w.heap.size,0,#[],e,rfl,by simp[Xk],Vax w _,ku,by simp[Xk,Qj],rfl⟩⟩
def Vge{o:Zt}{S:St}{t e d:Qm}{sz bt:E}{z:Yq}{x y:Q5}{k:Xs}{g:E}{l l':D AV}(ho:o.op=.call {callee:=.builtin .append,args:=#[x,y],argTypes:=#[t,t]})(hd:o.dst=Y d)(hx:S.ev x=.own k g sz l)(hy:(S.ev y).toAV=Y (.sl l'))(hk:e+1=k.2)
  (ht:Vbe P t=Y e) (hi:Van P e=Y (sz,bt,Y z)) (hz:z.cells.size=sz) (hbt:0<bt) (h2:Ve1 P t=R):
  Vb8 P o S=Y ⟨S.gen k=g/\Bk sz l'/\(l.length+l'.length)*bt<=140737488355328,.own k (g+1) sz (l++l'),S.next k⟩:=by
 unfold Vb8;rw[ho];simp only[Ve5];unfold Vgf;rw[ht,hd];simp only[hi];rw[Z1 ⟨hz,hbt,h2⟩];simp only[aSrc,hy,hx];rw[Z1 ⟨Yf,hk⟩]
end
section
variable {P:Zj}
section
variable {t t2 ty e:Qm} {sz bt:E} {z:Yq}
end
def Vqd(w:Zx)(arr arr':Yj Yq)(e:Qm):(w.alloc (.cells arr e)).setRow w.heap.size arr'=w.alloc (.cells arr' e):=by
 have h:((w.alloc (.cells arr e)).setRow w.heap.size arr').heap=(w.alloc (.cells arr' e)).heap:=by
  apply Ie;intro i
  by_cases hi:i=w.heap.size
  ·subst hi;rw[Jb _ _ arr arr' e _ (Vax w _),Vax w _]
  ·rw[I0 _ _ _ _ hi];rcases Zl i w.heap.size with h|h
   ·rw[Vbh w _ h,Vbh w _ h]
   ·rw[Qk (by simp;omega),Qk (by simp;omega)]
 exact Zf (λh=>({w with heap:=h}:Zx)) h
def Vez(w:Zx)(b:E)(arr arr':Yj Yq):(w.setRow b arr).setRow b arr'=w.setRow b arr':=by
 have h:((w.setRow b arr).setRow b arr').heap=(w.setRow b arr').heap:=by
  apply Ie;intro i;simp only[World.setRow,I9]
  split
  ·cases w.heap[i]? with
   |none=>rfl
   |some o=>cases o <;>rfl
  ·rfl
 exact Zf (λh=>({w with heap:=h}:Zx)) h
def own_grown{G:Gh}{w:Zx}{S:St}{a:Iz}{k:Xs}{g sz e cap:E}{ad:Zn Addr}{l l':D AV}{es es':D Yq}(hr:Ja G w S a)(hk0:0<k.2)(hke:e+1=k.2)(hgg:G.gen k=g)
  (g2:Fr G.U w l es) (g3:∀ e∈es,e.cells.size=sz) (g5:Lies G.U w ad (Va3 es)) (hx:Fr G.U w l' es') (hu:Bk sz l') {nc:E} {rest:D Yq} (q1:l.length+l'.length<=nc) (q2:rest.length=(nc-(l.length+l'.length))*sz):
  ∃G',Iv G w G' (w.drew.alloc (.cells (Va3 es++Va3 es'++rest).toArray e))/\Ja G' (w.drew.alloc (.cells (Va3 es++Va3 es'++rest).toArray e)) (S.next k) a/\
   Xv G' (w.drew.alloc (.cells (Va3 es++Va3 es'++rest).toArray e)) (.own k (g+1) sz (l++l')) (.slice (Y ⟨w.heap.size,0,Zo⟩) (l.length+l'.length) nc)/\∀ i,G'.ow (i,0)=G.ow (i,0):=by
 have hes':=hu.sizes hx;have h1':=hx.cells hu;have hkne:∀ i:E,((i,0):Xs)≠k:=by intro i he;rw[<-he]at hk0;simp at hk0
 have hk2:∀ κ:Xs,κ.2=0->κ≠k:=by intro κ h0 he;rw[he]at h0;omega
 have hl1:=Vaf es g3;have hl2:=Vaf es' hes';have hll:=g2.length;have hll':=hx.length;have hcellsOld:∀ c∈Va3 es,c.oneCell'=true:=by
  rcases g5 with h|⟨_,_,_,_,h3⟩
  ·rw[h];simp
  ·intro c hc;obtain⟨j,hj⟩:=I8.1 hc;exact(h3 j c hj).2
 have hsz:∀ e∈es++es',e.cells.size=sz:=by
  intro e he;rcases Yu.1 he with h|h
  ·exact g3 e h
  ·exact hes' e h
 obtain⟨s1,s2,s3⟩:=step_tok hr.wf (.cells (Va3 es++Va3 es'++rest).toArray e) hk0 (Va3 (es++es')).length;refine⟨_,s1,hr.nextTok s1.toExt s2 (λκ h0=>s3 κ (hk2 κ h0)) (Vf5 (G:=G.setU _ _) hr.gn k _),?_,λi=>by simp only[Xk,Qj];rw[Xw (hkne i)]⟩;refine⟨hk0,by simp only[Xk,Qj,Xp];omega,Y ⟨w.heap.size,0,Zo⟩,nc,es++es',ku,?_,hsz,by simpa using q1,ku,ku,?_,λ_=>.inr ⟨w.heap.size,0,_,e,rfl,by simp[Xk],Vax w.drew _,?_,?_,hke⟩⟩
 ·exact RepL.mono s1.U s1.imm _ _ (g2.append hx)
 ·have:=Vii (w:=w.drew) (cs:=Va3 (es++es')) (rest:=rest) (e:=e) (n:=(Va3 (es++es')).length) G.U (by rw[Vb1];intro c hc;rcases Yu.1 hc with h|h;exact hcellsOld c h;exact h1' c h) rfl;rw[Vb1]at this ⊢;exact this
 ·simp only[Q6,Qi,Y4,hl1,hl2,hll,hll',q2];rw[<-Qy, <-Qy];exact Qx _ kv
 ·simp only[Xk,Qj,Xp,Q6];rw[Vaf _ hsz];simp[hll,hll']
def own_room{G:Gh}{w:Zx}{S:St}{a:Iz}{k:Xs}{g sz cap b off e':E}{arr:Yj Yq}{l l':D AV}{es es':D Yq}(hr:Ja G w S a)(hk0:0<k.2)(hgg:G.gen k=g)
  (g2:Fr G.U w l es) (g3:∀ e∈es,e.cells.size=sz) (g5:Lies G.U w (Y ⟨b,off,Zo⟩) (Va3 es)) (o1:G.ow k=Y b) (o2:w.heap[b]? =Y (.cells arr e' (0,0))) (o3:off+cap*sz<=arr.size) (o4:G.U b=off+l.length*sz) (o5:e'+1=k.2)
  (hx:Fr G.U w l' es') (hu:Bk sz l') (hle:l.length+l'.length<=cap):
  ∃G',Iv G w G' (w.setRow b (arr.toList.take (off+l.length*sz)++Va3 es'++arr.toList.drop (off+l.length*sz+(Va3 es').length)).toArray)/\
   Ja G' (w.setRow b (arr.toList.take (off+l.length*sz)++Va3 es'++arr.toList.drop (off+l.length*sz+(Va3 es').length)).toArray) (S.next k) a/\
   Xv G' (w.setRow b (arr.toList.take (off+l.length*sz)++Va3 es'++arr.toList.drop (off+l.length*sz+(Va3 es').length)).toArray) (.own k (g+1) sz (l++l')) (.slice (Y ⟨b,off,Zo⟩) (l.length+l'.length) cap)/\∀ i,G'.ow (i,0)=G.ow (i,0):=by
 have hes':=hu.sizes hx;have h1':=hx.cells hu;have hkne:∀ i:E,((i,0):Xs)≠k:=by intro i he;rw[<-he]at hk0;simp at hk0
 have hk2:∀ κ:Xs,κ.2=0->κ≠k:=by intro κ h0 he;rw[he]at h0;omega
 have hl1:=Vaf es g3;have hl2:=Vaf es' hes';have hll:=g2.length;have hll':=hx.length;have hcellsOld:∀ c∈Va3 es,c.oneCell'=true:=by
  rcases g5 with h|⟨_,_,_,_,h3⟩
  ·rw[h];simp
  ·intro c hc;obtain⟨j,hj⟩:=I8.1 hc;exact(h3 j c hj).2
 have hsz:∀ e∈es++es',e.cells.size=sz:=by
  intro e he;rcases Yu.1 he with h|h
  ·exact g3 e h
  ·exact hes' e h
 have hmul:(l.length+l'.length)*sz<=cap*sz:=Qx _ hle;rw[Qy]at hmul;obtain⟨s1,s2,s3⟩:=Vq3 hr.wf hk0 o1 o2 (off+(l.length+l'.length)*sz) (by rw[o4,Qy];omega) (arr.toList.take (off+l.length*sz)++Va3 es'++arr.toList.drop (off+l.length*sz+(Va3 es').length)).toArray
  (fun j hj=>by
   rw[o4]at hj;have:j<(arr.toList.take (off+l.length*sz)).length:=by simp;omega
   simp only[Ql];rw[Xb,Yl this,J7,Z1 hj]
   simp)
 refine⟨_,s1,hr.nextTok s1.toExt s2 (λκ h0=>s3 κ (hk2 κ h0)) (Vf5 (G:=G.setU _ _) hr.gn k _),?_,λi=>by simp only[Xk,Qj];rw[Xw (hkne i)]⟩;refine⟨hk0,by simp only[Xk,Qj,Xp];omega,Y ⟨b,off,Zo⟩,cap,es++es',ku,RepL.mono s1.U s1.imm _ _ (g2.append hx),hsz,by simpa using hle,ku,ku,?_,λ_=>.inr ⟨b,off,_,e',rfl,by simp[Xk],Jb w b arr _ e' _ o2,?_,?_,o5⟩⟩
 ·rw[Vb1]
  by_cases hzz:Va3 es++Va3 es'=[]
  ·exact .inl hzz
  ·refine .inr ⟨b,off,rfl,?_,λj v hj=>⟨?_,?_⟩⟩
   ·simp only[Xk,Qj,Xp,Y4,hl1,hl2,hll,hll',Qy];omega
   ·simp only[World.cell?,Jb w b arr _ e' _ o2];rcases Zl j (Va3 es).length with hjl|hjl
    ·rw[Yl hjl]at hj;have hold:w.cell? ⟨b,off+j,Zo⟩=Y v:=by
      rcases g5 with h|⟨b',off',q1,q2,q3⟩
      ·rw[h]at hjl;simp at hjl
      ·simp at q1;obtain⟨rfl,rfl⟩:=q1;exact(q3 j v hj).1
     simp only[World.cell?,o2]at hold;simp at hold;have hlt:off+j<off+l.length*sz:=by rw[hl1,hll]at hjl;omega
     have:off+j<(arr.toList.take (off+l.length*sz)).length:=by simp;omega
     simp only[Ql];rw[Xb,Yl this,J7,Z1 hlt];simpa using hold
    ·rw[Xu hjl]at hj;have htl:(arr.toList.take (off+l.length*sz)).length=off+l.length*sz:=by simp;omega
     have hjj:j-(Va3 es).length<(Va3 es').length:=by
      rcases Zl (j-(Va3 es).length) (Va3 es').length with h|h
      ·exact h
      ·simp[Zv h]at hj
     have hq:(Va3 es).length=l.length*sz:=by rw[hl1,hll]
     have hjj2:off+j-(off+l.length*sz)<(Va3 es').length:=kv;simp only[Ql];rw[Xb,Xu (by rw[htl];omega),htl,Yl hjj2];rw[show off+j-(off+l.length*sz)=j-(Va3 es).length by omega];simpa using hj
   ·have:=Xa hj;rcases Yu.1 this with h|h
    ·exact hcellsOld v h
    ·exact h1' v h
 ·simp only[Qi,Y4,Dz,D0,Q4,hl2,hll'];omega
 ·simp only[Xk,Qj,Xp,Y4]
def Vof{α:Type}(A z x:D α)(p:E)(hp:p<=A.length)(hz:z.length=x.length):
  (A.take p++z++A.drop (p+z.length)).take p++x++(A.take p++z++A.drop (p+z.length)).drop (p+x.length)=A.take p++x++A.drop (p+x.length):=by
 have htl:(A.take p).length=p:=by simp;omega
 rw[Xb (A.take p) z,D8 htl];congr 1;have:p+x.length=(A.take p).length+z.length:=by rw[htl,hz]
 rw[this,D3,I6 kv,Q3,Iw,D9 rfl,htl]
def PushTo(P:Zj)(G:Gh)(w:Zx)(S:St)(a:Iz)(k:Xs)(g sz:E)(l:D AV)(x:AV)(u v0 vx:Yq)(ty t:Qm):Prop:=
 ∃b off cap w1 arr1 arr2 e1 G',(Builtin.append_ #[t,t] ty #[u,v0]).run P w=.ok (.slice (Y ⟨b,off,Zo⟩) (l.length+1) cap) w1/\w1.heap[b]? =Y (.cells arr1 e1 (0,0))/\
  (∀W:Zx,W.heap[b]? =Y (.cells arr1 e1 (0,0))->(storeCells ⟨b,off+l.length*sz,Zo⟩ vx.cells.toList).run P W=.ok () (W.setRow b arr2))/\Iv G w G' (w1.setRow b arr2)/\Ja G' (w1.setRow b arr2) (S.next k) a/\
  Xv G' (w1.setRow b arr2) (.own k (g+1) sz (l++[x])) (.slice (Y ⟨b,off,Zo⟩) (l.length+1) cap)/\(∀i,G'.ow (i,0)=G.ow (i,0))/\∀ κ c,κ≠k->G.ow κ=Y c->c≠b/\w1.heap[c]? =w.heap[c]?
def push_own{t ty e:Qm}{sz bt:E}{z:Yq}(ht:Vbe P t=Y e)(h2:Ve1 P t=R)(hi:Van P e=Y (sz,bt,Y z))(hz:z.cells.size=sz)(hbt:0<bt)
  {G:Gh} {w:Zx} {S:St} {a:Iz} {k:Xs} {g:E} {l:D AV} {x0 x:AV} {u v0 vx:Yq} {es0:D Yq} (hr:Ja G w S a) (hown:Xv G w (.own k g sz l) u) (hke:e+1=k.2) (hgen:S.gen k=g) (h0:Src P w G.U sz v0 [x0] es0) (hu0:Bk sz [x0])
  (hx:Bm G.U w x vx) (hux:Bk sz [x]) (hb:(l.length+1)*bt<=140737488355328):
  PushTo P G w S a k g sz l x u v0 vx ty t:=by
 obtain⟨hk0,hgle,ad,cap,es,rfl,g2,g3,g4,gn,gsp,g5,g6⟩:=hown;have hgg:G.gen k=g:=by rw[hr.gn k];exact hgen
 have g6:=g6 hgg;have hes0:=hu0.sizes h0.rep;have hrx:Fr G.U w [x] [vx]:=by simp only[Fr];exact⟨vx,[],rfl,hx,rfl⟩
 have hvx:=hux.sizes hrx;have hcx:=hrx.cells hux;have hc0:=h0.rep.cells hu0;have hl1:=Vaf es g3;have hl0:=Vaf es0 hes0;have hlx:=Vaf [vx] hvx;have hll:=g2.length;have hll0:=h0.rep.length;have e0:es0.length=1:=by simpa using hll0
 have hvv:Va3 [vx]=vx.cells.toList:=by simp[Va3]
 rw[e0]at hl0;simp only[List.length_singleton]at hlx;have hl0x:(Va3 es0).length=(Va3 [vx]).length:=kv;have grow:cap<l.length+1->(ad=Zo->es=[])->PushTo P G w S a k g sz l x (.slice ad l.length cap) v0 vx ty t:=by
  intro hlt hn;obtain⟨nc,rest,q1,q2,q3⟩:=Vch (ty:=ty) ht h2 hi hz hbt (w:=w) (a:=ad) (n:=l.length) (cap:=cap) (m:=1) (x:=v0) (olds:=Va3 es) (news:=Va3 es0) (h0.len w rfl)
   (λw' hw=>Vd8 g5 g3 hll hn w' hw) (λw' hw=>h0.cells w' hw) hlt hb
  obtain⟨G',s1,s2,s3,s4⟩:=own_grown (rest:=rest) (nc:=nc) (cap:=cap) hr hk0 hke hgg g2 g3 g5 hrx hux (by simpa using q1) (by simpa using q2);have htl:(Va3 es).length=l.length*sz:=by rw[hl1,hll]
  have hst:∀ W:Zx,W.heap[w.heap.size]? =Y (.cells (Va3 es++Va3 es0++rest).toArray e (0,0))->(storeCells ⟨w.heap.size,0+l.length*sz,Zo⟩ vx.cells.toList).run P W=.ok () (W.setRow w.heap.size (Va3 es++Va3 [vx]++rest).toArray):=by
   intro W hW;rw[Q6];have hst:=Qc (P:=P) w.heap.size (l.length*sz) e (Va3 [vx]) 0 (Va3 es++Va3 es0++rest).toArray W hW (by simp only[Qi,Y4,hl1,hll];omega) hcx;simp only[Dr]at hst;rw[hvv]at hst;rw[hst];congr 3;rw[hvv]at hl0x;rw[Xb (Va3 es),D8 htl,hvv];congr 1;rw[<-htl,D3,I6 kv,Q3,Iw,D9 hl0x]
  have hw:(w.drew.alloc (.cells (Va3 es++Va3 es0++rest).toArray e)).setRow w.heap.size (Va3 es++Va3 [vx]++rest).toArray=w.drew.alloc (.cells (Va3 es++Va3 [vx]++rest).toArray e):=Vqd w.drew _ _ e;refine⟨w.heap.size,0,nc,_,_,(Va3 es++Va3 [vx]++rest).toArray,e,G',q3,Vax w.drew _,hst,?_,?_,?_,s4,λκ c _ hκ=>?_⟩
  ·rw[hw];exact s1
  ·rw[hw];exact s2
  ·rw[hw];exact s3
  ·have:=hr.wf.lt κ c hκ;exact⟨kv,Vbh w.drew _ this⟩
 rcases g6 with⟨rfl,gz⟩|⟨b,off,arr,e',rfl,o1,o2,o3,o4,o5⟩
 ·have hl00:l.length=0:=kv;have hes00:es=[]:=Qb.1 kv;exact grow kv (λ_=>hes00)
 ·by_cases hle:l.length+1<=cap
  ·have hmul:(l.length+1)*sz<=cap*sz:=Qx _ hle;rw[Qy]at hmul;have hst:=Qc (P:=P) b (off+l.length*sz) e' (Va3 es0) 0 arr w o2 kv hc0;simp only[Dr]at hst;have hst2:∀ W:Zx,W.heap[b]? =Y (.cells (arr.toList.take (off+l.length*sz)++Va3 es0++arr.toList.drop (off+l.length*sz+(Va3 es0).length)).toArray e' (0,0))->
     (storeCells ⟨b,off+l.length*sz,Zo⟩ vx.cells.toList).run P W=.ok () (W.setRow b (arr.toList.take (off+l.length*sz)++Va3 [vx]++arr.toList.drop (off+l.length*sz+(Va3 [vx]).length)).toArray):=by
    intro W hW;have hst2:=Qc (P:=P) b (off+l.length*sz) e' (Va3 [vx]) 0 (arr.toList.take (off+l.length*sz)++Va3 es0++arr.toList.drop (off+l.length*sz+(Va3 es0).length)).toArray
     W hW (by simp only[Qi,Y4,Dz,D0,Q4];omega) hcx
    simp only[Dr]at hst2;rw[hvv]at hst2 hl0x ⊢;rw[hst2];congr 3;have:=Vof arr.toList (Va3 es0) vx.cells.toList (off+l.length*sz) (by rw[show arr.toList.length=arr.size from Q4];omega) hl0x;simpa using this
   obtain⟨G',s1,s2,s3,s4⟩:=own_room hr hk0 hgg g2 g3 g5 o1 o2 o3 o4 o5 hrx hux (by simpa using hle);refine⟨b,off,cap,_,_,_,e',G',Vbo (ty:=ty) ht h2 hi (h0.len w rfl) (h0.cells w rfl) (by simpa using hle) hst,Jb w b arr _ e' _ o2,hst2,?_,?_,?_,s4,λκ c hne hκ=>?_⟩
   ·rw[Vez];exact s1
   ·rw[Vez];exact s2
   ·rw[Vez];exact s3
   ·have hcb:c≠b:=λhe=>hne (hr.wf.inj κ k b (he ▸ hκ) o1)
    exact⟨hcb,I0 w b c _ hcb⟩
  ·exact grow kv ku
end
section
variable {P:Zj}
def WA(P:Zj)(ops:Yj Zt)(Q:St->Prop)(fuel:E)(listed:Yj Zs)(S:St):Prop:=
 ∀(Q':Yk->Iz->Zx->Prop)(G:Gh)(w:Zx)(a:Iz),Ja G w S a->
  (∀S' G' a' w',Q S'->Iv G w G' w'->Ja G' w' S' a'->(∀i,Fx i->G'.ow (i,0)=G.ow (i,0))->Q' .normal a' w')->wpAny P .any ops Q' fuel listed a w
def upTo(sz n:E):Yj Bool:=(Array.range sz).map (λi=>decide (i<n))
def Vrc(ops:Yj Zt)(n:E):E->Yj Zs->Zs
 |0,listed=>(Y2 n).all (λi=>listed.getD i V)
 |f+1,listed=> !(Z4 .any ops listed).isEmpty&&(Z4 .any ops listed).all (λi=>decide (i<n)&&Vrc ops n f (listed.setIfInBounds i R))
def upTo_eq{listed:Yj Zs}{sz n:E}(hsz:listed.size=sz)(h1:∀ j,j<n->listed.getD j V=R)(h2:∀ j,n<=j->listed.getD j V=V):listed=upTo sz n:=by
 apply Array.ext
 ·simp[upTo,hsz]
 ·intro i hi hi';simp only[upTo,Array.getElem_map,Array.getElem_range]
  by_cases h:i<n
  ·have:=h1 i h;simp only[Zp,Y5 hi,Xf]at this;rw[this];simp[h]
  ·have:=h2 i kv;simp only[Zp,Y5 hi,Xf]at this;rw[this];simp[h]
def W_head{id:E}{ops:Yj Zt}{Q:Yk->St->Prop}{S Sc:St}(hm:P.follows .mixedOrders=R)(n:E)(v:E->SV)(d:E->E)(hB:Vrc ops n n (Xm ops.size V)=R)
  (hd:∀ i,i<n->∃ o,ops[i]? =Y o/\o.dst=Y (d i)/\o.guard=Zo) (hinj:∀ i j,i<n->j<n->d i=d j->i=j) (hlt:∀ i,i<n->d i<S.fr.length)
  (hop:∀ i,i<n->∀ o,ops[i]? =Y o->∀ S':St,S'.bx=S.bx->S'.gn=S.gn->S'.fr.length=S.fr.length->(∀e∈o.after,Y0 .any e=R->e.on<n->S'.fr[d e.on]? =Y (v e.on))->(∀t:E,(∀j,j<n->t≠d j)->S'.fr[t]? =S.fr[t]?)->
   ∃p:Prop,p/\Vb8 P o S'=Y ⟨p,v i,S'⟩)
  (hS1:Sc.bx=S.bx) (hS2:Sc.gn=S.gn) (hS3:∀ j,j<n->Sc.fr[d j]? =Y (v j)) (hS4:∀ t:E,(∀j,j<n->t≠d j)->Sc.fr[t]? =S.fr[t]?)
  (h:WA P ops (Q .normal) (ops.size-n) (upTo ops.size n) Sc):W P (.region id ops R) Q S:=by
 intro G0 w0 a0 hr0;obtain⟨hstep0,hr0'⟩:=hr0.draw;apply Fs hm;have main:∀(f:E)(listed:Yj Zs)(G:Gh)(w:Zx)(a:Iz)(S':St),Vrc ops n f listed=R->listed.size=ops.size->(∀j,n<=j->listed.getD j V=V)->S'.bx=S.bx->S'.gn=S.gn->S'.fr.length=S.fr.length->
   (∀j,j<n->listed.getD j V=R->S'.fr[d j]? =Y (v j))->(∀t:E,(∀j,j<n->t≠d j)->S'.fr[t]? =S.fr[t]?)->Ja G w S' a->Iv G0 w0 G w->(∀i,Fx i->G.ow (i,0)=G0.ow (i,0))->wpAny P .any ops (lift Q G0 w0) (f+(ops.size-n)) listed a w:=by
  intro f
  induction f with
  | zero=>
   intro listed G w a S' hb hsz hun h1 h2 h3 h4 h5 hr hst how;simp only[Vrc]at hb;have hall':∀ j,j<n->listed.getD j V=true:=λj hj=>Zz.1 hb j (Z9.2 hj)
   have hfr:S'.fr=Sc.fr:=by
    apply Ds;intro t
    by_cases ht:∃ j,j<n/\t=d j
    ·obtain⟨j,hj,rfl⟩:=ht;rw[h4 j hj (hall' j hj),hS3 j hj]
    ·have ht':∀ j,j<n->t≠d j:=λj hj e=>ht ⟨j,hj,e⟩
     rw[h5 t ht',hS4 t ht']
   have hSS:S'=Sc:=by
    obtain⟨f1,b1,g1⟩:=S';obtain⟨f2,b2,g2⟩:=Sc;simp only at hfr h1 h2 hS1 hS2;rw[hfr,h1,h2,hS1,hS2]
   subst hSS;rw[upTo_eq hsz hall' hun,Q6];exact h (lift Q G0 w0) G w a hr (λS2 G2 a2 w2 q1 q2 q3 q4=>⟨S2,G2,q1,hst.trans q2,q3,λi hi=>(q4 i hi).trans (how i hi)⟩)
  | succ f ih=>
   intro listed G w a S' hb hsz hun0 h1 h2 h3 h4 h5 hr hst how;simp only[Vrc,Zm,Z8,List.isEmpty_eq_false_iff]at hb;obtain⟨hne,hall⟩:=hb;rw[show f+1+(ops.size-n)=(f+(ops.size-n))+1 by omega];refine⟨λh0=>Jt h0 hne,λi hi=>?_⟩;have hi2:=Zz.1 hall i hi;simp only[Zm,Z7]at hi2;obtain⟨hin,hbi⟩:=hi2;obtain⟨hun,o,ho,hdep⟩:=Dt.1 hi;obtain⟨o',ho',hdst,hg⟩:=hd i hin;have:o'=o:=Bl (ho'.symm.trans ho);subst this;obtain⟨p,hp,hast⟩:=hop i hin o' ho S' h1 h2 h3 (λe he hbe hen=>h4 e.on hen (hdep e he hbe)) h5;obtain⟨nx,u,w',G',x1,x2,x3,x4,x5,x6⟩:=Vay hast hp G w a hr;unfold wpOp;simp only[ho];rw[Z1 (Vat hg a)];refine .inl ?_;have hlisted:i<listed.size:=by rw[hsz];exact(Ic.1 ho).1
   have next:∀ u,Xv G' w' (v i) u->wpAny P .any ops (lift Q G0 w0) (f+(ops.size-n)) (listed.setIfInBounds i R) (a.put o'.dst u) w':=by
    intro u hu;refine ih _ G' w' _ (S'.put (Y (d i)) (v i)) hbi (by simp[hsz]) (λj hj=>?_) h1 h2 (by simp[Xo,h3]) (λj hj hl=>?_) (λt ht=>?_) (by rw[hdst];exact x4.put (Y (d i)) hu) (hst.trans x3) (λi hi=>(x6 i hi).trans (how i hi))
    ·have hq:=hun0 j hj;simp only[Zp]at hq ⊢;rw[Xc kv];exact hq
    ·simp only[Xo,Z3]
     by_cases hji:d i=d j
     ·have:=hinj i j hin hj hji;subst this;rw[Z1 rfl,Z1 (by rw[h3];exact hlt i hin)]
     ·rw[Xw hji];refine h4 j hj ?_;have hij:i≠j:=λe=>hji (by rw[e])
      rw[<-hl];simp only[Zp];rw[Xc hij]
    ·simp only[Xo,Z3];rw[Xw (λe=>ht i hin e.symm)];exact h5 t ht
   unfold Fb;rw[x1];rcases x2 with rfl|⟨rfl,rfl⟩
   ·rw[Q1];exact next _ x5
   ·rw[Jg];exact next _ x5
 by_cases hle:n<=ops.size
 ·have:=main n (Xm ops.size V) G0 _ a0 S hB ku (λj _=>Jc _ _) rfl rfl rfl (λj _ hl=>by rw[Jc]at hl;cases hl) (λ_ _=>rfl) hr0' hstep0 (λ_ _=>rfl);rwa[show n+(ops.size-n)=ops.size by omega]at this
 ·obtain⟨o,ho,_⟩:=hd ops.size kv;simp at ho
section
variable {ops:Yj Zt} {Q:Yk->Iz->Zx->Prop}
def Vow{i:E}{o:Zt}{K:Iz->Zx->Prop}{a:Iz}{w w':Zx}{v:Yq}(ho:ops[i]? =Y o)(hg:o.guard=Zo)(hx:(execOp a.eval o).run P w=.ok (.value v) w')(h:K (a.put o.dst v) w'):wpOp P ops Q i K a w:=by
 unfold wpOp;simp only[ho];rw[Z1 (Vat hg a)];refine .inl ?_;unfold Fb;rw[hx,Q1];exact h
def Vj3{i:E}{o:Zt}{K:Iz->Zx->Prop}{a:Iz}{w w':Zx}(ho:ops[i]? =Y o)(hg:o.guard=Zo)(hd:o.dst=Zo)(hx:(execOp a.eval o).run P w=.ok .skip w')(h:K a w'):wpOp P ops Q i K a w:=by
 unfold wpOp;simp only[ho];rw[Z1 (Vat hg a)];refine .inl ?_;unfold Fb;rw[hx,Jg,hd];exact h
def Vjg{L:Yj Zs}{i f:E}{a:Iz}{w:Zx}(hr:Z4 .any ops L=[i])(h:wpOp P ops Q i (wpAny P .any ops Q f (L.setIfInBounds i R)) a w):wpAny P .any ops Q (f+1) L a w:=
 ⟨λh0=>(by rw[hr]at h0;cases h0),λj hj=>(by
  rw[hr]at hj;obtain rfl:j=i:=by simpa using hj
  exact h)⟩
def any_two{L:Yj Zs}{i j f:E}{a:Iz}{w:Zx}(hr:Z4 .any ops L=[i,j])(h1:wpOp P ops Q i (wpAny P .any ops Q f (L.setIfInBounds i R)) a w)(h2:wpOp P ops Q j (wpAny P .any ops Q f (L.setIfInBounds j R)) a w):wpAny P .any ops Q (f+1) L a w:=
 ⟨λh0=>(by rw[hr]at h0;cases h0),λk hk=>by
  rw[hr]at hk;simp only[Ya,List.not_mem_nil,or_false]at hk;rcases hk with rfl|rfl
  ·exact h1
  ·exact h2⟩
end
def setRow_comm(w:Zx){b c:E}(h:b≠c)(x y:Yj Yq):(w.setRow b x).setRow c y=(w.setRow c y).setRow b x:=by
 have he:((w.setRow b x).setRow c y).heap=((w.setRow c y).setRow b x).heap:=by
  apply Ie;intro i;simp only[World.setRow,I9]
  by_cases h1:b=i <;>by_cases h2:c=i
  ·exact(h (h1.trans h2.symm)).elim
  ·simp[h1,h2]
  ·simp[h1,h2]
  ·simp[h1,h2]
 exact Zf (λh=>({w with heap:=h}:Zx)) he
def pushB(ops:Yj Zt)(n:E)(L:Yj Zs):Bool:=
 let s:=λ(L:Yj Zs)(i:E)=>L.setIfInBounds i R
 decide (Z4 .any ops L=[n])&&O (Z4 .any ops (s L n)=[n+1,n+3])&&O (Z4 .any ops (s (s L n) (n+1))=[n+2,n+3])&&O (Z4 .any ops (s (s (s L n) (n+1)) (n+2))=[n+3])&&
 decide (Z4 .any ops (s (s L n) (n+3))=[n+1])&&O (Z4 .any ops (s (s (s L n) (n+3)) (n+1))=[n+2])&&O (Z4 .any ops (s (s (s L n) (n+1)) (n+3))=[n+2])&&
 decide (Z4 .any ops (s (s (s (s L n) (n+1)) (n+2)) (n+3))=[])&&O (Z4 .any ops (s (s (s (s L n) (n+3)) (n+1)) (n+2))=[])&&O (Z4 .any ops (s (s (s (s L n) (n+1)) (n+3)) (n+2))=[])
def WA_push{ops:Yj Zt}{o4 o5 o6 o7:Zt}{Q:St->Prop}{S:St}{n:E}{L:Yj Zs}{t e T T7 ty:Qm}{sz bt bt' bt7:E}{z:Yq}{z' z7:Zn Yq}{k:Xs}{g d4 d5 p1 bid:E}{l:D AV}{x0 x:AV}{s0:SV}{A B C X:Q5}
  (hB:pushB ops n L=R) (hi4:ops[n]? =Y o4) (hi5:ops[n+1]? =Y o5) (hi6:ops[n+2]? =Y o6) (hi7:ops[n+3]? =Y o7)
  (ho4:o4.op=.call {callee:=.builtin .append,args:=#[A,B],argTypes:=#[t,t]}) (hd4:o4.dst=Y d4) (hg4:o4.guard=Zo) (ho5:o5.op=.indexAddr t (.tmp d4) C) (hd5:o5.dst=Y d5) (hg5:o5.guard=Zo) (ho6:o6.op=.store T (.tmp d5) X) (hd6:o6.dst=Zo) (hg6:o6.guard=Zo)
  (ho7:o7.op=.store T7 (.tmp p1) (.tmp d4)) (hd7:o7.dst=Zo) (hg7:o7.guard=Zo)
  (hA:S.ev A=.own k g sz l) (hBv:S.ev B=.av (.sl [x0])) (hC:S.ev C=.av (.val (.int .i64 l.length))) (hX:(S.ev X).toAV=Y x) (hP:S.ev (.tmp p1)=.ptr bid 0) (hbx:S.bx.lookup bid=Y (.cells ty [s0]))
  (hC4:C≠ .tmp d4) (hX4:X≠ .tmp d4) (hX5:X≠ .tmp d5) (hp4:p1≠d4) (hp5:p1≠d5) (hne:d4≠d5) (hl4:d4<S.fr.length) (hl5:d5<S.fr.length)
  (ht:Vbe P t=Y e) (h2:Ve1 P t=R) (hi:Van P e=Y (sz,bt,Y z)) (hT:Van P T=Y (sz,bt',z')) (hT7:Van P T7=Y (1,bt7,z7)) (hz:z.cells.size=sz) (hbt:0<bt) (hke:e+1=k.2) (hgen:S.gen k=g) (hu0:Bk sz [x0]) (hux:Bk sz [x]) (hb:(l.length+1)*bt<=140737488355328)
  (h:Q ((((S.next k).put (Y d4) (.own k (g+1) sz (l++[x]))).put (Y d5) .junk).setBox bid (.cells ty [.own k (g+1) sz (l++[x])]))):WA P ops Q 4 L S:=by
 intro Q' G w a hr hq;simp only[pushB,Zm,Z7]at hB;obtain⟨⟨⟨⟨⟨⟨⟨⟨⟨b1,b2⟩,b3⟩,b4⟩,b5⟩,b6⟩,b7⟩,b8⟩,b9⟩,b10⟩:=hB;have ht':P.underlying t=Y (.slice e):=by
  unfold Vbe at ht;split at ht
  ·rename_i hh;simp at ht;subst ht;exact hh
  ·simp at ht
 have hrA:=hr.ev A;rw[hA]at hrA;have hrB:=hr.ev B;rw[hBv]at hrB;have hrC:=hr.ev C;rw[hC]at hrC;simp only[Xv,Bm]at hrC;have hrP:=hr.ev (.tmp p1);rw[hP]at hrP;obtain⟨bx,hbx1,hbx2⟩:=hrP;obtain⟨bx',arrb,q1,q2,q3,q4,q5⟩:=hr.bx _ (Vag hbx);simp only at q1;rw[hbx1]at q1;simp only[Za]at q1;subst q1;have hrX:=(hr.ev X).toAV hX;obtain⟨es0,hs0⟩:=src_sl (P:=P) (x:=a.eval B) hrB hu0;obtain⟨b,off,cap,w1,arr1,arr2,e1,G',r1,r0,r2,s1,s2,s3,s4,s5⟩:=push_own (ty:=o4.type) ht h2 hi hz hbt hr hrA hke hgen hs0 hu0 hrX hux hb;obtain⟨c1,c2⟩:=s5 (bid,0) bx (by intro e;rw[<-e]at hke;simp at hke) hbx1;have hheapx:w1.heap[bx]? =Y (.cells arrb ty (0,0)):=by rw[c2];exact q2
 have hsz:a.tmps.size=S.fr.length:=hr.size.symm;have evne:∀(a':Iz)(y:Q5)(v:Yq)(d:E),y≠ .tmp d->(a'.put (Y d) v).eval y=a'.eval y:=by
  intro a' y v d hy;cases y with
  |tmp t'=>
   have:t'≠d:=λe=>hy (by rw[e])
   simp only[Act.eval,Act.put,Zp];rw[Xc (I5 this)]
  |_=>rfl
 have eveq:∀(a':Iz)(v:Yq)(d:E),d<a'.tmps.size->(a'.put (Y d) v).eval (.tmp d)=v:=by
  intro a' v d hd;simp only[Act.eval,Act.put,Zp];rw[Array.getElem?_setIfInBounds_self_of_lt hd];rfl
 obtain⟨u1,hu1⟩:∃ u1,u1=Value.slice (Y ⟨b,off,Zo⟩) (l.length+1) cap:=⟨_,rfl⟩
 obtain⟨pt,hpt⟩:∃ pt,pt=Value.pointer (Y ⟨b,off+l.length*sz,Zo⟩):=⟨_,rfl⟩
 have x4:(execOp a.eval o4).run P w=.ok (.value u1) w1:=by
  obtain⟨c,hc⟩:=Vb2 (P:=P) (a:=a) ho4 w;rw[hc,hu1];simp[builtin,r1]
 have hs4:d4<a.tmps.size:=kv;have hs5:d5<(a.put (Y d4) u1).tmps.size:=by simp only[Act.put,Array.size_setIfInBounds];omega
 have x5:∀ W,(execOp (a.put (Y d4) u1).eval o5).run P W=.ok (.value pt) W:=by
  intro W;have hlt':((l.length:E):J)<((l.length:E):J)+1:=kv;have ev4:(a.put (Y d4) u1).eval (.tmp d4)=.slice (Y ⟨b,off,Zo⟩) (l.length+1) cap:=by rw[eveq _ _ _ hs4,hu1]
  rw[hpt];simp[execOp,ho5,ev4,evne _ C _ d4 hC4,hrC.1,Instr.indexAt,asIntOf,Va0 ht',Vae hi,Vbd,hlt']
 have hcs:(a.eval X).cells.size=sz:=by
  have:=hux.sizes (show Fr G.U w [x] [a.eval X] by simp only[Fr];exact⟨_,[],rfl,hrX,rfl⟩);exact this _ ku
 have x6:∀ W:Zx,W.heap[b]? =Y (.cells arr1 e1 (0,0))->(execOp ((a.put (Y d4) u1).put (Y d5) pt).eval o6).run P W=.ok .skip (W.setRow b arr2):=by
  intro W hW;have ev5:((a.put (Y d4) u1).put (Y d5) pt).eval (.tmp d5)=.pointer (Y ⟨b,off+l.length*sz,Zo⟩):=by rw[eveq _ _ _ hs5,hpt]
  simp[execOp,ho6,ev5,evne _ X _ _ hX5,evne _ X _ _ hX4,Instr.storeAt,Instr.sureAddr,storeVar,Vae hT,hcs,r2 W hW]
 have hone:u1.oneCell'=true:=by rw[hu1];rfl
 have hcell:u1.cells=#[u1]:=by rw[hu1];rfl
 have hal:arrb.size=1:=by simpa using q4.length
 have x7':∀ W:Zx,W.heap[bx]? =Y (.cells arrb ty (0,0))->(storeCells ⟨bx,0,Zo⟩ [u1]).run P W=.ok () (W.setRow bx (arrb.toList.take 0++[u1]++arrb.toList.drop (0+1)).toArray):=by
  intro W hW;have:=Qc (P:=P) bx 0 ty [u1] 0 arrb W hW (by simp;omega) (by simpa using hone);simpa using this
 have x7:∀(a':Iz)(W:Zx),a'.eval (.tmp p1)=.pointer (Y ⟨bx,0,Zo⟩)->a'.eval (.tmp d4)=u1->W.heap[bx]? =Y (.cells arrb ty (0,0))->(execOp a'.eval o7).run P W=.ok .skip (W.setRow bx (arrb.toList.take 0++[u1]++arrb.toList.drop (0+1)).toArray):=by
  intro a' W e1 e2 hW;have hc1:u1.cells.size=1:=by rw[hcell];rfl
  have hc2:u1.cells.toList=[u1]:=by rw[hcell]
  have:=x7' W hW;simp[execOp,ho7,e1,e2,Instr.storeAt,Instr.sureAddr,storeVar,Vae hT7,hc1,hc2,this]at this ⊢
 have evp1:(a.put (Y d4) u1).eval (.tmp p1)=.pointer (Y ⟨bx,0,Zo⟩):=by
  rw[evne _ (.tmp p1) _ _ (by simpa using hp4)];exact hbx2
 have evp2:((a.put (Y d4) u1).put (Y d5) pt).eval (.tmp p1)=.pointer (Y ⟨bx,0,Zo⟩):=by
  rw[evne _ (.tmp p1) _ _ (by simpa using hp5)];exact evp1
 have evd1:(a.put (Y d4) u1).eval (.tmp d4)=u1:=eveq _ _ _ hs4;have evd2:((a.put (Y d4) u1).put (Y d5) pt).eval (.tmp d4)=u1:=by
  rw[evne _ (.tmp d4) _ _ (by simpa using hne)];exact evd1
 -- the end
 have s3':Xv G' (w1.setRow b arr2) (.own k (g+1) sz (l++[x])) u1:=by rw[hu1];exact s3
 have hfin0:Ja G' (w1.setRow b arr2) (((S.next k).put (Y d4) (.own k (g+1) sz (l++[x]))).put (Y d5) .junk) ((a.put (Y d4) u1).put (Y d5) pt):=(s2.put (Y d4) s3').put (Y d5) Yf;have hx2:(w1.setRow b arr2).heap[bx]? =Y (.cells arrb ty (0,0)):=by rw[I0 _ _ _ _ c1];exact hheapx
 obtain⟨w3,y1,y2,y3⟩:=hfin0.storeBox (b:=bid) (ty:=ty) (l:=[s0]) (by simpa[Xo,St.next]using hbx) (by rw[s4];exact hbx1) 0 (xs:=[.own k (g+1) sz (l++[x])]) (vs:=[u1]) ⟨u1,[],rfl,s3',rfl⟩ (by simpa using hone) ku;have hw3:w3=(w1.setRow b arr2).setRow bx (arrb.toList.take 0++[u1]++arrb.toList.drop (0+1)).toArray:=by
  have:=(y1 P).symm.trans (x7' _ hx2);simpa using this
 have fin:Q' .normal ((a.put (Y d4) u1).put (Y d5) pt) w3:=hq _ G' _ w3 (by simpa using h) (s1.trans y2) y3 (λi _=>s4 i);have hcomm:((w1.setRow bx (arrb.toList.take 0++[u1]++arrb.toList.drop (0+1)).toArray).setRow b arr2)=w3:=by rw[hw3];exact setRow_comm w1 c1 _ _
 have hb1:(w1.setRow bx (arrb.toList.take 0++[u1]++arrb.toList.drop (0+1)).toArray).heap[b]? =Y (.cells arr1 e1 (0,0)):=by rw[I0 _ _ _ _ (I5 c1)];exact r0
 refine Vjg b1 (Vow hi4 hg4 x4 ?_);rw[hd4];refine any_two b2 (Vow hi5 hg5 (x5 w1) ?_) (Vj3 hi7 hg7 hd7 (x7 _ w1 evp1 evd1 hheapx) ?_)
 ·rw[hd5];refine any_two b3 (Vj3 hi6 hg6 hd6 (x6 w1 r0) ?_) (Vj3 hi7 hg7 hd7 (x7 _ w1 evp2 evd2 hheapx) ?_)
  ·refine Vjg b4 (Vj3 hi7 hg7 hd7 (x7 _ _ evp2 evd2 hx2) ?_);rw[<-hw3];exact⟨b8,fin⟩
  ·refine Vjg b7 (Vj3 hi6 hg6 hd6 (x6 _ hb1) ?_);rw[hcomm];exact⟨b10,fin⟩
 ·refine Vjg b5 (Vow hi5 hg5 (x5 _) ?_);rw[hd5];refine Vjg b6 (Vj3 hi6 hg6 hd6 (x6 _ hb1) ?_);rw[hcomm];exact⟨b9,fin⟩
end
section
variable {P:Zj}
def BEGb {α : Type} (enc : α -> SV) (M : α) {f : FuncId} {fn : Func} {args : List SV} {bx bx' : List (Nat × ABox)} {gn gn' : List (Key × Nat)} (hf : P.funcs[f]? = some fn) (hok : (fn.body.isSome && !(fn.name == "runtime.NumGoroutine") && decide (args.length <= fn.ntmps)) = true)
  (hids:∀ p∈bx,1000<=p.1) (hgk:∀ p∈gn,1000<=p.1.1/\0<p.1.2) (hargs:∀ s∈args,Bo (bx.map (·.1)) gn s) (hbx:∀ p∈bx,∀s∈p.2.svs,Bo (bx.map (·.1)) gn s)
  (hres:Bo (bx.map (·.1)) gn' (enc M)) (hbx':∀ p∈bx',∀s∈p.2.svs,Bo (bx.map (·.1)) gn' s) (hsame:bx'.map (·.1)=bx.map (·.1)) (hgn':gn'.map (·.1)=gn.map (·.1))
  (h:Nx P (KE P fn enc bx' gn') M (start (Vbf fn) ⟨args++Jh (fn.ntmps-args.length) .junk,bx,gn⟩)) (hv:∀ p∈bx',p.1<2000\/p.1∈Vbb bx':=by simp):Va1 P f args bx gn (enc M) bx' gn':=by
 simp only[Zm,Z7,Z8]at hok;obtain⟨⟨h1,h2⟩,h3⟩:=hok;obtain⟨c,hb⟩:=Zy.1 h1;have e:Vbf fn=c:=by simp[Vbf,hb]
 refine Ved hf hb h2 rfl h3 hids hgk hargs hbx hres hbx' hsame hgn' ?_ hv;rw[<-e];exact h.x
def ENb{α:Type}{fn:Bq}{enc:α->SV}{M:α}{X:Cf}{bx':D (E×Yx)}{gn':D (Xs×E)}(h:Vmx P fn X=Y (enc M))(h3:∀ p∈bx',(stOf X).bx.lookup p.1=Y p.2)(h4:∀ p∈gn',(stOf X).gen p.1=p.2):Nx P (KE P fn enc bx' gn') M X:=by
 unfold Vmx at h
 split at h
 ·exact⟨ends (.inl rfl) h rfl h3 h4⟩
 ·exact⟨ends (.inr rfl) h rfl h3 h4⟩
 ·simp at h
def atC(X:Cf):Code:=match X with
 |some (_,_,.at c _ _)=>c
 |_=>.skip
def isAt(X:Cf):Bool:=match X with
 |some (_,_,.at _ _ _)=>R
 |_=>V
def contX(P:Zj)(X:Cf)(S2:St)(ors:D Oq):Cf:=match X with
 |some (_,_,.at _ ks _)=>goK P ks (Y ([],ors,.fin .normal S2))
 |_=>Zo
def W_weakQ{c:Jm}{S S2:St}(h:W P c (λe S1=>e=.normal/\Qv S1 S2) S):W P c (λe S1=>e=.normal/\S1=S2) S:=
 λG w a hr=>wp_mono (h G w a hr) (λe a' w' ⟨S1,G',⟨he,hw⟩,h2,h3,h4⟩=>⟨S2,G',⟨he,rfl⟩,h2,hw G' w' a' h3,h4⟩)
def Val{c c':Jm}{Q:Yk->St->Prop}{S:St}(h:c=c')(hw:W P c' Q S):W P c Q S:=by rw[h];exact hw
def NXW{α:Type}{K:α->Yk->St->Prop}{M:α}{X:Cf}(S2:St)(oc:OC)(hX:isAt X=R)(hW:W P (atC X) (λe S1=>e=.normal/\Qv S1 S2) (stOf X))(h:csOf (contX P X S2 oc.o)=Y oc.c)(hn:Nx P K M (contX P X S2 oc.o)):Nx P K M X:=by
 unfold isAt at hX
 split at hX
 ·rename_i c0 o0 c ks S;obtain⟨hn⟩:=hn;simp only[contX]at h hn;cases hk:goK P ks (Y ([],oc.o,.fin .normal S2))with
  |none=>rw[hk]at h;simp[csOf]at h
  |some r=>
   obtain⟨c2,o2,out2⟩:=r;rw[hk]at h hn;unfold csOf at h
   split at h
   ·rename_i e;simp only[Za,Zb]at e h;obtain⟨rfl,rfl,rfl⟩:=e;subst h;obtain⟨q1,q2⟩:=Vau (K M) ks _ _ _ _ _ _ hk (oc.h Yf) hn;refine⟨?_⟩;exact Vgg (W_weakQ hW) (λe S1 ⟨he,hs⟩=>by subst he hs;exact q2)
   ·simp at h
 ·simp at hX
def st_load{o:Zt}{S:St}{t ty:Qm}{x:Q5}{b k:E}{l:D SV}{s:SV}(ho:o.op=.load t x)(hx:S.ev x=.ptr b k)(ht:tAgg P t=Y V)(hb:S.bx.lookup b=Y (.cells ty l))(hs:l[k]? =Y s):Vb8 P o S=Y ⟨Bb,s,S⟩:=by
 unfold Vb8;rw[ho];simp only[Vjj,ht,hx,hb,hs,D7]
def st_load_agg{o:Zt}{S:St}{t ty:Qm}{sz bt:E}{z:Zn Yq}{x:Q5}{b k:E}{l:D SV}{r:D AV}(ho:o.op=.load t x)(hx:S.ev x=.ptr b k)(ht:tAgg P t=Y R)(hi:Van P t=Y (sz,bt,z))(hb:S.bx.lookup b=Y (.cells ty l))
  (h1:((l.drop k).take sz).any SV.isTok=V) (h2:SV.allAV ((l.drop k).take sz)=Y r) (h3:r.length=sz):Vb8 P o S=Y ⟨Bb,.av (.agg r),S⟩:=by
 unfold Vb8;rw[ho];simp only[Vjj,ht,hi,hx,hb,h1,h2,h3,Xp]
def st_len{o:Zt}{S:St}{t:Qm}{x:Q5}{k:Xs}{g sz:E}{l:D AV}(ho:o.op=.call {callee:=.builtin .len,args:=#[x],argTypes:=#[t]})(hx:S.ev x=.own k g sz l)(ht:Vgs P t=R):Vb8 P o S=Y ⟨Bb,.av (.val (.int .i64 l.length)),S⟩:=by
 unfold Vb8;rw[ho];simp only[Ve5,aLen,hx,SV.toAV,ht,Xp]
def st_build{o:Zt}{S:St}{t e:Qm}{sz bt:E}{z c:Yq}{x:AV}(ho:o.op=.buildSlice t 1 #[(0,.const c)])(ht:Vbe P t=Y e)(hi:Van P e=Y (sz,bt,Y z))(hc:(Vga c).toAV=Y x)(hsz:sz<=16777216)(h2:sz≠2):Vb8 P o S=Y ⟨Bk sz [x],.av (.sl [x]),S⟩:=by
 unfold Vb8;rw[ho];have h1:(S.ev (.const c)).toAV=Y x:=hc;simp only[Vc7,ht,hi,Z0,List.map_nil,Vd5,h1];rw[Z1 ⟨rfl,kv⟩]
end
end Go.Eng
