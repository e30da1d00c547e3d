/- Texts joined by a program (merge.py). -/
import Derived.WalkKit
import Derived.Lib.Strings
import Derived.MapKept
import Derived.Laws.MakeOwn
import Derived.Test.YthbpjmogdonlkaaGreatDoorProg
import Derived.KernelRfl
set_option linter.unusedSimpArgs false
set_option linter.unusedVariables false
theorem kx{p:Prop}(h:p:=by kernel_rfl):p:=h
theorem kv{p:Prop}(h:p:=by omega):p:=h
theorem ky{p:Prop}(h:p:=by first | assumption | omega | decide | (simp; done) | (simp; omega)):p:=h
theorem ku{p:Prop}(h:p:=by simp):p:=h
theorem gj{p:Prop}(h:p:=by decide):p:=h
theorem gk{p:Prop}(h:p:=by first | omega | (simp; omega)):p:=h
set_option linter.defProp false
open Option.some renaming injEq->T
open Option renaming some->J,map_eq_some_iff->Za,none->E,map_some->Zy,getD_some->Yn,bind_some->Y9,ite_none_right_eq_some->Xx,map_eq_map->Ig,bind_none->Ik
open _root_ renaming List->C,Nat->F,Option->R,ByteArray->Ze,True->O,if_neg->Yb,Array->Yj,trivial->Yq,Bool->Xe,congrArg->Xg,if_true->Xo,Int->Qb,decide_eq_true_eq->Ql,if_pos->Qo,if_false->Ie,beq_iff_eq->I2,absurd->Jj
open Go renaming Value->B,Program->D,World->H,TypeId->Y,Operand->X,Oper->L,undef->Z7,IntKind->Yi,setRow_heap->Y5,Exit->Y7,run_storeCells_at->Xn,ResultVar->Qg,Act->Qr,MapEntry->Qt,run_firstCells_some->Q5,run_loadCells_list->Q8,BinOp->I6,Addr->Jc,setRow_other->Jd,Code->Jh,Field->Jk,Func->Jm
open Array renaming length_toList->Zb,mapM_eq_mapM_toList->Yf,getD_eq_getD_getElem?->Yl,toArray_toList->Qa,ext'->Qj,forIn_toList->Ib,foldl_toList->Ic,toList_push->Ij,replicate->I1,range->Ji
open Prod.mk renaming injEq->Zc
open List renaming mem_append->Zd,getElem?_eq_getElem->Zf,mem_of_mem_take->Zg,mem_of_mem_drop->Zh,getElem?_eq_none->Zj,length_eq_zero_iff->Zl,flatMap_cons->Zm,getElem?_append_left->Zo,replicate->Zp,length_append->Zq,any_eq_false->Zs,mem_map->Zv,getElem?_take->Zw,mem_of_getElem?->Z4,mem_flatMap->Z6,getElem?_map->Z8,map_cons->Z9,getElem?_drop->Yh,all_eq_true->Yo,getElem?_append_right->Yp,mem_cons->Ys,mem_map_of_mem->Yu,lookup_eq_none_iff->Yv,length_take->Yw,take_append_of_le_length->Yy,drop_of_length_le->Y0,mem_iff_getElem?->Y3,size_toArray->Y4,length->Y6,zipIdx_cons->Xa,lookup_cons->Xb,length_drop->Xc,mem_or_eq_of_mem_set->Xf,foldl_cons->Xj,range->Xl,take_of_length_le->Xr,mapM_cons->Xs,append_assoc->Xt,getElem?_toArray->Xv,length_cons->Xw,getElem?_modify->Xy,drop_append_of_le_length->Xz,replicate_succ->Qc,length_pos_iff->Qd,getD_eq_getElem?_getD->Qi,ext_getElem?->Qm,eq_of_mem_replicate->Qp,getD->Qu,drop_append->Qv,length_eq_one_iff->Qx,length_map->Q0,take_succ_cons->Q6,set_cons_zero->Q9,set_cons_succ->Ia,getElem?_set->Ih,any_map->Ii,take_append->Il,not_mem_nil->Im,nil_append->Iy,head?_drop->Iz,append_nil->I0,tail_drop->I4,drop_drop->I5,map_nil->Jf
open Go.Value renaming oneCell'->Zi,cells->Zu,int->Jl
open Nat renaming le_refl->Zk,succ_mul->Z1,lt_or_ge->Z2,le_trans->Z3,mul_le_mul_right->Yc,lt_of_lt_of_le->Yg,add_assoc->Ym,add_mul->Yx,zero_add->Xp,add_zero->Qe,min_eq_left->Iw,zero_mul->Je
open Go.Instr renaming sliceBounds->Zn,sliceBound->Zz,sliceAt->Z0,sureAddr->Ya,slice->Yd,loadAt->Xd,fill->Xm,lookup->Qf,indexAt->Qq,mapUpdate->Q4,findNow->Q7,buildSlice->Ip,index->Iv,storeAt->I8,makeMap->I9,fieldAt->Ja,extract->Jb,build->Jg
open Bool renaming true->V,false->A,false_eq_true->Y1,or_eq_false_iff->Y8,and_eq_true->Iq
open Go.Sem renaming run_bind->Zr,run_pure->Yz,run_map->Ir
open Go.Result renaming andThen_ok->Zt
open Go.Builtin renaming firstCells->Zx,append_->Z5,lenOf->Xi,zeroCells->Qn,len_->Qy
open Go.World renaming cell?->Ye
open Go.MapKept renaming run_getObj_map->Yk,run_checkKey->Yr,run_findKey->Yt,run_setObj_map->Xq,heap_set->Qs,IsKey->I7
open BitVec renaming ofInt->Y2
open Go.Region renaming wanted->Xh
open Go.Op renaming equalIn->Xk,maxDepth->Iu,equal->I3
open Go.Code renaming wp_mono->Xu
open Go.Question renaming appendCap->Qh
open Go.Act renaming eval->Qk
open Classical renaming propDecidable->Qw,em->Jn
open Go.Obj.cells renaming injEq->Qz
open List.cons renaming injEq->Q1
open Go.Lib renaming toList_data->Q3
namespace Go.Eng
section
inductive AV where
 |val (v:B)
 |sl (l:C AV)
 |agg (l:C AV)
 |tup (l:C AV)
 |ro (l:C AV) (off:F)
 |rm (ks:C Ze) (vs:C AV)
 |fs (n t:F) (l:C AV)
 |im (ks:C Qb) (vs:C AV)
 |fz (t:F) (l:C AV)
abbrev Key:=F×F
inductive PV where
 |av (x:AV)
 |ptr (b off:F)
 |mp (b:F)
inductive CV where
 |av (x:AV)
 |nil
 |own (k:Key) (g sz:F) (l:C AV)
inductive XV where
 |c (x:CV)
 |a (l:C CV)
inductive SV where
 |junk
 |nil
 |av (x:AV)
 |ptr (b off:F)
 |mp (b:F)
 |own (k:Key) (g sz:F) (l:C AV)
 |fn (f:FuncId) (fs cs:C PV)
 |son (b:F)
 |vs (b n:F)
 |vp (b sz:F) (i:Qb) (off:F)
 |vw (b sz o n:F)
 |ag (l:C CV)
 |tp (l:C XV)
 |clo (l:C AV)
inductive ABox where
 |cells (t:Y) (l:C SV)
 |map (ks:C Ze) (vs:C AV)
 |vec (e sz:F) (l:C AV)
 |ge (n:F)
 |vck (e sz:F) (l:C AV)
 |it (s:Ze) (pos:F)
 |gl (b:F) (vs:C B)
 |mi (ks:C Qb) (l:C SV)
abbrev Fx(i:F):Prop:=1000<=i/\i<2000
structure St where
 fr:C SV
 bx:C (F×ABox)
 gn:C (Key×F)
structure Gh where
 U:F->F
 cp:F->F
 ow:Key->R F
 gen:Key->F
 df:C Deferred
def Va3(es:C B):C Value:=es.flatMap (λe=>e.cells.toList)
def Lies(U:F->F)(w:H)(a:R Jc)(cs:C B):Prop:=
 cs=[]\/∃ b off,a=J ⟨b,off,E⟩/\off+cs.length<=U b/\
  ∀j x,cs[j]? =J x->w.cell? ⟨b,off+j,E⟩=J x/\x.oneCell'=V
def TyB(w:H)(b e:F):Prop:=∃ arr m,w.heap[b]? =J (.cells arr e m)
def PlB(w:H)(b e:F):Prop:=∃ arr,w.heap[b]? =J (.cells arr e (0,0))
def FzB(w:H)(b off n:F):Prop:=∃ arr e lo hi,w.heap[b]? =J (.cells arr e (lo,hi))/\lo<=off/\off+n<=hi
mutual
def Rep(U:F->F)(w:H):AV->B->Prop
  | .val v,u=>u=v/\v.oneCell'=V
  | .sl l,u=>∃ a cap es sz,u=.slice a l.length cap/\RepL U w l es/\(∀e∈es,e.cells.size=sz)/\(a=E->es=[])/\(l.length<=cap)/\(l≠[]->∀ ad,a=J ad->ad.spot=E)/\Lies U w a (Va3 es)
  | .fs n t l,u=>∃ a cap es sz,u=.slice a l.length cap/\RepL U w l es/\(∀e∈es,e.cells.size=sz)/\(a=E->es=[])/\(l.length<=cap)/\(l≠[]->∀ ad,a=J ad->ad.spot=E)/\Lies U w a (Va3 es)/\(Va3 es≠[]->∀ ad,a=J ad->n<=ad.block/\TyB w ad.block t/\(t≠5->PlB w ad.block t))
  | .agg l,u=>∃ us,u=.agg us/\RepL U w l us.toList/\∀ x∈us.toList,x.oneCell'=V
  | .tup l,u=>∃ us,u=.tuple us/\RepL U w l us.toList
  | .ro l off,u=>∃ b o us,u=.pointer (J ⟨b,o+off,E⟩)/\RepL U w l us/\o+us.length<=U b/\
      (∀j x,us[j]? =J x->w.cell? ⟨b,o+j,E⟩=J x/\x.oneCell'=V)
  | .rm ks vs,u=>∃ b ents clock,u=.map (J b)/\1<=U b/\w.heap[b]? =J (.map ents clock)/\ents.toList.map (·.key)=ks.map .string/\RepL U w vs (ents.toList.map (·.val))
  | .fz t l,u=>∃ a cap es sz,u=.slice a l.length cap/\RepL U w l es/\(∀e∈es,e.cells.size=sz)/\(a=E->es=[])/\(l.length<=cap)/\(l≠[]->∀ ad,a=J ad->ad.spot=E)/\Lies U w a (Va3 es)/\(Va3 es≠[]->∀ ad,a=J ad->TyB w ad.block t/\FzB w ad.block ad.off (Va3 es).length)
  | .im ks vs,u=>∃ b ents clock,u=.map (J b)/\1<=U b/\w.heap[b]? =J (.map ents clock)/\ents.toList.map (·.key)=ks.map (.int .i64)/\RepL U w vs (ents.toList.map (·.val))
def RepL(U:F->F)(w:H):C AV->C B->Prop
 |[],us=>us=[]
 |x::l,us=>∃ u us',us=u::us'/\Rep U w x u/\RepL U w l us'
end
structure Imm (U:F->F) (w w':H):Prop where
 cell:∀ b o,o<U b->w'.cell? ⟨b,o,E⟩=w.cell? ⟨b,o,E⟩
 map:∀ b ents clock,1<=U b->w.heap[b]? =J (.map ents clock)->w'.heap[b]? =J (.map ents clock)
 typ:∀ b e,1<=U b->TyB w b e->TyB w' b e
 frz:∀ b off n,1<=U b->n≠0->FzB w b off n->FzB w' b off n
 pln:∀ b e,1<=U b->e≠5->PlB w b e->PlB w' b e
def Lies.mono{U U':F->F}{w w':H}(hU:∀ b,U b<=U' b)(hw:Imm U w w'){a:R Jc}{cs:C B}(h:Lies U w a cs):Lies U' w' a cs:=by
 rcases h with h|⟨b,off,ha,hle,hc⟩
 ·exact .inl h
 ·refine .inr ⟨b,off,ha,Z3 hle (hU b),λj x hx=>?_⟩;have hj:j<cs.length:=by
   rcases Z2 j cs.length with h|h
   ·exact h
   ·simp[Zj h]at hx
  rw[hw.cell b (off+j) kv];exact hc j x hx
mutual
def Rep.mono{U U':F->F}{w w':H}(hU:∀ b,U b<=U' b)(hw:Imm U w w'):∀(x:AV)(u:B),Rep U w x u->Rep U' w' x u
 | .val _,_,h=>by simpa only[Rep]using h
 | .sl l,u,h=>by
  simp only[Rep]at h ⊢;obtain⟨a,cap,es,sz,h1,h2,h3,h4,h5,h6,h7⟩:=h;exact⟨a,cap,es,sz,h1,RepL.mono hU hw l es h2,h3,h4,h5,h6,h7.mono hU hw⟩
 | .fs n t l,u,h=>by
  simp only[Rep]at h ⊢;obtain⟨a,cap,es,sz,h1,h2,h3,h4,h5,h6,h7,h8⟩:=h;refine⟨a,cap,es,sz,h1,RepL.mono hU hw l es h2,h3,h4,h5,h6,h7.mono hU hw,λhv ad had=>?_⟩;have hU1:1<=U ad.block:=by
   rcases h7 with h7|⟨b,off,ha,hle,_⟩
   ·exact Jj h7 hv
   ·rw[ha]at had;simp only[T]at had;subst had;have:0<(Va3 es).length:=Qd.2 hv
    show 1<=U b;omega
  exact⟨(h8 hv ad had).1,hw.typ _ _ hU1 (h8 hv ad had).2.1,λht=>hw.pln _ _ hU1 ht ((h8 hv ad had).2.2 ht)⟩
 | .fz t l,u,h=>by
  simp only[Rep]at h ⊢;obtain⟨a,cap,es,sz,h1,h2,h3,h4,h5,h6,h7,h8⟩:=h;refine⟨a,cap,es,sz,h1,RepL.mono hU hw l es h2,h3,h4,h5,h6,h7.mono hU hw,λhv ad had=>⟨hw.typ _ _ ?_ (h8 hv ad had).1,hw.frz _ _ _ ?_ (λe=>hv (Zl.1 e)) (h8 hv ad had).2⟩⟩
  all_goals
   rcases h7 with h7|⟨b,off,ha,hle,_⟩
   ·exact Jj h7 hv
   ·rw[ha]at had;simp only[T]at had;subst had;have:0<(Va3 es).length:=Qd.2 hv
    show 1<=U b;omega
 | .agg l,u,h=>by
  simp only[Rep]at h ⊢;obtain⟨us,h1,h2,h3⟩:=h;exact⟨us,h1,RepL.mono hU hw l _ h2,h3⟩
 | .tup l,u,h=>by
  simp only[Rep]at h ⊢;obtain⟨us,h1,h2⟩:=h;exact⟨us,h1,RepL.mono hU hw l _ h2⟩
 | .ro l off,u,h=>by
  simp only[Rep]at h ⊢;obtain⟨b,o,us,h1,h2,h3,h4⟩:=h;refine⟨b,o,us,h1,RepL.mono hU hw l _ h2,Z3 h3 (hU b),λj x hx=>?_⟩;have hj:j<us.length:=by
   rcases Z2 j us.length with h|h
   ·exact h
   ·simp[Zj h]at hx
  rw[hw.cell b (o+j) kv];exact h4 j x hx
 | .rm ks vs,u,h=>by
  simp only[Rep]at h ⊢;obtain⟨b,ents,clock,h1,h2,h3,h4,h5⟩:=h;exact⟨b,ents,clock,h1,Z3 h2 (hU b),hw.map b ents clock h2 h3,h4,RepL.mono hU hw vs _ h5⟩
 | .im ks vs,u,h=>by
  simp only[Rep]at h ⊢;obtain⟨b,ents,clock,h1,h2,h3,h4,h5⟩:=h;exact⟨b,ents,clock,h1,Z3 h2 (hU b),hw.map b ents clock h2 h3,h4,RepL.mono hU hw vs _ h5⟩
def RepL.mono{U U':F->F}{w w':H}(hU:∀ b,U b<=U' b)(hw:Imm U w w'):∀(l:C AV)(us:C B),RepL U w l us->RepL U' w' l us
 |[],_,h=>by simpa only[RepL]using h
 |x::l,us,h=>by
  simp only[RepL]at h ⊢;obtain⟨u,us',h1,h2,h3⟩:=h;exact⟨u,us',h1,Rep.mono hU hw x u h2,RepL.mono hU hw l us' h3⟩
end
def Rep.fz_sl{U:F->F}{w:H}{t:F}{l:C AV}{u:B}(h:Rep U w (.fz t l) u):Rep U w (.sl l) u:=by
 simp only[Rep]at h ⊢;obtain⟨a,cap,es,sz,h1,h2,h3,h4,h5,h6,h7,_⟩:=h;exact⟨a,cap,es,sz,h1,h2,h3,h4,h5,h6,h7⟩
def RepL.length{U:F->F}{w:H}:∀ {l:C AV} {us:C B},RepL U w l us->us.length=l.length
 |[],_,h=>by simp only[RepL]at h;simp[h]
 |x::l,us,h=>by
  simp only[RepL]at h;obtain⟨u,us',rfl,_,h3⟩:=h;simp[RepL.length h3]
def RepL.get{U:F->F}{w:H}:∀ {l:C AV} {us:C B},RepL U w l us->∀(i:F) x,l[i]? =J x->∃ u,us[i]? =J u/\Rep U w x u
 |[],_,_,i,x,hx=>by simp at hx
 |y::l,us,h,i,x,hx=>by
  simp only[RepL]at h;obtain⟨u,us',rfl,h2,h3⟩:=h;cases i with
  |zero=>simp at hx;subst hx;exact⟨u,rfl,h2⟩
  |succ i=>simp at hx;obtain⟨v,hv,hr⟩:=RepL.get h3 i x hx;exact⟨v,by simpa using hv,hr⟩
def RepL.append{U:F->F}{w:H}:∀ {l l':C AV} {us us':C B},RepL U w l us->RepL U w l' us'->RepL U w (l++l') (us++us')
 |[],_,_,_,h,h'=>by simp only[RepL]at h;subst h;simpa using h'
 |x::l,l',us,us',h,h'=>by
  simp only[RepL]at h;obtain⟨u,us1,rfl,h2,h3⟩:=h;simp only[List.cons_append,RepL];exact⟨u,us1++us',rfl,h2,RepL.append h3 h'⟩
def RepL.take{U:F->F}{w:H}:∀ {l:C AV} {us:C B} (n:F),RepL U w l us->RepL U w (l.take n) (us.take n)
 |[],us,n,h=>by simp only[RepL]at h;subst h;simp[RepL]
 |x::l,us,0,h=>by simp[RepL]
 |x::l,us,n+1,h=>by
  simp only[RepL]at h;obtain⟨u,us1,rfl,h2,h3⟩:=h;simp only[Q6,RepL];exact⟨u,us1.take n,rfl,h2,RepL.take n h3⟩
def RepL.drop{U:F->F}{w:H}:∀ {l:C AV} {us:C B} (n:F),RepL U w l us->RepL U w (l.drop n) (us.drop n)
 |[],us,n,h=>by simp only[RepL]at h;subst h;simp[RepL]
 |x::l,us,0,h=>by simpa using h
 |x::l,us,n+1,h=>by
  simp only[RepL]at h;obtain⟨u,us1,rfl,h2,h3⟩:=h;simpa using RepL.drop n h3
def RepL.set{U:F->F}{w:H}:∀ {l:C AV} {us:C B} (n:F) {x:AV} {u:B},RepL U w l us->Rep U w x u->RepL U w (l.set n x) (us.set n u)
 |[],us,n,x,u,h,_=>by simp only[RepL]at h;subst h;simp[RepL]
 |y::l,us,0,x,u,h,hx=>by
  simp only[RepL]at h;obtain⟨v,us1,rfl,h2,h3⟩:=h;simp only[Q9,RepL];exact⟨u,us1,rfl,hx,h3⟩
 |y::l,us,n+1,x,u,h,hx=>by
  simp only[RepL]at h;obtain⟨v,us1,rfl,h2,h3⟩:=h;simp only[Ia,RepL];exact⟨v,us1.set n u,rfl,h2,RepL.set n h3 hx⟩
def RepP(G:Gh)(w:H):PV->B->Prop
 | .av x,u=>Rep G.U w x u
 | .ptr b o,u=>∃ blk,G.ow (b,0)=J blk/\u=.pointer (J ⟨blk,o,E⟩)
 | .mp b,u=>∃ blk,G.ow (b,0)=J blk/\u=.map (J blk)
def RepPs(G:Gh)(w:H):C PV->C B->Prop
 |[],us=>us=[]
 |x::l,us=>∃ u us',us=u::us'/\RepP G w x u/\RepPs G w l us'
def CapZ(G:Gh)(w:H)(a:R Jc):Prop:=a=E\/∃ ad e,a=J ad/\1<=G.U ad.block/\TyB w ad.block e
def RepOwn(G:Gh)(w:H)(k:Key)(g sz:F)(l:C AV)(u:B):Prop:=
 0<k.2/\g<=G.gen k/\∃ a cap es,u=.slice a l.length cap/\RepL G.U w l es/\(∀e∈es,e.cells.size=sz)/\l.length<=cap/\(a=E->es=[])/\(∀ad,a=J ad->ad.spot=E)/\Lies G.U w a (Va3 es)/\
   (G.gen k=g->(cap=0/\CapZ G w a)\/∃ b off arr e,a=J ⟨b,off,E⟩/\G.ow k=J b/\w.heap[b]? =J (.cells arr e (0,0))/\off+cap*sz<=arr.size/\G.U b=off+l.length*sz/\e+1=k.2)
def RepC(G:Gh)(w:H):CV->B->Prop
 | .av x,u=>Rep G.U w x u
 | .nil,u=>u=.slice E 0 0
 | .own k g sz l,u=>RepOwn G w k g sz l u
def RepCs(G:Gh)(w:H):C CV->C B->Prop
 |[],us=>us=[]
 |x::l,us=>∃ u us',us=u::us'/\RepC G w x u/\RepCs G w l us'
def RepX(G:Gh)(w:H):XV->B->Prop
 | .c x,u=>RepC G w x u
 | .a l,u=>∃ us,u=.agg us/\RepCs G w l us.toList/\∀ x∈us.toList,x.oneCell'=V
def RepXs(G:Gh)(w:H):C XV->C B->Prop
 |[],us=>us=[]
 |x::l,us=>∃ u us',us=u::us'/\RepX G w x u/\RepXs G w l us'
def RepS(G:Gh)(w:H):SV->B->Prop
 | .junk,_=>O
 | .nil,u=>u=.slice E 0 0
 | .av x,u=>Rep G.U w x u
 | .ptr b o,u=>∃ blk,G.ow (b,0)=J blk/\u=.pointer (J ⟨blk,o,E⟩)
 | .mp b,u=>∃ blk,G.ow (b,0)=J blk/\u=.map (J blk)
 | .own k g sz l,u=>RepOwn G w k g sz l u
 | .fn f fs cs,u=>∃ vs us,u=.func (.func f) vs us/\RepPs G w fs vs.toList/\RepPs G w cs us.toList
 | .vs b n,u=>(n=0/\u=.slice E 0 0/\G.ow (b,0)=E)\/∃ blk,blk<w.heap.size/\G.ow (b,0)=J blk/\u=.slice (J ⟨blk,0,E⟩) n (G.cp blk)/\n<=G.cp blk
 | .vw b sz o n,u=>∃ a cap,u=.slice a n cap/\n<=cap/\(n=0\/∃ blk,G.ow (b,0)=J blk/\a=J ⟨blk,o*sz,E⟩)
 | .vp b sz i o,u=>∃ blk,G.ow (b,0)=J blk/\u=.pointer (J ⟨blk,i.toNat*sz+o,E⟩)
 | .son b,u=>u=.pointer E\/∃ blk,G.ow (b,0)=J blk/\u=.pointer (J ⟨blk,0,E⟩)
 | .ag l,u=>∃ us,u=.agg us/\RepCs G w l us.toList/\∀ x∈us.toList,x.oneCell'=V
 | .tp l,u=>∃ us,u=.tuple us/\RepXs G w l us.toList
 | .clo l,u=>(∃b off,u=.slice (J ⟨b,off,E⟩) l.length l.length)/\Rep G.U w (.sl l) u
def CV.toSV:CV->SV
 | .av x=>.av x
 | .nil=>.nil
 | .own k g sz l=>.own k g sz l
def XV.toSV:XV->SV
 | .c x=>x.toSV
 | .a l=>.ag l
def CV.toAV:CV->AV
 | .av x=>x
 | .nil=>.sl []
 | .own _ _ _ l=>.sl l
def XV.toAV:XV->AV
 | .c x=>x.toAV
 | .a l=>.agg (l.map CV.toAV)
def RepC.toSV{G:Gh}{w:H}{x:CV}{u:B}(h:RepC G w x u):RepS G w x.toSV u:=by cases x <;>exact h
def RepX.toSV{G:Gh}{w:H}{x:XV}{u:B}(h:RepX G w x u):RepS G w x.toSV u:=by
 cases x with
 |c x=>exact RepC.toSV h
 |a l=>exact h
def RepXs.get{G:Gh}{w:H}:∀ {l:C XV} {us:C B},RepXs G w l us->∀(i:F) x,l[i]? =J x->∃ u,us[i]? =J u/\RepX G w x u
 |[],_,_,i,x,hx=>by simp at hx
 |y::l,us,h,i,x,hx=>by
  obtain⟨u,us',rfl,h2,h3⟩:=h;cases i with
  |zero=>simp at hx;subst hx;exact⟨u,rfl,h2⟩
  |succ i=>simp at hx;obtain⟨v,hv,hr⟩:=RepXs.get h3 i x hx;exact⟨v,by simpa using hv,hr⟩
def RepSs(G:Gh)(w:H):C SV->C B->Prop
 |[],us=>us=[]
 |x::l,us=>∃ u us',us=u::us'/\RepS G w x u/\RepSs G w l us'
def PV.keys:PV->C Key
 | .av _=>[]
 | .ptr b _=>[(b,0)]
 | .mp b=>[(b,0)]
def SV.keys:SV->C Key
 | .ptr b _=>[(b,0)]
 | .mp b=>[(b,0)]
 | .fn _ fs cs=>fs.flatMap PV.keys++cs.flatMap PV.keys
 | .son b=>[(b,0)]
 | .vs b _=>[(b,0)]
 | .vp b _ _ _=>[(b,0)]
 | .vw b _ _ _=>[(b,0)]
 |_=>[]
def Keep(G:Gh)(w:H)(G':Gh)(w':H)(κ:Key):Prop:=
 G'.ow κ=G.ow κ/\∀ b,G.ow κ=J b->w'.heap[b]? =w.heap[b]? /\G'.U b=G.U b
structure Ext (G:Gh) (w:H) (G':Gh) (w':H):Prop where
 U:∀ b,G.U b<=G'.U b
 imm:Imm G.U w w'
 size:w.heap.size<=w'.heap.size
 os:w'.os=w.os
 tape:(w'.tape,G'.df)=(w.tape,G.df)
 output:w'.output=w.output
 cp:∀ b,b<w.heap.size->G'.cp b=G.cp b
 gen:∀ κ,G.gen κ<=G'.gen κ
 tok:∀ κ:Key,0<κ.2->G'.gen κ=G.gen κ->Keep G w G' w' κ
def Ext.df{G G':Gh}{w w':H}(h:Ext G w G' w'):G'.df=G.df:=Xg Prod.snd h.tape
def Ext.tp{G G':Gh}{w w':H}(h:Ext G w G' w'):w'.tape=w.tape:=Xg Prod.fst h.tape
def RepP.persist{G G':Gh}{w w':H}(h:Ext G w G' w'){p:PV}{u:B}(hk:∀ κ∈p.keys,G'.ow κ=G.ow κ)(hr:RepP G w p u):RepP G' w' p u:=by
 cases p with
 |av x=>exact Rep.mono h.U h.imm x u hr
 |ptr b o=>obtain⟨blk,h1,h2⟩:=hr;exact⟨blk,by rw[hk (b,0) (by simp[PV.keys])];exact h1,h2⟩
 |mp b=>obtain⟨blk,h1,h2⟩:=hr;exact⟨blk,by rw[hk (b,0) (by simp[PV.keys])];exact h1,h2⟩
def RepPs.persist{G G':Gh}{w w':H}(h:Ext G w G' w'):∀ {l:C PV} {us:C B},(∀κ∈l.flatMap PV.keys,G'.ow κ=G.ow κ)->RepPs G w l us->RepPs G' w' l us
 |[],_,_,hr=>hr
 |p::l,us,hk,hr=>by
  obtain⟨u,us',h1,h2,h3⟩:=hr;refine⟨u,us',h1,h2.persist h (λκ hκ=>hk κ (by simp[hκ])),RepPs.persist h (λκ hκ=>hk κ ?_) h3⟩;simp only[Zm,Zd];exact .inr hκ
def CapZ.persist{G G':Gh}{w w':H}(h:Ext G w G' w'){a:R Jc}(hz:CapZ G w a):CapZ G' w' a:=by
 rcases hz with h1|⟨ad,e,h1,h2,h3⟩
 ·exact .inl h1
 ·exact .inr ⟨ad,e,h1,Z3 h2 (h.U _),h.imm.typ _ _ h2 h3⟩
def RepOwn.persist{G G':Gh}{w w':H}(h:Ext G w G' w'){k:Key}{g sz:F}{l:C AV}{u:B}(hr:RepOwn G w k g sz l u):RepOwn G' w' k g sz l u:=by
 obtain⟨h0,hg,a,cap,es,h1,h2,h3,h4,hn,hsp,h5,h6⟩:=hr;refine⟨h0,Z3 hg (h.gen k),a,cap,es,h1,RepL.mono h.U h.imm _ _ h2,h3,h4,hn,hsp,h5.mono h.U h.imm,λhgen=>?_⟩;have hge:=h.gen k;have heq:G'.gen k=G.gen k:=kv;rcases h6 kv with h6|⟨b,off,arr,e,h7,h8,h9,h10,h11,h12⟩
 ·exact .inl ⟨h6.1,h6.2.persist h⟩
 ·obtain⟨k1,k2⟩:=h.tok k h0 heq;obtain⟨k3,k4⟩:=k2 b h8;exact .inr ⟨b,off,arr,e,h7,by rw[k1];exact h8,by rw[k3];exact h9,h10,by rw[k4];exact h11,h12⟩
def RepC.persist{G G':Gh}{w w':H}(h:Ext G w G' w'){x:CV}{u:B}(hr:RepC G w x u):RepC G' w' x u:=by
 cases x with
 |av x=>exact Rep.mono h.U h.imm x u hr
 |nil=>exact hr
 |own k g sz l=>exact RepOwn.persist h hr
def RepCs.persist{G G':Gh}{w w':H}(h:Ext G w G' w'):∀ {l:C CV} {us:C B},RepCs G w l us->RepCs G' w' l us
 |[],_,hr=>hr
 |x::l,us,hr=>by obtain⟨u,us',h1,h2,h3⟩:=hr;exact⟨u,us',h1,h2.persist h,RepCs.persist h h3⟩
def RepX.persist{G G':Gh}{w w':H}(h:Ext G w G' w'){x:XV}{u:B}(hr:RepX G w x u):RepX G' w' x u:=by
 cases x with
 |c x=>exact RepC.persist h hr
 |a l=>obtain⟨us,h1,h2,h3⟩:=hr;exact⟨us,h1,h2.persist h,h3⟩
def RepXs.persist{G G':Gh}{w w':H}(h:Ext G w G' w'):∀ {l:C XV} {us:C B},RepXs G w l us->RepXs G' w' l us
 |[],_,hr=>hr
 |x::l,us,hr=>by obtain⟨u,us',h1,h2,h3⟩:=hr;exact⟨u,us',h1,h2.persist h,RepXs.persist h h3⟩
def RepS.persist{G G':Gh}{w w':H}(h:Ext G w G' w'){s:SV}{u:B}(ho:∀ κ∈s.keys,G'.ow κ=G.ow κ)(hr:RepS G w s u):RepS G' w' s u:=by
 cases s with
 |junk=>trivial
 |nil=>exact hr
 |av x=>exact Rep.mono h.U h.imm x u hr
 |ptr b o=>obtain⟨blk,h1,h2⟩:=hr;exact⟨blk,by rw[ho (b,0) (by simp[SV.keys])];exact h1,h2⟩
 |mp b=>obtain⟨blk,h1,h2⟩:=hr;exact⟨blk,by rw[ho (b,0) (by simp[SV.keys])];exact h1,h2⟩
 |own k g sz l=>exact RepOwn.persist h hr
 |ag l=>obtain⟨us,h1,h2,h3⟩:=hr;exact⟨us,h1,h2.persist h,h3⟩
 |tp l=>obtain⟨us,h1,h2⟩:=hr;exact⟨us,h1,h2.persist h⟩
 |clo l=>exact⟨hr.1,Rep.mono h.U h.imm _ u hr.2⟩
 |vs b n=>
  rcases hr with⟨h1,h2,h3⟩|⟨blk,h0,h1,h2,h3⟩
  ·exact .inl ⟨h1,h2,by rw[ho (b,0) (by simp[SV.keys])];exact h3⟩
  ·exact .inr ⟨blk,Yg h0 h.size,by rw[ho (b,0) (by simp[SV.keys])];exact h1,by rw[h.cp blk h0];exact h2,by rw[h.cp blk h0];exact h3⟩
 |vp b sz i o=>obtain⟨blk,h1,h2⟩:=hr;exact⟨blk,by rw[ho (b,0) (by simp[SV.keys])];exact h1,h2⟩
 |vw b sz o n=>
  obtain⟨a,cap,h1,h2,h3⟩:=hr;exact⟨a,cap,h1,h2,h3.imp id (λ⟨blk,h4,h5⟩=>⟨blk,by rw[ho (b,0) (by simp[SV.keys])];exact h4,h5⟩)⟩
 |son b=>
  rcases hr with h1|⟨blk,h1,h2⟩
  ·exact .inl h1
  ·exact .inr ⟨blk,by rw[ho (b,0) (by simp[SV.keys])];exact h1,h2⟩
 |fn f fs cs=>
  obtain⟨vs,us,h1,h2,h3⟩:=hr;refine⟨vs,us,h1,h2.persist h (λκ hκ=>ho κ ?_),h3.persist h (λκ hκ=>ho κ ?_)⟩
  ·simp only[SV.keys,Zd];exact .inl hκ
  ·simp only[SV.keys,Zd];exact .inr hκ
def RepSs.map{G G':Gh}{w w':H}{φ:SV->SV}(hφ:∀ s u,RepS G w s u->RepS G' w' (φ s) u):∀ {l:C SV} {us:C B},RepSs G w l us->RepSs G' w' (l.map φ) us
 |[],_,hr=>hr
 |p::l,us,hr=>by
  obtain⟨u,us',h1,h2,h3⟩:=hr;exact⟨u,us',h1,hφ _ _ h2,RepSs.map hφ h3⟩
def RepSs.length{G:Gh}{w:H}:∀ {l:C SV} {us:C B},RepSs G w l us->us.length=l.length
 |[],_,h=>by simp only[RepSs]at h;simp[h]
 |x::l,us,h=>by
  obtain⟨u,us',rfl,_,h3⟩:=h;simp[RepSs.length h3]
def RepSs.get{G:Gh}{w:H}:∀ {l:C SV} {us:C B},RepSs G w l us->∀(i:F) x,l[i]? =J x->∃ u,us[i]? =J u/\RepS G w x u
 |[],_,_,i,x,hx=>by simp at hx
 |y::l,us,h,i,x,hx=>by
  obtain⟨u,us',rfl,h2,h3⟩:=h;cases i with
  |zero=>simp at hx;subst hx;exact⟨u,rfl,h2⟩
  |succ i=>simp at hx;obtain⟨v,hv,hr⟩:=RepSs.get h3 i x hx;exact⟨v,by simpa using hv,hr⟩
def RepSs.append{G:Gh}{w:H}:∀ {l l':C SV} {us us':C B},RepSs G w l us->RepSs G w l' us'->RepSs G w (l++l') (us++us')
 |[],_,_,_,h,h'=>by simp only[RepSs]at h;subst h;simpa using h'
 |x::l,l',us,us',h,h'=>by
  obtain⟨u,us1,rfl,h2,h3⟩:=h;exact⟨u,us1++us',rfl,h2,RepSs.append h3 h'⟩
def RepSs.take{G:Gh}{w:H}:∀ {l:C SV} {us:C B} (n:F),RepSs G w l us->RepSs G w (l.take n) (us.take n)
 |[],us,n,h=>by simp only[RepSs]at h;subst h;simp[RepSs]
 |x::l,us,0,h=>by simp[RepSs]
 |x::l,us,n+1,h=>by
  obtain⟨u,us1,rfl,h2,h3⟩:=h;exact⟨u,us1.take n,rfl,h2,RepSs.take n h3⟩
def RepSs.drop{G:Gh}{w:H}:∀ {l:C SV} {us:C B} (n:F),RepSs G w l us->RepSs G w (l.drop n) (us.drop n)
 |[],us,n,h=>by simp only[RepSs]at h;subst h;simp[RepSs]
 |x::l,us,0,h=>by simpa using h
 |x::l,us,n+1,h=>by
  obtain⟨u,us1,rfl,h2,h3⟩:=h;simpa using RepSs.drop n h3
def SV.toAV:SV->R AV
 | .nil=>J (.sl [])
 | .av x=>J x
 | .own _ _ _ l=>J (.sl l)
 | .ag l=>J (.agg (l.map CV.toAV))
 | .clo l=>J (.sl l)
 |_=>E
def Vfj(U:F->F)(w:H):Rep U w (.sl []) (.slice E 0 0):=by
 simp only[Rep];exact⟨E,0,[],0,rfl,by simp[RepL],ku,ku,Zk _,ku,.inl (by simp[Va3])⟩
def RepS.own_sl{G:Gh}{w:H}{k:Key}{g sz:F}{l:C AV}{u:B}(h:RepS G w (.own k g sz l) u):Rep G.U w (.sl l) u:=by
 obtain⟨_,_,a,cap,es,h1,h2,h3,h4,hn,hsp,h5,h6⟩:=h;simp only[Rep];exact⟨a,cap,es,sz,h1,h2,h3,hn,h4,λ_=>hsp,h5⟩
def RepC.toAV{G:Gh}{w:H}{x:CV}{u:B}(h:RepC G w x u):Rep G.U w x.toAV u:=by
 cases x with
 |av x=>exact h
 |nil=>simp only[RepC]at h;subst h;exact Vfj _ _
 |own k g sz l=>exact RepS.own_sl (show RepS G w (.own k g sz l) u from h)
def RepCs.toAV{G:Gh}{w:H}:∀ {l:C CV} {us:C B},RepCs G w l us->RepL G.U w (l.map CV.toAV) us
 |[],_,h=>by simp only[Jf,RepL];exact h
 |x::l,us,h=>by obtain⟨u,us',h1,h2,h3⟩:=h;simp only[Z9,RepL];exact⟨u,us',h1,h2.toAV,RepCs.toAV h3⟩
def RepX.toAV{G:Gh}{w:H}{x:XV}{u:B}(h:RepX G w x u):Rep G.U w x.toAV u:=by
 cases x with
 |c x=>exact RepC.toAV h
 |a l=>obtain⟨us,h1,h2,h3⟩:=h;simp only[XV.toAV,Rep];exact⟨us,h1,h2.toAV,h3⟩
def RepXs.toAV{G:Gh}{w:H}:∀ {l:C XV} {us:C B},RepXs G w l us->RepL G.U w (l.map XV.toAV) us
 |[],_,h=>by simp only[Jf,RepL];exact h
 |x::l,us,h=>by obtain⟨u,us',h1,h2,h3⟩:=h;simp only[Z9,RepL];exact⟨u,us',h1,h2.toAV,RepXs.toAV h3⟩
def RepS.toAV{G:Gh}{w:H}{s:SV}{u:B}{x:AV}(h:RepS G w s u)(hx:s.toAV=J x):Rep G.U w x u:=by
 cases s with
 |nil=>simp[SV.toAV]at hx;subst hx;simp only[RepS]at h;subst h;exact Vfj _ _
 |av y=>simp[SV.toAV]at hx;subst hx;exact h
 |own k g sz l=>simp[SV.toAV]at hx;subst hx;exact h.own_sl
 |ag l=>simp only[SV.toAV,T]at hx;subst hx;obtain⟨us,h1,h2,h3⟩:=h;simp only[Rep];exact⟨us,h1,h2.toAV,h3⟩
 |clo l=>simp only[SV.toAV,T]at hx;subst hx;exact h.2
 |_=>simp[SV.toAV]at hx
structure Wf (G:Gh) (w:H):Prop where
 inj:∀ κ κ' b,G.ow κ=J b->G.ow κ'=J b->κ=κ'
 lt:∀ κ b,G.ow κ=J b->b<w.heap.size
 zero:∀ b,w.heap.size<=b->G.U b=0
structure Step (G:Gh) (w:H) (G':Gh) (w':H):Prop extends Ext G w G' w' where
 stay:∀ b,b<w.heap.size->(∀κ,G.ow κ≠J b)->w'.heap[b]? =w.heap[b]? /\G'.U b=G.U b
 rng:∀ κ b,G'.ow κ=J b->(∃κ',G.ow κ'=J b)\/w.heap.size<=b
def Imm.trans{U U':F->F}{a b c:H}(h:Imm U a b)(hU:∀ i,U i<=U' i)(h':Imm U' b c):Imm U a c:=
 ⟨λk o ho=>(h'.cell k o (Yg ho (hU k))).trans (h.cell k o ho),λk es cl hk hh=>h'.map k es cl (Z3 hk (hU k)) (h.map k es cl hk hh),λk e hk hh=>h'.typ k e (Z3 hk (hU k)) (h.typ k e hk hh),λk o n hk hn hh=>h'.frz k o n (Z3 hk (hU k)) hn (h.frz k o n hk hn hh),λk e hk he hh=>h'.pln k e (Z3 hk (hU k)) he (h.pln k e hk he hh)⟩
def Imm.refl(U:F->F)(w:H):Imm U w w:=⟨λ_ _ _=>rfl,λ_ _ _ _ h=>h,λ_ _ _ h=>h,λ_ _ _ _ _ h=>h,λ_ _ _ _ h=>h⟩
def Keep.trans{G G' G'':Gh}{w w' w'':H}{κ:Key}(h:Keep G w G' w' κ)(k:Keep G' w' G'' w'' κ):Keep G w G'' w'' κ:=
 ⟨k.1.trans h.1,λb hb=>⟨(k.2 b (by rw[h.1];exact hb)).1.trans (h.2 b hb).1,(k.2 b (by rw[h.1];exact hb)).2.trans (h.2 b hb).2⟩⟩
def Ext.refl(G:Gh)(w:H):Ext G w G w:=⟨λ_=>Zk _,Imm.refl _ _,Zk _,rfl,rfl,rfl,λ_ _=>rfl,λ_=>Zk _,λ_ _ _=>⟨rfl,λ_ _=>⟨rfl,rfl⟩⟩⟩
def Ext.trans{G G' G'':Gh}{w w' w'':H}(h:Ext G w G' w')(k:Ext G' w' G'' w''):Ext G w G'' w'':=
 ⟨λb=>Z3 (h.U b) (k.U b),h.imm.trans h.U k.imm,Z3 h.size k.size,k.os.trans h.os,k.tape.trans h.tape,k.output.trans h.output,λb hb=>(k.cp b (Yg hb h.size)).trans (h.cp b hb),λκ=>Z3 (h.gen κ) (k.gen κ),
  λκ h0 he=>by
   have h1:=h.gen κ;have h2:=k.gen κ
   exact(h.tok κ h0 kv).trans (k.tok κ h0 kv)⟩
def Step.refl(G:Gh)(w:H):Step G w G w:=⟨Ext.refl G w,λ_ _ _=>⟨rfl,rfl⟩,λκ _ h=>.inl ⟨κ,h⟩⟩
def Step.trans{G G' G'':Gh}{w w' w'':H}(h:Step G w G' w')(k:Step G' w' G'' w''):Step G w G'' w'':=by
 refine⟨h.toExt.trans k.toExt,λb hb hn=>?_,λκ b hb=>?_⟩
 ·obtain⟨h1,h2⟩:=h.stay b hb hn;have hn':∀ κ,G'.ow κ≠J b:=by
   intro κ hκ;rcases h.rng κ b hκ with⟨κ',h'⟩|h'
   ·exact hn κ' h'
   ·omega
  obtain⟨k1,k2⟩:=k.stay b (Yg hb h.size) hn';exact⟨k1.trans h1,k2.trans h2⟩
 ·rcases k.rng κ b hb with⟨κ',h'⟩|h'
  ·exact h.rng κ' b h'
  ·exact .inr (Z3 h.size h')
def ABox.svs:ABox->C SV
 | .cells _ l=>l
 | .map _ _=>[]
 | .vec _ _ _=>[]
 | .ge _=>[]
 | .it _ _=>[]
 | .vck _ _ _=>[]
 | .gl _ _=>[]
 | .mi _ l=>l
def RepB(G:Gh)(w:H)(id:F):ABox->Prop
 | .cells e l=>∃ blk arr,G.ow (id,0)=J blk/\w.heap[blk]? =J (.cells arr e (0,0))/\G.U blk=0/\RepSs G w l arr.toList/\∀ x∈arr.toList,x.oneCell'=V
 | .map ks vs=>∃ blk ents clock,G.ow (id,0)=J blk/\w.heap[blk]? =J (.map ents clock)/\G.U blk=0/\ents.toList.map (·.key)=ks.map .string/\RepL G.U w vs (ents.toList.map (·.val))/\∀ e∈ents.toList,e.born<clock
 | .ge n=>n<=w.heap.size
 | .mi ks l=>∃ blk ents clock,G.ow (id,0)=J blk/\w.heap[blk]? =J (.map ents clock)/\G.U blk=0/\ents.toList.map (·.key)=ks.map (.int .i64)/\RepSs G w l (ents.toList.map (·.val))/\∀ e∈ents.toList,e.born<clock
 | .gl b vs=>∃ e m,G.ow (id,0)=J b/\w.heap[b]? =J (.cells vs.toArray e m)
 | .it s pos=>∃ blk,blk<w.heap.size/\G.ow (id,0)=J blk/\w.heap[blk]? =J (.stringIter s pos)/\G.U blk=0
 | .vck e sz l=>(l=[]/\G.ow (id,0)=E)\/∃ blk arr es,blk<w.heap.size/\G.ow (id,0)=J blk/\w.heap[blk]? =J (.cells arr e (0,0))/\G.U blk=0/\G.cp blk*sz<=arr.size/\RepL G.U w l es/\(∀x∈es,x.cells.size=sz)/\(∃rest,arr.toList=Va3 es++rest)/\∀ c∈Va3 es,c.oneCell'=V
 | .vec e sz l=>(l=[]/\G.ow (id,0)=E)\/∃ blk arr es,blk<w.heap.size/\G.ow (id,0)=J blk/\w.heap[blk]? =J (.cells arr e (0,0))/\G.U blk=0/\G.cp blk*sz<=arr.size/\RepL G.U w l es/\(∀x∈es,x.cells.size=sz)/\(∃rest,arr.toList=Va3 es++rest)/\∀ c∈Va3 es,c.oneCell'=V
def RepSs.persistL{G G':Gh}{w w':H}(h:Ext G w G' w'):∀ {l:C SV} {us:C B},(∀κ∈l.flatMap SV.keys,G'.ow κ=G.ow κ)->RepSs G w l us->RepSs G' w' l us
 |[],_,_,hr=>hr
 |s::l,us,ho,hr=>by
  obtain⟨u,us',e1,e2,e3⟩:=hr;exact⟨u,us',e1,e2.persist h (λκ hκ=>ho κ (by simp[hκ])),RepSs.persistL h (λκ hκ=>ho κ (by simp only[Zm,Zd];exact .inr hκ)) e3⟩
def RepB.persist{G G':Gh}{w w':H}(h:Ext G w G' w'){id:F}{x:ABox}(hk:Keep G w G' w' (id,0))(ho:∀ κ∈x.svs.flatMap SV.keys,G'.ow κ=G.ow κ)(hr:RepB G w id x):RepB G' w' id x:=by
 cases x with
 |cells e l=>
  obtain⟨blk,arr,h1,h2,h3,h4,h5⟩:=hr;obtain⟨k1,k2⟩:=hk;obtain⟨k3,k4⟩:=k2 blk h1;refine⟨blk,arr,by rw[k1];exact h1,by rw[k3];exact h2,by rw[k4];exact h3,?_,h5⟩;exact RepSs.persistL h ho h4
 |mi ks l=>
  obtain⟨blk,ents,clock,h1,h2,h3,h4,h5,h6⟩:=hr;obtain⟨k1,k2⟩:=hk;obtain⟨k3,k4⟩:=k2 blk h1;exact⟨blk,ents,clock,by rw[k1];exact h1,by rw[k3];exact h2,by rw[k4];exact h3,h4,RepSs.persistL h ho h5,h6⟩
 |map ks vs=>
  obtain⟨blk,ents,clock,h1,h2,h3,h4,h5,h6⟩:=hr;obtain⟨k1,k2⟩:=hk;obtain⟨k3,k4⟩:=k2 blk h1;exact⟨blk,ents,clock,by rw[k1];exact h1,by rw[k3];exact h2,by rw[k4];exact h3,h4,RepL.mono h.U h.imm _ _ h5,h6⟩
 |ge n=>exact Z3 hr h.size
 |gl b vs=>
  obtain⟨e,m,h1,h2⟩:=hr;obtain⟨k1,k2⟩:=hk;exact⟨e,m,by rw[k1];exact h1,by rw[(k2 b h1).1];exact h2⟩
 |it s pos=>
  obtain⟨blk,h0,h1,h2,h3⟩:=hr;obtain⟨k1,k2⟩:=hk;obtain⟨k3,k4⟩:=k2 blk h1;exact⟨blk,Yg h0 h.size,by rw[k1];exact h1,by rw[k3];exact h2,by rw[k4];exact h3⟩
 |vec e sz l=>
  obtain⟨k1,k2⟩:=hk;rcases hr with⟨h1,h2⟩|⟨blk,arr,es,h0,h1,h2,h3,h4,h5,h6,h7⟩
  ·exact .inl ⟨h1,by rw[k1];exact h2⟩
  ·obtain⟨k3,k4⟩:=k2 blk h1;exact .inr ⟨blk,arr,es,Yg h0 h.size,by rw[k1];exact h1,by rw[k3];exact h2,by rw[k4];exact h3,by rw[h.cp blk h0];exact h4,RepL.mono h.U h.imm _ _ h5,h6,h7⟩
 |vck e sz l=>
  obtain⟨k1,k2⟩:=hk;rcases hr with⟨h1,h2⟩|⟨blk,arr,es,h0,h1,h2,h3,h4,h5,h6,h7⟩
  ·exact .inl ⟨h1,by rw[k1];exact h2⟩
  ·obtain⟨k3,k4⟩:=k2 blk h1;exact .inr ⟨blk,arr,es,Yg h0 h.size,by rw[k1];exact h1,by rw[k3];exact h2,by rw[k4];exact h3,by rw[h.cp blk h0];exact h4,RepL.mono h.U h.imm _ _ h5,h6,h7⟩
def St.gen(S:St)(k:Key):Nat:=(S.gn.lookup k).getD 0
structure Rel (G:Gh) (w:H) (S:St) (a:Qr):Prop where
 wf:Wf G w
 size:S.fr.length=a.tmps.size
 fr:∀(t:F) s,S.fr[t]? =J s->RepS G w s (a.tmps.getD t Z7)
 bx:∀ p∈S.bx,RepB G w p.1 p.2
 gn:∀ k:Key,G.gen k=S.gen k
 defers:a.defers=G.df
def Rel.keep{G G':Gh}{w w':H}{S:St}{a:Qr}(h:Rel G w S a)(he:Ext G w G' w')(hw:Wf G' w')(hk:∀ κ:Key,κ.2=0->Keep G w G' w' κ)(hg:G'.gen=G.gen):Rel G' w' S a:=by
 have hkeys:∀(s:SV) κ,κ∈s.keys->κ.2=0:=by
  intro s κ hκ;cases s <;>simp only[SV.keys,Ys,Im,or_false,Zd,Z6]at hκ
  ·rw[hκ]
  ·rw[hκ]
  ·rcases hκ with⟨p,_,hp⟩|⟨p,_,hp⟩ <;>(cases p <;>simp[PV.keys]at hp <;>rw[hp])
  ·rw[hκ]
  ·rw[hκ]
  ·rw[hκ]
  ·rw[hκ]
 exact⟨hw,h.size,λt s ht=>(h.fr t s ht).persist he (λκ hκ=>(hk κ (hkeys s κ hκ)).1),
  λp hp=>(h.bx p hp).persist he (hk _ rfl) (λκ hκ=>by
   simp only[Z6]at hκ;obtain⟨s,_,hs⟩:=hκ
   exact(hk κ (hkeys s κ hs)).1),λk=>by rw[hg];exact h.gn k,h.defers.trans he.df.symm⟩
def SV.keys_zero(s:SV):∀ κ,κ∈s.keys->κ.2=0:=by
 intro κ hκ;cases s <;>simp only[SV.keys,Ys,Im,or_false,Zd,Z6]at hκ
 ·rw[hκ]
 ·rw[hκ]
 ·rcases hκ with⟨p,_,hp⟩|⟨p,_,hp⟩ <;>(cases p <;>simp[PV.keys]at hp <;>rw[hp])
 ·rw[hκ]
 ·rw[hκ]
 ·rw[hκ]
 ·rw[hκ]
def eqs(s t:Ze):Bool:=s.data.toList==t.data.toList
def Vnl(s t:Ze):(s.toList==t.toList)=eqs s t:=by simp only[eqs,Q3]
def Vav:SV:=.av (.tup [])
def Vds:B->AV
 | .slice E 0 0=>.sl []
 |v=>.val v
def Vpf:B->CV
 | .slice E 0 0=>.nil
 |v=>.av (.val v)
def isNilV:B->Xe
 | .slice E 0 0=>V
 |_=>A
def Vga:B->SV
 | .slice E 0 0=>.nil
 | .agg cs=>if cs.toList.all (λc=>c.oneCell')then(if cs.toList.any isNilV then .ag (cs.toList.map Vpf)else .av (.agg (cs.toList.map Vds)))else .junk
 | .tuple _=>.junk
 |v=>.av (.val v)
def PV.toSV:PV->SV
 | .av x=>.av x
 | .ptr b o=>.ptr b o
 | .mp b=>.mp b
def SV.toPV:SV->R PV
 | .nil=>J (.av (.sl []))
 | .av x=>J (.av x)
 | .own _ _ _ l=>J (.av (.sl l))
 | .ag l=>J (.av (.agg (l.map CV.toAV)))
 | .clo l=>J (.av (.sl l))
 | .ptr b o=>J (.ptr b o)
 | .mp b=>J (.mp b)
 |_=>E
def SV.norm:SV->SV
 | .nil=>.av (.sl [])
 | .own _ _ _ l=>.av (.sl l)
 | .ag l=>.av (.agg (l.map CV.toAV))
 | .tp l=>.av (.tup (l.map XV.toAV))
 | .clo l=>.av (.sl l)
 |s=>s
def St.ev(S:St):X->SV
 | .tmp t=>S.fr.getD t .junk
 | .const v=>Vga v
 | .global _=>.junk
 | .func f=>.fn f [] []
def St.put(S:St)(d:R Tmp)(v:SV):St:=
 match d with
 |some d=>{S with fr:=S.fr.set d v}
 |none=>S
def Vmd{U:F->F}{w:H}(v:B)(h:v.oneCell'=V):Rep U w (Vds v) v:=by
 unfold Vds
 split
 ·exact Vfj U w
 ·simp only[Rep];exact⟨Yq,h⟩
def Vep{U:F->F}{w:H}:∀(l:C B),(∀c∈l,c.oneCell'=V)->RepL U w (l.map Vds) l
 |[],_=>by simp[RepL]
 |c::l,h=>by
  simp only[Z9,RepL];exact⟨c,l,rfl,Vmd c (h c ku),Vep l (λx hx=>h x (by simp[hx]))⟩
def RepC_const(G:Gh)(w:H)(v:B)(h:v.oneCell'=V):RepC G w (Vpf v) v:=by
 unfold Vpf
 split
 ·rfl
 ·simp only[RepC,Rep];exact⟨Yq,h⟩
def Vmh(G:Gh)(w:H):∀(l:C B),(∀c∈l,c.oneCell'=V)->RepCs G w (l.map Vpf) l
 |[],_=>rfl
 |c::l,h=>⟨c,l,rfl,RepC_const G w c (h c ku),Vmh G w l (λx hx=>h x (by simp[hx]))⟩
def Vo5(G:Gh)(w:H)(v:B):RepS G w (Vga v) v:=by
 unfold Vga
 split
 ·rfl
 ·split
  ·rename_i cs h;have h':∀ c∈cs.toList,c.oneCell'=true:=λc hc=>Yo.1 h c hc
   split
   ·exact⟨cs,rfl,Vmh G w _ h',h'⟩
   ·simp only[RepS,Rep];exact⟨cs,rfl,Vep _ h',h'⟩
  ·trivial
 ·trivial
 ·rename_i v' h1 h2 h3;simp only[RepS,Rep];refine⟨Yq,?_⟩;cases v <;>simp_all[Zi]
def Rel.ev{G:Gh}{w:H}{S:St}{a:Qr}(h:Rel G w S a)(x:X):RepS G w (S.ev x) (a.eval x):=by
 cases x with
 |tmp t=>
  simp only[St.ev,Qk,Qi];cases ht:S.fr[t]? with
  |none=>trivial
  |some s=>exact h.fr t s ht
 |const v=>exact Vo5 G w v
 |global g=>trivial
 |func f=>exact⟨#[],#[],rfl,rfl,rfl⟩
def RepS.norm{G:Gh}{w:H}{s:SV}{u:B}(h:RepS G w s u):RepS G w s.norm u:=by
 cases s with
 |nil=>simp only[RepS]at h;subst h;exact Vfj _ _
 |own k g sz l=>exact h.own_sl
 |ag l=>obtain⟨us,h1,h2,h3⟩:=h;simp only[SV.norm,RepS,Rep];exact⟨us,h1,h2.toAV,h3⟩
 |tp l=>obtain⟨us,h1,h2⟩:=h;simp only[SV.norm,RepS,Rep];exact⟨us,h1,h2.toAV⟩
 |clo l=>exact h.2
 |_=>exact h
def RepP.toSV{G:Gh}{w:H}{p:PV}{u:B}(h:RepP G w p u):RepS G w p.toSV u:=by
 cases p <;>exact h
def RepS.toPV{G:Gh}{w:H}{s:SV}{u:B}{p:PV}(h:RepS G w s u)(hp:s.toPV=J p):RepP G w p u:=by
 cases s with
 |nil=>simp[SV.toPV]at hp;subst hp;simp only[RepS]at h;subst h;exact Vfj _ _
 |av x=>simp[SV.toPV]at hp;subst hp;exact h
 |own k g sz l=>simp[SV.toPV]at hp;subst hp;exact h.own_sl
 |ag l=>simp only[SV.toPV,T]at hp;subst hp;obtain⟨us,h1,h2,h3⟩:=h;simp only[RepP,Rep];exact⟨us,h1,h2.toAV,h3⟩
 |clo l=>simp[SV.toPV]at hp;subst hp;exact h.2
 |ptr b o=>simp[SV.toPV]at hp;subst hp;exact h
 |mp b=>simp[SV.toPV]at hp;subst hp;exact h
 |_=>simp[SV.toPV]at hp
def Rel.put{G:Gh}{w:H}{S:St}{a:Qr}(h:Rel G w S a)(d:R Tmp){s:SV}{v:B}(hs:RepS G w s v):Rel G w (S.put d s) (a.put d v):=by
 cases d with
 |none=>exact h
 | some d=>
  refine⟨h.wf,by simp[St.put,Act.put,h.size],λt s' ht=>?_,h.bx,h.gn,h.defers⟩;simp only[St.put,Act.put]at ht ⊢;rw[Ih]at ht;simp only[Yl,Array.getElem?_setIfInBounds];have hsz:=h.size
  by_cases hd:d=t
  ·subst hd;simp only[Xo]at ht ⊢
   split at ht
   ·simp at ht;subst ht;rw[Qo kv];exact hs
   ·simp at ht
  ·rw[Yb hd]at ht ⊢;have:=h.fr t s' ht;simpa[Yl]using this
structure Res where
 ok:Prop
 v:SV
 st:St
def Sound(P:D)(o:L)(S:St)(r:Res):Prop:=
 r.ok->∀(G:Gh)(w:H)(a:Qr),Rel G w S a->
  ∃(nx:Next)(v:B)(w':H)(G':Gh),(execOp a.eval o).run P w=.ok nx w'/\(nx=.value v\/(nx=.skip/\v=Z7))/\
   Step G w G' w'/\Rel G' w' r.st a/\RepS G' w' r.v v/\∀ i,Fx i->G'.ow (i,0)=G.ow (i,0)
def Sound.still{P:D}{o:L}{S:St}{s:SV}{p:Prop}
  (h:p->∀(G:Gh)(w:H)(a:Qr),Rel G w S a->∃ v,(execOp a.eval o).run P w=.ok (.value v) w/\RepS G w s v):Sound P o S ⟨p,s,S⟩:=by
 intro hp G w a hr;obtain⟨v,h1,h2⟩:=h hp G w a hr;exact⟨_,v,w,G,h1,.inl rfl,Step.refl G w,hr,h2,λ_ _=>rfl⟩
def bAnd(k:Yi)(x y:Qb):Int:=k.wrap ((Y2 k.bits x &&& Y2 k.bits y).toNat:Qb)
def bOr(k:Yi)(x y:Qb):Int:=k.wrap ((Y2 k.bits x ||| Y2 k.bits y).toNat:Qb)
def bShl(k:Yi)(x y:Qb):Int:=k.wrap (x*2 ^ (min y.toNat k.bits))
def aBin(op:I6)(a b:B):R (Prop×B):=
 match op,a,b with
 | .add,.int k x,.int k' y=>if k=k' then J (O,.int k (k.wrap (x+y)))else E
 | .sub,.int k x,.int k' y=>if k=k' then J (O,.int k (k.wrap (x-y)))else E
 | .mul,.int k x,.int k' y=>if k=k' then J (O,.int k (k.wrap (x*y)))else E
 | .quo,.int k x,.int k' y=>if k=k' then J (y≠0,.int k (k.wrap (x.tdiv y)))else E
 | .rem,.int k x,.int k' y=>if k=k' then J (y≠0,.int k (x.tmod y))else E
 | .and,.int k x,.int k' y=>if k=k' then J (O,.int k (k.wrap ((Y2 k.bits x &&& Y2 k.bits y).toNat:Qb)))else E
 | .or,.int k x,.int k' y=>if k=k' then J (O,.int k (k.wrap ((Y2 k.bits x ||| Y2 k.bits y).toNat:Qb)))else E
 | .shr,.int k x,.int _ y=>J (0<=y,.int k (x.fdiv (2 ^ (min y.toNat k.bits))))
 | .shl,.int k x,.int _ y=>J (0<=y,.int k (k.wrap (x*2 ^ (min y.toNat k.bits))))
 | .eql,.int k x,.int k' y=>if k=k' then J (O,.bool (x==y))else E
 | .neq,.int k x,.int k' y=>if k=k' then J (O,.bool (x !=y))else E
 | .lss,.int k x,.int k' y=>if k=k' then J (O,.bool (decide (x<y)))else E
 | .leq,.int k x,.int k' y=>if k=k' then J (O,.bool (decide (x<=y)))else E
 | .gtr,.int k x,.int k' y=>if k=k' then J (O,.bool (decide (x>y)))else E
 | .geq,.int k x,.int k' y=>if k=k' then J (O,.bool (decide (x>=y)))else E
 | .eql,.string x,.string y=>J (O,.bool (eqs x y))
 | .neq,.string x,.string y=>J (O,.bool (!eqs x y))
 | .add,.string x,.string y=>J (((x.size+y.size:F):Qb)<=IntKind.i64.max,.string (x++y))
 |_,_,_=>E
def aBin_sound{P:D}{op:I6}{a b:B}{p:Prop}{v:B}(h:aBin op a b=J (p,v))(hp:p)(t:Y)(w:H)(x y:X):
    (do eqGuard op t x y a b;binOp op t a b:Sem B).run P w=.ok v w/\v.oneCell'=true:=by
  unfold aBin at h
  split at h
  all_goals first
    | (simp only[T,Zc]at h;obtain⟨rfl,rfl⟩:=h
       refine⟨?_,rfl⟩
       simp[eqGuard,binOp,Op.shift,Int.not_lt.2 hp,go_sem];done)
    | (simp only[Xx,T,Zc]at h;obtain⟨rfl, -,rfl⟩:=h
       refine⟨?_,rfl⟩
       simp[eqGuard,binOp,Op.intArith,Op.intCmp,Op.intBits,go_sem];done)
    | (simp only[Xx,T,Zc]at h;obtain⟨rfl,rfl,rfl⟩:=h
       refine⟨?_,rfl⟩
       simp[eqGuard,binOp,Op.intDiv,go_sem,hp];done)
    | (simp only[T,Zc]at h;obtain⟨rfl,rfl⟩:=h
       refine⟨?_,rfl⟩
       try simp only[<-Vnl]
       simp[eqGuard,binOp,go_sem]
       first|rfl|(simp[IntKind.max,IntKind.signed,IntKind.bits]at hp;omega))
    |simp at h
def Gh.setU(G:Gh)(b n:F):Gh:={G with U:=λi=>if i=b then n else G.U i}
def Gh.bind(G:Gh)(id blk:F):Gh:={G with ow:=λκ=>if κ=(id,0)then J blk else G.ow κ}
def Vbh(w:H)(o:Obj){b:F}(h:b<w.heap.size):(w.alloc o).heap[b]? =w.heap[b]? :=by
 show(w.heap.push o)[b]? =_;rw[Array.getElem?_push,Yb kv]
def Vax(w:H)(o:Obj):(w.alloc o).heap[w.heap.size]? =J o:=by
 show(w.heap.push o)[w.heap.size]? =_;simp
def cell_of_heap{w w':H}{b:F}(h:w'.heap[b]? =w.heap[b]?)(o:F):w'.cell? ⟨b,o,E⟩=w.cell? ⟨b,o,E⟩:=by
 simp only[Ye,h]
def Vli{U:F->F}{w w':H}(h:∀ b,1<=U b->w'.heap[b]? =w.heap[b]?):Imm U w w':=
 ⟨λb o ho=>cell_of_heap (h b kv) o,λb es cl hb hh=>by rw[h b hb];exact hh,λb e hb hh=>by obtain⟨arr,m,q⟩:=hh;exact⟨arr,m,by rw[h b hb];exact q⟩,λb o n hb _ hh=>by obtain⟨arr,e,lo,hi,q⟩:=hh;exact⟨arr,e,lo,hi,by rw[h b hb];exact q⟩,λb e hb _ hh=>by obtain⟨arr,q⟩:=hh;exact⟨arr,by rw[h b hb];exact q⟩⟩
def Vra{G:Gh}{w:H}(hw:Wf G w)(o:Obj):Imm G.U w (w.alloc o):=by
 refine Vli λb hb=>?_
 rcases Z2 b w.heap.size with h|h
 ·exact Vbh w o h
 ·rw[hw.zero b h]at hb;omega
def Vef{G:Gh}{w:H}(hw:Wf G w)(o:Obj)(n:F):
  Step G w (G.setU w.heap.size n) (w.alloc o)/\Wf (G.setU w.heap.size n) (w.alloc o)/\∀ κ,Keep G w (G.setU w.heap.size n) (w.alloc o) κ:=by
 have hk:∀ κ,Keep G w (G.setU w.heap.size n) (w.alloc o) κ:=λκ=>⟨rfl,λb hb=>by
  have:=hw.lt κ b hb
  exact⟨Vbh w o this,by simp only[Gh.setU];rw[Yb kv]⟩⟩
 refine⟨⟨⟨λb=>?_,Vra hw o,ku,rfl,rfl,rfl,λ_ _=>rfl,λ_=>Zk _,λκ _ _=>hk κ⟩,λb hb _=>⟨Vbh w o hb,?_⟩,λκ b h=>.inl ⟨κ,h⟩⟩,⟨hw.inj,λκ b h=>?_,λb hb=>?_⟩,hk⟩
 ·simp only[Gh.setU];split
  ·rename_i h;rw[hw.zero b kv];omega
  ·omega
 ·simp only[Gh.setU];rw[Yb kv]
 ·have:=hw.lt κ b h;simp;omega
 ·simp at hb;simp only[Gh.setU];rw[Yb kv];exact hw.zero b kv
def PV.names(id:F):PV->Xe
 | .av _=>A
 | .ptr b _=>b==id
 | .mp b=>b==id
def SV.names(id:F):SV->Xe
 | .ptr b _=>b==id
 | .mp b=>b==id
 | .fn _ fs cs=>fs.any (PV.names id)||cs.any (PV.names id)
 | .son b=>b==id
 | .vs b _=>b==id
 | .vw b _ _ _=>b==id
 | .vp b _ _ _=>b==id
 |_=>A
def St.names(S:St)(id:F):Bool:=S.fr.any (SV.names id)||S.bx.any (λp=>p.1==id||p.2.svs.any (SV.names id))
def Vnd{id:F}{l:C PV}(h:l.any (PV.names id)=A):∀ κ∈l.flatMap PV.keys,κ.1≠id:=by
 intro κ hκ;simp only[Z6]at hκ;obtain⟨p,hp,hk⟩:=hκ;have h1:PV.names id p=false:=by
  rw[Zs]at h;simpa using h p hp
 cases p <;>simp_all[PV.keys,PV.names]
def Vc6{id:F}{s:SV}(h:s.names id=A):∀ κ∈s.keys,κ.1≠id:=by
 intro κ hκ;cases s with
 |ptr b o=>simp_all[SV.keys,SV.names]
 |mp b=>simp_all[SV.keys,SV.names]
 |son b=>simp_all[SV.keys,SV.names]
 |vs b n=>simp_all[SV.keys,SV.names]
 |vw b sz o n=>simp_all[SV.keys,SV.names]
 |vp b sz i o=>simp_all[SV.keys,SV.names]
 |fn f fs cs=>
  simp only[SV.names,Y8]at h;simp only[SV.keys,Zd]at hκ;rcases hκ with hκ|hκ
  ·exact Vnd h.1 κ hκ
  ·exact Vnd h.2 κ hκ
 |_=>simp[SV.keys]at hκ
def Vee{G:Gh}{w:H}(hw:Wf G w)(o:Obj)(id:F):
  Step G w (G.bind id w.heap.size) (w.alloc o)/\Wf (G.bind id w.heap.size) (w.alloc o)/\∀ κ,κ≠(id,0)->Keep G w (G.bind id w.heap.size) (w.alloc o) κ:=by
 have how:∀ κ b,(G.bind id w.heap.size).ow κ=J b->(κ=(id,0)/\b=w.heap.size)\/(κ≠(id,0)/\G.ow κ=J b):=by
  intro κ b h;simp only[Gh.bind]at h
  split at h
  ·rename_i hk;simp at h;exact .inl ⟨hk,h.symm⟩
  ·rename_i h1;exact .inr ⟨h1,h⟩
 have hkp:∀ κ,κ≠(id,0)->Keep G w (G.bind id w.heap.size) (w.alloc o) κ:=λκ hκ=>⟨by simp only[Gh.bind];rw[Yb hκ],λb hb=>⟨Vbh w o (hw.lt κ b hb),rfl⟩⟩
 refine⟨⟨⟨λb=>Zk _,Vra hw o,ku,rfl,rfl,rfl,λ_ _=>rfl,λ_=>Zk _,λκ h0 _=>hkp κ (by intro e;rw[e]at h0;simp at h0)⟩,λb hb _=>⟨Vbh w o hb,rfl⟩,λκ b h=>?_⟩,⟨λκ κ' b h h'=>?_,λκ b h=>?_,λb hb=>?_⟩,hkp⟩
 ·rcases how κ b h with⟨_,rfl⟩|⟨_,h1⟩
  ·exact .inr (Zk _)
  ·exact .inl ⟨κ,h1⟩
 ·rcases how κ b h with⟨h1,h2⟩|⟨h1,h2⟩ <;>rcases how κ' b h' with⟨h3,h4⟩|⟨h3,h4⟩
  ·rw[h1,h3]
  ·have:=hw.lt κ' b h4;omega
  ·have:=hw.lt κ b h2;omega
  ·exact hw.inj κ κ' b h2 h4
 ·rcases how κ b h with⟨_,rfl⟩|⟨_,h1⟩
  ·simp
  ·have:=hw.lt κ b h1;simp;omega
 ·simp at hb;exact hw.zero b kv
def Rel.bind{G:Gh}{w:H}{S:St}{a:Qr}(h:Rel G w S a){id:F}(hn:S.names id=A)(o:Obj):Rel (G.bind id w.heap.size) (w.alloc o) S a:=by
 obtain⟨s1,s2,s3⟩:=Vee h.wf o id;simp only[St.names,Y8]at hn;obtain⟨n1,n2⟩:=hn;have hne:∀ κ:Key,κ.1≠id->κ≠(id,0):=λκ hκ e=>hκ (by rw[e])
 refine⟨s2,h.size,λt s ht=>?_,λp hp=>?_,h.gn,h.defers⟩
 ·have:s.names id=false:=by rw[Zs]at n1;simpa using n1 s (Z4 ht)
  exact(h.fr t s ht).persist s1.toExt (λκ hκ=>(s3 κ (hne κ (Vc6 this κ hκ))).1)
 ·have hp':p.1≠id/\p.2.svs.any (SV.names id)=false:=by rw[Zs]at n2;simpa using n2 p hp
  refine(h.bx p hp).persist s1.toExt (s3 _ (hne _ hp'.1)) (λκ hκ=>?_);simp only[Z6]at hκ;obtain⟨s,hs,hs2⟩:=hκ;have:s.names id=false:=by have:=hp'.2;rw[Zs]at this;simpa using this s hs
  exact(s3 κ (hne κ (Vc6 this κ hs2))).1
def St.addBox(S:St)(id:F)(x:ABox):St:={S with bx:=(id,x)::S.bx}
def Vda{G:Gh}{w:H}:∀ {l:C AV} {us:C B},RepL G.U w l us->RepSs G w (l.map .av) us
 |[],_,h=>by simp only[RepL]at h;exact h
 |x::l,us,h=>by
  simp only[RepL]at h;obtain⟨u,us',h1,h2,h3⟩:=h;exact⟨u,us',h1,h2,Vda h3⟩
def Rel.newBox{G:Gh}{w:H}{S:St}{a:Qr}(h:Rel G w S a){id:F}(hn:S.names id=A)(e:Y){l:C SV}{us:C B}(hs:RepSs G w l us)(hl:∀ s∈l,s.names id=A)(h1:∀ x∈us,x.oneCell'=V):
  Step G w (G.bind id w.heap.size) (w.alloc (.cells us.toArray e))/\Rel (G.bind id w.heap.size) (w.alloc (.cells us.toArray e)) (S.addBox id (.cells e l)) a/\
   RepS (G.bind id w.heap.size) (w.alloc (.cells us.toArray e)) (.ptr id 0) (.pointer (J ⟨w.heap.size,0,E⟩)):=by
 obtain⟨s1,s2,s3⟩:=Vee h.wf (.cells us.toArray e) id;have hr:=h.bind hn (.cells us.toArray e);have hne:∀ κ:Key,κ.1≠id->κ≠(id,0):=λκ hκ e=>hκ (by rw[e])
 refine⟨s1,⟨hr.wf,hr.size,hr.fr,λp hp=>?_,hr.gn,hr.defers⟩,⟨w.heap.size,by simp[Gh.bind],rfl⟩⟩;simp only[St.addBox,Ys]at hp;rcases hp with rfl|hp
 ·refine⟨w.heap.size,us.toArray,by simp[Gh.bind],Vax w _,h.wf.zero _ (Zk _),?_,by simpa using h1⟩;suffices hh:∀(l:C SV)(vs:C B),(∀s∈l,s.names id=A)->RepSs G w l vs->RepSs (G.bind id w.heap.size) (w.alloc (.cells us.toArray e)) l vs by exact hh l us hl hs
  intro l
  induction l with
  |nil=>intro vs _ h;exact h
  |cons s l ih=>
   intro vs hl h;obtain⟨u,vs',e1,e2,e3⟩:=h;exact⟨u,vs',e1,e2.persist s1.toExt (λκ hκ=>(s3 κ (hne κ (Vc6 (hl s ku) κ hκ))).1),ih vs' (λx hx=>hl x (by simp[hx])) e3⟩
 ·exact hr.bx p hp
def St.setBox(S:St)(id:F)(x:ABox):St:={S with bx:=S.bx.map (λp=>if p.1=id then(p.1,x)else p)}
def Vag{l:C (F×ABox)}{b:F}{x:ABox}(h:l.lookup b=J x):(b,x)∈l:=by
 induction l with
 |nil=>simp at h
 |cons p l ih=>
  obtain⟨k,y⟩:=p;simp only[Xb]at h
  split at h
  ·rename_i hk;simp at hk h;subst hk h;simp
  ·simp[ih h]
def Vh2{G:Gh}{w:H}(hw:Wf G w){id:F}{blk:F}{arr:Yj B}{e:Y}{fr:F×F}(ho:G.ow (id,0)=J blk)(hh:w.heap[blk]? =J (.cells arr e fr))(hU:G.U blk=0)(arr':Yj B):
  Step G w G (w.setRow blk arr')/\Wf G (w.setRow blk arr')/\∀ κ',κ'≠(id,0)->Keep G w G (w.setRow blk arr') κ':=by
 have hoth:∀ k,k≠blk->(w.setRow blk arr').heap[k]? =w.heap[k]? :=λk hk=>Jd w blk k arr' hk
 have hkp:∀ κ',κ'≠(id,0)->Keep G w G (w.setRow blk arr') κ':=λκ' hk'=>⟨rfl,λb hb=>⟨hoth b (λhe=>by subst he;exact hk' (hw.inj κ' (id,0) b hb ho)),rfl⟩⟩
 refine⟨⟨⟨λb=>Zk _,Vli (λb hb=>hoth b (λhe=>by subst he;omega)),ku,rfl,rfl,rfl,λ_ _=>rfl,λ_=>Zk _,λκ h0 _=>hkp κ (by intro e;rw[e]at h0;simp at h0)⟩,λb hb hn=>⟨hoth b (λhe=>hn _ (he ▸ ho)),rfl⟩,λκ b h=>.inl ⟨κ,h⟩⟩,⟨hw.inj,λκ b h=>?_,λb hb=>?_⟩,hkp⟩
 ·simpa using hw.lt κ b h
 ·exact hw.zero b (by simpa using hb)
def Rel.storeBox{G:Gh}{w:H}{S:St}{a:Qr}(h:Rel G w S a){b:F}{ty:Y}{l:C SV}(hb:S.bx.lookup b=J (.cells ty l)){blk:F}(ho:G.ow (b,0)=J blk)(o:F){xs:C SV}{vs:C B}
  (hs:RepSs G w xs vs) (h1:∀ x∈vs,x.oneCell'=V) (hle:o+xs.length<=l.length):
  ∃w',(∀P:D,(storeCells ⟨blk,o,E⟩ vs).run P w=.ok () w')/\Step G w G w'/\Rel G w' (S.setBox b (.cells ty (l.take o++xs++l.drop (o+xs.length)))) a:=by
 obtain⟨blk',arr,g1,g2,g3,g4,g5⟩:=h.bx _ (Vag hb);simp only at g1;rw[ho]at g1;simp at g1;subst g1;have hvl:=hs.length;have hal:arr.size=l.length:=by simpa using g4.length
 refine⟨w.setRow blk (arr.toList.take o++vs++arr.toList.drop (o+vs.length)).toArray,λP=>?_,?_⟩
 ·have:=Xn (P:=P) blk o ty vs 0 arr w g2 kv h1;simpa using this
 ·obtain⟨s1,s2,s3⟩:=Vh2 h.wf ho g2 g3 (arr.toList.take o++vs++arr.toList.drop (o+vs.length)).toArray;have hper:∀ s u,RepS G w s u->RepS G (w.setRow blk (arr.toList.take o++vs++arr.toList.drop (o+vs.length)).toArray) s u:=
   λs u hs=>hs.persist s1.toExt (λ_ _=>rfl)
  refine⟨s1,s2,h.size,λt s ht=>hper _ _ (h.fr t s ht),λp hp=>?_,h.gn,h.defers⟩;simp only[St.setBox,Zv]at hp;obtain⟨q,hq,rfl⟩:=hp
  split
  ·rename_i hqb;refine⟨blk,_,by rw[hqb];exact ho,Y5 w blk arr _ ty _ g2,g3,?_,?_⟩
   ·have q1:RepSs G w (l.take o++xs++l.drop (o+xs.length)) (arr.toList.take o++vs++arr.toList.drop (o+vs.length)):=by
     rw[hvl];exact((g4.take o).append hs).append (g4.drop _)
    have:=q1.map (φ:=id) (G':=G) (w':=w.setRow blk (arr.toList.take o++vs++arr.toList.drop (o+vs.length)).toArray) hper;simpa using this
   ·intro x hx;simp only[Zd]at hx;rcases hx with(hx|hx)|hx
    ·exact g5 x (Zg hx)
    ·exact h1 x hx
    ·exact g5 x (Zh hx)
  ·rename_i hqb;exact(h.bx q hq).persist s1.toExt (s3 (q.1,0) (by simpa using hqb)) (λ_ _=>rfl)
end
section
def Van(P:D)(t:Y):R (F×F×R B):=(P.info? t).map (λi=>(i.size,i.bytes,i.zero))
def tAgg(P:D)(t:Y):R Bool:=(P.underlying t).map (λ| .struct _=>V| .array _ _=>V|_=>A)
def Vkl(P:D)(s f:F):R (F×Y):=
 match P.underlying s with
 |some (.struct fs)=>(fs[f]?).map (λx=>(x.offset,x.type))
 |_=>E
def Vbe(P:D)(t:Y):R TypeId:=
 match P.underlying t with
 |some (.slice e)=>J e
 |_=>E
def tStr(P:D)(t:Y):Bool:=
 match P.underlying t with
 |some .string=>V
 |_=>A
def tMap(P:D)(t:Y):R (Y×Y):=
 match P.underlying t with
 |some (.map k e)=>J (k,e)
 |_=>E
section
variable {P:D}
def Vcg{t:Y}{i:TypeInfo}(h:P.info? t=J i)(w:H):(typeInfo t).run P w=.ok i w:=by simp[typeInfo,h]
def Va0{t:Y}{d:TypeDesc}(h:P.underlying t=J d)(w:H):(underlying t).run P w=.ok d w:=by simp[underlying,h]
def Vae{t:Y}{n b:F}{z:R B}(h:Van P t=J (n,b,z))(w:H):(sizeOf t).run P w=.ok n w:=by
 simp only[Van,Za]at h;obtain⟨i,h1,h2⟩:=h;simp only[Zc]at h2;simp[sizeOf,Vcg h1,h2.1]
def Var{t:Y}{n b:F}{z:B}(h:Van P t=J (n,b,J z))(w:H):(zeroValue t).run P w=.ok z w:=by
 simp only[Van,Za]at h;obtain⟨i,h1,h2⟩:=h;simp only[Zc]at h2;simp[zeroValue,Vcg h1,h2.2.2]
def Vde{t:Y}{b:Xe}(h:tAgg P t=J b)(w:H):(isAgg t).run P w=.ok b w:=by
 simp only[tAgg,Za]at h;obtain⟨d,h1,h2⟩:=h;simp only[isAgg,Zr,Va0 h1,Zt];cases d <;>simp_all
end
def AV.cells:AV->C AV
 | .agg l=>l
 |x=>[x]
def Rep.cells{U:F->F}{w:H}{x:AV}{u:B}(h:Rep U w x u)(ht:∀ l,x≠ .tup l):RepL U w x.cells u.cells.toList/\∀ c∈u.cells.toList,c.oneCell'=true:=by
 cases x with
 |agg l=>
  simp only[Rep]at h;obtain⟨us,rfl,h2,h3⟩:=h;exact⟨h2,h3⟩
 |val v=>
  have h0:=h;simp only[Rep]at h;obtain⟨rfl,h2⟩:=h;have:u.cells=#[u]:=by cases u <;>simp_all[Zu,Zi]
  rw[this];exact⟨by simp only[AV.cells,RepL];exact⟨u,[],rfl,h0,rfl⟩,by simpa using h2⟩
 |sl l=>
  have h0:=h;simp only[Rep]at h;obtain⟨a,cap,es,sz,rfl,_⟩:=h;exact⟨by simp only[AV.cells,RepL];exact⟨_,[],rfl,h0,rfl⟩,by simp[Zu,Zi]⟩
 |tup l=>exact(ht l rfl).elim
 |ro l off=>
  have h0:=h;simp only[Rep]at h;obtain⟨b,o,us,rfl,_⟩:=h;exact⟨by simp only[AV.cells,RepL];exact⟨_,[],rfl,h0,rfl⟩,by simp[Zu,Zi]⟩
 |fs n q l=>
  have h0:=h;simp only[Rep]at h;obtain⟨a,cap,es,sz,rfl,_⟩:=h;exact⟨by simp only[AV.cells,RepL];exact⟨_,[],rfl,h0,rfl⟩,by simp[Zu,Zi]⟩
 |fz q l=>
  have h0:=h;simp only[Rep]at h;obtain⟨a,cap,es,sz,rfl,_⟩:=h;exact⟨by simp only[AV.cells,RepL];exact⟨_,[],rfl,h0,rfl⟩,by simp[Zu,Zi]⟩
 |rm ks vs=>
  have h0:=h;simp only[Rep]at h;obtain⟨b,ents,clock,rfl,_⟩:=h;exact⟨by simp only[AV.cells,RepL];exact⟨_,[],rfl,h0,rfl⟩,by simp[Zu,Zi]⟩
 |im ks vs=>
  have h0:=h;simp only[Rep]at h;obtain⟨b,ents,clock,rfl,_⟩:=h;exact⟨by simp only[AV.cells,RepL];exact⟨_,[],rfl,h0,rfl⟩,by simp[Zu,Zi]⟩
def AV.isTup:AV->Xe
 | .tup _=>V
 |_=>A
def Rep.cells'{U:F->F}{w:H}{x:AV}{u:B}(h:Rep U w x u)(ht:x.isTup=A):RepL U w x.cells u.cells.toList/\∀ c∈u.cells.toList,c.oneCell'=true:=
 h.cells (λl e=>by subst e;simp[AV.isTup]at ht)
def AV.toCell:AV->SV
 | .val (.slice E 0 0)=>.nil
 |x=>.av x
def Vo3{G:Gh}{w:H}:∀ {l:C AV} {us:C B},RepL G.U w l us->RepSs G w (l.map AV.toCell) us
 |[],_,h=>by simpa[RepL,RepSs]using h
 |x::l,us,h=>by
  simp only[RepL]at h;obtain⟨u,us',rfl,h2,h3⟩:=h;refine⟨u,us',rfl,?_,Vo3 h3⟩;unfold AV.toCell
  split
  ·simp only[Rep]at h2;exact h2.1
  ·exact h2
def SV.cells:SV->R (C SV)
 | .av (.agg l)=>J (l.map AV.toCell)
 | .av (.tup _)=>E
 | .junk=>E
 | .ag l=>J (l.map CV.toSV)
 | .tp _=>E
 | .clo l=>J [.av (.sl l)]
 |s=>J [s]
def Vsb{G:Gh}{w:H}:∀ {l:C CV} {us:C B},RepCs G w l us->RepSs G w (l.map CV.toSV) us
 |[],_,h=>h
 |x::l,us,h=>by obtain⟨u,us',h1,h2,h3⟩:=h;exact⟨u,us',h1,h2.toSV,Vsb h3⟩
def RepS.cells{G:Gh}{w:H}{s:SV}{u:B}{l:C SV}(h:RepS G w s u)(hl:s.cells=J l):RepSs G w l u.cells.toList/\∀ c∈u.cells.toList,c.oneCell'=true:=by
 cases s with
 |junk=>simp[SV.cells]at hl
 |nil=>simp[SV.cells]at hl;subst hl;simp only[RepS]at h;subst h;exact⟨⟨_,[],rfl,rfl,rfl⟩,by simp[Zu,Zi]⟩
 |ptr b o=>simp[SV.cells]at hl;subst hl;have h0:=h;obtain⟨blk,_,rfl⟩:=h;exact⟨⟨_,[],rfl,h0,rfl⟩,by simp[Zu,Zi]⟩
 |mp b=>simp[SV.cells]at hl;subst hl;have h0:=h;obtain⟨blk,_,rfl⟩:=h;exact⟨⟨_,[],rfl,h0,rfl⟩,by simp[Zu,Zi]⟩
 |son b=>simp[SV.cells]at hl;subst hl;have h0:=h;rcases h with rfl|⟨blk,_,rfl⟩ <;>exact⟨⟨_,[],rfl,h0,rfl⟩,by simp[Zu,Zi]⟩
 |vs b n=>simp[SV.cells]at hl;subst hl;have h0:=h;rcases h with⟨_,rfl,_⟩|⟨blk,_,_,rfl,_⟩ <;>exact⟨⟨_,[],rfl,h0,rfl⟩,by simp[Zu,Zi]⟩
 |vw b sz o n=>simp[SV.cells]at hl;subst hl;have h0:=h;obtain⟨_,_,rfl,_⟩:=h;exact⟨⟨_,[],rfl,h0,rfl⟩,by simp[Zu,Zi]⟩
 |vp b sz i o=>simp[SV.cells]at hl;subst hl;have h0:=h;obtain⟨blk,_,rfl⟩:=h;exact⟨⟨_,[],rfl,h0,rfl⟩,by simp[Zu,Zi]⟩
 |ag l'=>simp only[SV.cells,T]at hl;subst hl;obtain⟨us,rfl,h2,h3⟩:=h;exact⟨Vsb h2,h3⟩
 |tp l'=>simp[SV.cells]at hl
 |clo l'=>simp[SV.cells]at hl;subst hl;obtain⟨⟨b,off,rfl⟩,h2⟩:=h;exact⟨⟨_,[],rfl,h2,rfl⟩,by simp[Zu,Zi]⟩
 |fn f fs cs=>simp[SV.cells]at hl;subst hl;have h0:=h;obtain⟨vs,us,rfl,_⟩:=h;exact⟨⟨_,[],rfl,h0,rfl⟩,by simp[Zu,Zi]⟩
 |own k g sz l'=>
  simp[SV.cells]at hl;subst hl;have h0:=h;obtain⟨_,_,a,cap,es,rfl,_⟩:=h;exact⟨⟨_,[],rfl,h0,rfl⟩,by simp[Zu,Zi]⟩
 | av x=>
  have hx:Rep G.U w x u:=h;cases x with
  |agg l'=>
   simp[SV.cells]at hl;subst hl;obtain⟨h1,h2⟩:=hx.cells ku;exact⟨Vo3 h1,h2⟩
  |tup l'=>simp[SV.cells]at hl
  |val v=>
   simp[SV.cells]at hl;subst hl;obtain⟨h1,h2⟩:=hx.cells ku;exact⟨Vda h1,h2⟩
  |sl l'=>
   simp[SV.cells]at hl;subst hl;obtain⟨h1,h2⟩:=hx.cells ku;exact⟨Vda h1,h2⟩
  |ro l' o=>
   simp[SV.cells]at hl;subst hl;obtain⟨h1,h2⟩:=hx.cells ku;exact⟨Vda h1,h2⟩
  |fs n q l'=>
   simp[SV.cells]at hl;subst hl;obtain⟨h1,h2⟩:=hx.cells ku;exact⟨Vda h1,h2⟩
  |fz q l'=>
   simp[SV.cells]at hl;subst hl;obtain⟨h1,h2⟩:=hx.cells ku;exact⟨Vda h1,h2⟩
  |rm ks vs=>
   simp[SV.cells]at hl;subst hl;obtain⟨h1,h2⟩:=hx.cells ku;exact⟨Vda h1,h2⟩
  |im ks vs=>
   simp[SV.cells]at hl;subst hl;obtain⟨h1,h2⟩:=hx.cells ku;exact⟨Vda h1,h2⟩
def Vcn{P:D}{o:L}{S:St}{x:X}(ho:o.op=.move x\/o.op=.assign x):Sound P o S ⟨O,S.ev x,S⟩:=
 Sound.still λ_ G w a hr=>⟨a.eval x,by rcases ho with ho|ho <;>simp[execOp,ho],hr.ev x⟩
def Vn4{P:D}{o:L}{S:St}{c x y:X}{p:Xe}(ho:o.op=.pick c x y)(hc:S.ev c=.av (.val (.bool p))):Sound P o S ⟨O,if p then S.ev x else S.ev y,S⟩:=
 Sound.still λ_ G w a hr=>by
  have h:=hr.ev c;rw[hc]at h;simp only[RepS,Rep]at h;refine⟨if p then a.eval x else a.eval y,by simp[execOp,ho,h.1,asBool],?_⟩;cases p
  ·exact hr.ev y
  ·exact hr.ev x
def Vfu{P:D}{o:L}{S:St}{op:I6}{t t':Y}{x y:X}{u v:B}{p:Prop}{r:B}(ho:o.op=.binOp op t x y t')(hx:S.ev x=.av (.val u))(hy:S.ev y=.av (.val v))
  (hb:aBin op u v=J (p,r)):Sound P o S ⟨p,.av (.val r),S⟩:=
 Sound.still λhp G w a hr=>by
  have h1:=hr.ev x;rw[hx]at h1;simp only[RepS,Rep]at h1;have h2:=hr.ev y;rw[hy]at h2;simp only[RepS,Rep]at h2;obtain⟨h3,h4⟩:=aBin_sound (P:=P) hb hp t w x y;refine⟨r,?_,⟨rfl,h4⟩⟩;simp only[execOp,ho,h1.1,h2.1];simp only[Zr]at h3 ⊢;rw[h3];rfl
def aUn(op:UnOp)(v:B):R Value:=
 match op,v with
 | .not,.bool b=>J (.bool (!b))
 | .neg,.int k n=>J (.int k (k.wrap (0-n)))
 |_,_=>E
def sound_un{P:D}{o:L}{S:St}{op:UnOp}{t:Y}{x:X}{u r:B}(ho:o.op=.unOp op t x)(hx:S.ev x=.av (.val u))(hb:aUn op u=J r):Sound P o S ⟨O,.av (.val r),S⟩:=
 Sound.still λ_ G w a hr=>by
  have h1:=hr.ev x;rw[hx]at h1;simp only[RepS,Rep]at h1;unfold aUn at hb
  split at hb
  ·simp at hb;subst hb;exact⟨_,by simp[execOp,ho,h1.1,Op.unary],⟨rfl,rfl⟩⟩
  ·simp at hb;subst hb;exact⟨_,by simp[execOp,ho,h1.1,Op.unary,Op.intArith],⟨rfl,rfl⟩⟩
  ·simp at hb
def Vok{P:D}{o:L}{S:St}{x:X}{i:F}{l:C AV}{y:AV}(ho:o.op=.extract x i)(hx:S.ev x=.av (.tup l))(hy:l[i]? =J y):Sound P o S ⟨O,.av y,S⟩:=
 Sound.still λ_ G w a hr=>by
  have h1:=hr.ev x;rw[hx]at h1;simp only[RepS,Rep]at h1;obtain⟨us,h2,h3⟩:=h1;obtain⟨u,h4,h5⟩:=h3.get i y hy;have h6:us[i]? =J u:=by simpa using h4
  exact⟨u,by simp[execOp,ho,h2,Jb,h6],h5⟩
def Vhk{P:D}{o:L}{S:St}{x:X}{b off:F}(ho:o.op=.nilCheck x)(hx:S.ev x=.ptr b off):Sound P o S ⟨O,.ptr b off,S⟩:=
 Sound.still λ_ G w a hr=>by
  have h1:=hr.ev x;rw[hx]at h1;have h0:=h1;obtain⟨blk,h2,h3⟩:=h1;exact⟨_,by simp only[execOp,ho,h3];rfl,by rw[<-h3];exact h0⟩
def Vio{P:D}{o:L}{S:St}{x:X}{l:C AV}{off:F}(ho:o.op=.nilCheck x)(hx:S.ev x=.av (.ro l off)):Sound P o S ⟨O,.av (.ro l off),S⟩:=
 Sound.still λ_ G w a hr=>by
  have h1:=hr.ev x;rw[hx]at h1;have h0:=h1;simp only[RepS,Rep]at h1;obtain⟨b,o',us,h3,_⟩:=h1;exact⟨_,by simp only[execOp,ho,h3];rfl,by rw[<-h3];exact h0⟩
def Vbd(b o n:F):(⟨b,o,E⟩:Jc).add n=⟨b,o+n,E⟩:=by
 unfold Addr.add;split <;>simp_all
def Vh7{P:D}{s f off:F}{ft:Y}{sz bt:F}{z:R B}(h:Vkl P s f=J (off,ft))(hs:Van P ft=J (sz,bt,z))(h0:sz≠0)(b o:F)(w:H):
  (Ja s (.pointer (J ⟨b,o,E⟩)) f).run P w=.ok (.pointer (J ⟨b,o+off,E⟩)) w:=by
 unfold Vkl at h
 split at h
 ·rename_i fs hu;simp only[Za,Zc]at h;obtain⟨fd,h1,h2,h3⟩:=h;subst h3;simp[Ja,Va0 hu,h1,Ya,fieldPlace,Vae hs,h0,Vbd,h2]
 ·simp at h
def Vh4{P:D}{o:L}{S:St}{s f off:F}{ft:Y}{sz bt:F}{z:R B}{x:X}{b k:F}(ho:o.op=.fieldAddr s x f)(hx:S.ev x=.ptr b k)
  (h:Vkl P s f=J (off,ft)) (hs:Van P ft=J (sz,bt,z)) (h0:sz≠0):Sound P o S ⟨O,.ptr b (k+off),S⟩:=
 Sound.still λ_ G w a hr=>by
  have h1:=hr.ev x;rw[hx]at h1;obtain⟨blk,h2,h3⟩:=h1;refine⟨_,by simp only[execOp,ho,h3,Zr,Vh7 h hs h0];rfl,⟨blk,h2,rfl⟩⟩
def Vhp{P:D}{o:L}{S:St}{s f off:F}{ft:Y}{sz bt:F}{z:R B}{x:X}{l:C AV}{k:F}(ho:o.op=.fieldAddr s x f)(hx:S.ev x=.av (.ro l k))
  (h:Vkl P s f=J (off,ft)) (hs:Van P ft=J (sz,bt,z)) (h0:sz≠0):Sound P o S ⟨O,.av (.ro l (k+off)),S⟩:=
 Sound.still λ_ G w a hr=>by
  have h1:=hr.ev x;rw[hx]at h1;simp only[RepS,Rep]at h1;obtain⟨b,o',us,h3,h4⟩:=h1;refine⟨_,by simp only[execOp,ho,h3,Zr,Vh7 h hs h0];rfl,?_⟩;simp only[RepS,Rep];exact⟨b,o',us,by rw[Ym],h4⟩
def Vb4{P:D}{t:Y}(h:tAgg P t=J A){w:H}{b o:F}{v:B}(hc:w.cell? ⟨b,o,E⟩=J v):(loadVar t ⟨b,o,E⟩).run P w=.ok v w:=by
 simp[loadVar,Vde h,hc]
def Vbj{P:D}{t:Y}(h:tAgg P t=J V){sz bt:F}{z:R B}(hs:Van P t=J (sz,bt,z)){w:H}{b o:F}{vs:C B}(hl:vs.length=sz)(hc:∀ j v,vs[j]? =J v->w.cell? ⟨b,o+j,E⟩=J v):
  (loadVar t ⟨b,o,E⟩).run P w=.ok (.agg vs.toArray) w:=by
 have:=Q8 (P:=P) w ⟨b,o,E⟩ vs (λj v hj=>by rw[Vbd];exact hc j v hj);rw[hl]at this;simp[loadVar,Vde h,Vae hs,this]
def SV.allAV:C SV->R (C AV)
 |[]=>J []
 |s::l=>match s.toAV,SV.allAV l with
  |some x,J r=>J (x::r)
  |_,_=>E
def RepSs.allAV{G:Gh}{w:H}:∀ {l:C SV} {us:C B} {r:C AV},RepSs G w l us->SV.allAV l=J r->RepL G.U w r us
 |[],us,r,h,hr=>by simp[SV.allAV]at hr;subst hr;simp only[RepSs]at h;subst h;simp[RepL]
 |s::l,us,r,h,hr=>by
  simp only[SV.allAV]at hr
  split at hr
  ·rename_i x r' hx hr';simp at hr;subst hr;obtain⟨u,us',rfl,h2,h3⟩:=h;simp only[RepL];exact⟨u,us',rfl,h2.toAV hx,h3.allAV hr'⟩
  ·simp at hr
def Vms{P:D}{o:L}{S:St}{t:Y}{x:X}{b k:F}{ty:Y}{l:C SV}{s:SV}(ho:o.op=.load t x)(hx:S.ev x=.ptr b k)(ht:tAgg P t=J A)(hb:S.bx.lookup b=J (.cells ty l))(hs:l[k]? =J s):Sound P o S ⟨O,s,S⟩:=
 Sound.still λ_ G w a hr=>by
  have h1:=hr.ev x;rw[hx]at h1;obtain⟨blk,h2,h3⟩:=h1;obtain⟨blk',arr,g1,g2,g3,g4,g5⟩:=hr.bx _ (Vag hb);simp only at g1;rw[h2]at g1;simp at g1;subst g1;obtain⟨u,h4,h5⟩:=g4.get k s hs;have hc:w.cell? ⟨blk,k,E⟩=J u:=by simpa[Ye,g2]using h4
  exact⟨u,by simp[execOp,ho,h3,Xd,Ya,Vb4 ht hc],h5⟩
def Vhn{P:D}{o:L}{S:St}{t:Y}{sz bt:F}{z:R B}{x:X}{b k:F}{ty:Y}{l:C SV}{r:C AV}(ho:o.op=.load t x)(hx:S.ev x=.ptr b k)(ht:tAgg P t=J V)(hi:Van P t=J (sz,bt,z))
  (hb:S.bx.lookup b=J (.cells ty l)) (hs:SV.allAV ((l.drop k).take sz)=J r) (hsz:r.length=sz):Sound P o S ⟨O,.av (.agg r),S⟩:=
 Sound.still λ_ G w a hr=>by
  have h1:=hr.ev x;rw[hx]at h1;obtain⟨blk,h2,h3⟩:=h1;obtain⟨blk',arr,g1,g2,g3,g4,g5⟩:=hr.bx _ (Vag hb);simp only at g1;rw[h2]at g1;simp at g1;subst g1;have h4:=((g4.drop k).take sz).allAV hs;have hl:=h4.length;have hc:∀ j v,((arr.toList.drop k).take sz)[j]? =J v->w.cell? ⟨blk,k+j,E⟩=J v:=by
   intro j v hj;rw[Zw]at hj
   split at hj
   ·simp only[Yh]at hj;simpa[Ye,g2]using hj
   ·simp at hj
  refine⟨.agg ((arr.toList.drop k).take sz).toArray,by simp[execOp,ho,h3,Xd,Ya,Vbj ht hi (hl.trans hsz) hc],?_⟩;simp only[RepS,Rep];exact⟨_,rfl,h4,λy hy=>g5 y (Zh (Zg hy))⟩
def SV.allCV:C SV->R (C CV)
 |[]=>J []
 | .av x::l=>(SV.allCV l).map (λr=>.av x::r)
 | .nil::l=>(SV.allCV l).map (λr=>.nil::r)
 | .own k g sz y::l=>(SV.allCV l).map (λr=>.own k g sz y::r)
 |_::_=>E
def SV.isTok:SV->Xe
 | .nil=>V
 | .own _ _ _ _=>V
 |_=>A
def RepSs.allCV{G:Gh}{w:H}:∀ {l:C SV} {us:C B} {r:C CV},RepSs G w l us->SV.allCV l=J r->RepCs G w r us
 |[],us,r,h,hr=>by simp[SV.allCV]at hr;subst hr;exact h
 |s::l,us,r,h,hr=>by
  obtain⟨u,us',rfl,h2,h3⟩:=h;cases s with
  |av x=>simp only[SV.allCV,Za]at hr;obtain⟨r',hr',rfl⟩:=hr;exact⟨u,us',rfl,h2,RepSs.allCV h3 hr'⟩
  |nil=>simp only[SV.allCV,Za]at hr;obtain⟨r',hr',rfl⟩:=hr;exact⟨u,us',rfl,h2,RepSs.allCV h3 hr'⟩
  |own k g sz y=>simp only[SV.allCV,Za]at hr;obtain⟨r',hr',rfl⟩:=hr;exact⟨u,us',rfl,h2,RepSs.allCV h3 hr'⟩
  |_=>simp[SV.allCV]at hr
def Ve4:∀ {l:C SV} {r:C CV},SV.allCV l=J r->r.length=l.length
 |[],r,hr=>by simp[SV.allCV]at hr;subst hr;rfl
 |s::l,r,hr=>by
  cases s with
  |av x=>simp only[SV.allCV,Za]at hr;obtain⟨r',hr',rfl⟩:=hr;simp[Ve4 hr']
  |nil=>simp only[SV.allCV,Za]at hr;obtain⟨r',hr',rfl⟩:=hr;simp[Ve4 hr']
  |own k g sz y=>simp only[SV.allCV,Za]at hr;obtain⟨r',hr',rfl⟩:=hr;simp[Ve4 hr']
  |_=>simp[SV.allCV]at hr
def Vle{P:D}{S:St}{t:Y}{sz bt:F}{z:R B}{b k:F}{ty:Y}{l:C SV}{r:C CV}(ht:tAgg P t=J V)(hi:Van P t=J (sz,bt,z))
  (hb:S.bx.lookup b=J (.cells ty l)) (hs:SV.allCV ((l.drop k).take sz)=J r) (hsz:r.length=sz) {G:Gh} {w:H} {a:Qr} (hr:Rel G w S a) {blk:F} (h2:G.ow (b,0)=J blk):∃ v,(loadVar t ⟨blk,k,E⟩).run P w=.ok v w/\RepS G w (.ag r) v:=by
 obtain⟨blk',arr,g1,g2,g3,g4,g5⟩:=hr.bx _ (Vag hb);simp only at g1;rw[h2]at g1;simp at g1;subst g1;have h4:=((g4.drop k).take sz).allCV hs;have hl:((arr.toList.drop k).take sz).length=sz:=by
  have:=((g4.drop k).take sz).length;rw[this, <-Ve4 hs];exact hsz
 have hc:∀ j v,((arr.toList.drop k).take sz)[j]? =J v->w.cell? ⟨blk,k+j,E⟩=J v:=by
  intro j v hj;rw[Zw]at hj
  split at hj
  ·simp only[Yh]at hj;simpa[Ye,g2]using hj
  ·simp at hj
 exact⟨_,Vbj ht hi hl hc,_,rfl,by simpa using h4,λy hy=>g5 y (by simp only at hy;exact Zh (Zg hy))⟩
def Vir{P:D}{o:L}{S:St}{t:Y}{sz bt:F}{z:R B}{x:X}{b k:F}{ty:Y}{l:C SV}{r:C CV}(ho:o.op=.load t x)(hx:S.ev x=.ptr b k)(ht:tAgg P t=J V)(hi:Van P t=J (sz,bt,z))
  (hb:S.bx.lookup b=J (.cells ty l)) (hs:SV.allCV ((l.drop k).take sz)=J r) (hsz:r.length=sz):Sound P o S ⟨O,.ag r,S⟩:=
 Sound.still λ_ G w a hr=>by
  have h1:=hr.ev x;rw[hx]at h1;obtain⟨blk,h2,h3⟩:=h1;obtain⟨v,e1,e2⟩:=Vle ht hi hb hs hsz hr h2;exact⟨v,by simp[execOp,ho,h3,Xd,Ya,e1],e2⟩
def Vjw{P:D}{o:L}{S:St}{x:X}{i:F}{l:C XV}{y:XV}(ho:o.op=.extract x i)(hx:S.ev x=.tp l)(hy:l[i]? =J y):Sound P o S ⟨O,y.toSV,S⟩:=
 Sound.still λ_ G w a hr=>by
  have h1:=hr.ev x;rw[hx]at h1;obtain⟨us,h2,h3⟩:=h1;obtain⟨u,h4,h5⟩:=h3.get i y hy;have h6:us[i]? =J u:=by simpa using h4
  exact⟨u,by simp[execOp,ho,h2,Jb,h6],h5.toSV⟩
def Voi{P:D}{o:L}{S:St}{t:Y}{x:X}{k:F}{l:C AV}{s:AV}(ho:o.op=.load t x)(hx:S.ev x=.av (.ro l k))(ht:tAgg P t=J A)(hs:l[k]? =J s):Sound P o S ⟨O,.av s,S⟩:=
 Sound.still λ_ G w a hr=>by
  have h1:=hr.ev x;rw[hx]at h1;simp only[RepS,Rep]at h1;obtain⟨b,o',us,h3,h4,h5,h6⟩:=h1;obtain⟨u,h7,h8⟩:=h4.get k s hs;exact⟨u,by simp[execOp,ho,h3,Xd,Ya,Vb4 ht (h6 k u h7).1],h8⟩
def Viq{P:D}{o:L}{S:St}{t:Y}{sz bt:F}{z:R B}{x:X}{k:F}{l:C AV}(ho:o.op=.load t x)(hx:S.ev x=.av (.ro l k))(ht:tAgg P t=J V)(hi:Van P t=J (sz,bt,z))
  (hsz:k+sz<=l.length):Sound P o S ⟨O,.av (.agg ((l.drop k).take sz)),S⟩:=
 Sound.still λ_ G w a hr=>by
  have h1:=hr.ev x;rw[hx]at h1;simp only[RepS,Rep]at h1;obtain⟨b,o',us,h3,h4,h5,h6⟩:=h1;have h7:=(h4.drop k).take sz;have hl:=h4.length;have hc:∀ j v,((us.drop k).take sz)[j]? =J v->w.cell? ⟨b,(o'+k)+j,E⟩=J v:=by
   intro j v hj;rw[Zw]at hj
   split at hj
   ·simp only[Yh]at hj;have:=(h6 _ v hj).1;rwa[Ym]
   ·simp at hj
  refine⟨.agg ((us.drop k).take sz).toArray,by simp[execOp,ho,h3,Xd,Ya,Vbj ht hi (vs:=(us.drop k).take sz) (by simp;omega) hc],?_⟩;simp only[RepS,Rep];refine⟨_,rfl,h7,λy hy=>?_⟩;have hy':=Zh (Zg hy);obtain⟨j,hj⟩:=Y3.1 hy';exact(h6 j y hj).2
def Vkm{P:D}{o:L}{S:St}{t:Y}{sz bt:F}{z:R B}{x y:X}{b k:F}{ty:Y}{l xs:C SV}(ho:o.op=.store t x y)(hx:S.ev x=.ptr b k)(hi:Van P t=J (sz,bt,z))
  (hb:S.bx.lookup b=J (.cells ty l)) (hs:(S.ev y).cells=J xs) (hsz:xs.length=sz) (hle:k+sz<=l.length):
  Sound P o S ⟨O,Vav,S.setBox b (.cells ty (l.take k++xs++l.drop (k+xs.length)))⟩:=by
 intro _ G w a hr;have h1:=hr.ev x;rw[hx]at h1;obtain⟨blk,h2,h3⟩:=h1;obtain⟨h4,h5⟩:=(hr.ev y).cells hs;have hl:=h4.length;obtain⟨w',e1,e2,e3⟩:=hr.storeBox hb h2 k h4 h5 kv;refine⟨.skip,Z7,w',G,?_,.inr ⟨rfl,rfl⟩,e2,e3,?_,λ_ _=>rfl⟩
 ·have hcs:(a.eval y).cells.size=sz:=by simpa[hsz]using hl
  simp[execOp,ho,h3,I8,Ya,storeVar,Vae hi,hcs,e1 P]
 ·simp only[Vav,RepS,Rep];exact⟨#[],rfl,by simp[RepL]⟩
def zeroCells(z:B):C SV:=z.cells.toList.map Vga
def Vme{G:Gh}{w:H}:∀(l:C B),RepSs G w (l.map Vga) l
 |[]=>rfl
 |c::l=>⟨c,l,rfl,Vo5 G w c,Vme l⟩
def Vm0(id:F)(v:B):(Vga v).names id=false:=by
 unfold Vga
 split
 ·rfl
 ·split
  ·split <;>rfl
  ·rfl
 ·rfl
 ·rfl
def Vku{P:D}{o:L}{S:St}{t:Y}{sz bt:F}{z:B}{id:F}(ho:o.op=.alloc t)(hi:Van P t=J (sz,bt,J z))(h1:z.cells.toList.all (λc=>c.oneCell')=V)(hid:id<1000)(hn:S.names id=A):
  Sound P o S ⟨O,.ptr id 0,S.addBox id (.cells t (zeroCells z))⟩:=by
 intro _ G w a hr;have h1':∀ x∈z.cells.toList,x.oneCell'=true:=λc hc=>Yo.1 h1 c hc
 obtain⟨e1,e2,e3⟩:=hr.newBox hn t (Vme z.cells.toList) (λs hs=>by simp only[Zv]at hs;obtain⟨v,_,rfl⟩:=hs;exact Vm0 id v) h1';refine⟨_,_,_,_,?_,.inl rfl,e1,e2,e3,λi hi=>?_⟩
 ·simp[execOp,ho,Instr.alloc,Var hi,newVar,newRow]
 ·simp only[Gh.bind];rw[Yb (by intro h;simp only[Zc]at h;omega)]
def sound_box{P:D}{o:L}{S:St}{t:Y}{x:X}{id:F}{xs:C SV}(ho:o.op=.box t x)(hs:(S.ev x).cells=J xs)(hid:id<1000)(hn:S.names id=A)(hx:xs.all (λs=> !s.names id)=V):
  Sound P o S ⟨O,.ptr id 0,S.addBox id (.cells t xs)⟩:=by
 intro _ G w a hr;obtain⟨h4,h5⟩:=(hr.ev x).cells hs;obtain⟨e1,e2,e3⟩:=hr.newBox hn t h4 (λs hs=>by rw[Yo]at hx;simpa using hx s hs) h5;refine⟨_,_,_,_,?_,.inl rfl,e1,e2,e3,λi hi=>?_⟩
 ·simp[execOp,ho,Instr.box,newVar,newRow]
 ·simp only[Gh.bind];rw[Yb (by intro h;simp only[Zc]at h;omega)]
end
section
def Vaf{sz:F}:∀(es:C B),(∀e∈es,e.cells.size=sz)->(Va3 es).length=es.length*sz
 |[],_=>by simp[Va3]
 |e::es,h=>by
  have h1:=h e ku;have h2:=Vaf es (λx hx=>h x (by simp[hx]));simp only[Va3,Zm,Zq]at h2 ⊢;simp only[Zb,h1,h2,Xw,Z1];omega
def Vb1(a b:C B):Va3 (a++b)=Va3 a++Va3 b:=by simp[Va3]
def Vdd{sz:F}:∀(es:C B)(i:F)(e:B),(∀e∈es,e.cells.size=sz)->es[i]? =J e->∀(j:F)(x:B),e.cells.toList[j]? =J x->(Va3 es)[i*sz+j]? =J x
 |[],i,e,_,h,_,_,_=>by simp at h
 | e'::es,0,e,hs,h,j,x,hx=>by
  simp at h;subst h;have hj:j<e'.cells.toList.length:=by
   rcases Z2 j e'.cells.toList.length with h|h
   ·exact h
   ·simp[Zj h]at hx
  simp only[Va3,Zm,Je,Xp];rw[Zo hj];exact hx
 |e'::es,i+1,e,hs,h,j,x,hx=>by
  have h1:=hs e' ku;have h2:=Vdd es i e (λx hx=>hs x (by simp[hx])) (by simpa using h) j x hx;simp only[Va3,Zm]at h2 ⊢;rw[Yp (by simp only[Zb,h1,Z1];omega)];simp only[Zb,h1];rw[show(i+1)*sz+j-sz=i*sz+j by rw[Z1];omega];exact h2
def Vet{sz:F}:∀(es:C B)(n:F),(∀e∈es,e.cells.size=sz)->Va3 (es.take n)=(Va3 es).take (n*sz)
 |[],n,_=>by simp[Va3]
 |e::es,0,_=>by simp[Va3]
 |e::es,n+1,h=>by
  have h1:=h e ku;have ih:=Vet es n (λx hx=>h x (by simp[hx]));simp only[Va3,Q6,Zm]at ih ⊢;rw[ih,Il];simp only[Zb,h1];rw[show(n+1)*sz-sz=n*sz by rw[Z1];omega,Xr (l:=e.cells.toList) (by simp only[Zb,h1,Z1];omega)]
def Vh0{sz:F}:∀(es:C B)(n:F),(∀e∈es,e.cells.size=sz)->Va3 (es.drop n)=(Va3 es).drop (n*sz)
 |[],n,_=>by simp[Va3]
 |e::es,0,_=>by simp[Va3]
 |e::es,n+1,h=>by
  have h1:=h e ku;have ih:=Vh0 es n (λx hx=>h x (by simp[hx]));simp only[Va3,List.drop_succ_cons,Zm]at ih ⊢;rw[ih,Qv];simp only[Zb,h1];rw[show(n+1)*sz-sz=n*sz by rw[Z1];omega,Y0 (l:=e.cells.toList) (by simp only[Zb,h1,Z1];omega)];simp
def Uni(sz:F)(l:C AV):Prop:=∀ x∈l,x.cells.length=sz/\x.isTup=A
def RepL.mem{U:F->F}{w:H}:∀ {l:C AV} {us:C B},RepL U w l us->∀ u∈us,∃x∈l,Rep U w x u
 |[],us,h,u,hu=>by simp only[RepL]at h;subst h;simp at hu
 |y::l,us,h,u,hu=>by
  simp only[RepL]at h;obtain⟨v,us',rfl,h2,h3⟩:=h;simp only[Ys]at hu;rcases hu with rfl|hu
  ·exact⟨y,ku,h2⟩
  ·obtain⟨x,hx,hr⟩:=h3.mem u hu;exact⟨x,by simp[hx],hr⟩
def Uni.sizes{U:F->F}{w:H}{sz:F}{l:C AV}{es:C B}(h:Uni sz l)(hr:RepL U w l es):∀ e∈es,e.cells.size=sz:=by
 intro e he;obtain⟨x,hx,hr⟩:=hr.mem e he;obtain⟨h1,h2⟩:=h x hx;have:=(hr.cells' h2).1.length;simpa[h1]using this
def Lies.sub{U:F->F}{w:H}{b off:F}{cs:C B}(h:Lies U w (J ⟨b,off,E⟩) cs)(n m:F):Lies U w (J ⟨b,off+n,E⟩) ((cs.drop n).take m):=by
 rcases h with h|⟨b',off',h1,h2,h3⟩
 ·subst h;exact .inl ku
 ·simp at h1;obtain⟨rfl,rfl⟩:=h1
  by_cases hz:(cs.drop n).take m=[]
  ·exact .inl hz
  ·refine .inr ⟨b,off+n,rfl,?_,λj x hx=>?_⟩
   ·have:0<((cs.drop n).take m).length:=Qd.2 hz;simp at this ⊢;omega
   ·rw[Zw]at hx
    split at hx
    ·simp only[Yh]at hx;have:=h3 _ x hx;rwa[Ym]
    ·simp at hx
def Vft{P:D}{o:L}{S:St}{t e:Y}{sz bt:F}{z:R B}{x ix:X}{l:C AV}{k:Yi}{i:Qb}(ho:o.op=.indexAddr t x ix)(hx:(S.ev x).toAV=J (.sl l))(hix:S.ev ix=.av (.val (.int k i)))
  (ht:Vbe P t=J e) (hi:Van P e=J (sz,bt,z)) (hsz:0<sz):
  Sound P o S ⟨0<=i/\i<l.length/\(l.getD i.toNat (.val Z7)).cells.length=sz/\(l.getD i.toNat (.val Z7)).isTup=A,.av (.ro (l.getD i.toNat (.val Z7)).cells 0),S⟩:=
 Sound.still λ⟨hi0,hi1,hc,htp⟩ G w a hr=>by
  have h1:=(hr.ev x).toAV hx;have h2:=hr.ev ix;rw[hix]at h2;simp only[RepS,Rep]at h2;simp only[Rep]at h1;obtain⟨ad,cap,es,sz',g1,g2,g3,g4,g5,g6,g7⟩:=h1;have hlt:i.toNat<l.length:=kv;have hget:l[i.toNat]? =J (l.getD i.toNat (.val Z7)):=by simp[Qu,Zf hlt]
  obtain⟨e1,he1,he2⟩:=g2.get _ _ hget;obtain⟨hc1,hc2⟩:=he2.cells' htp;have hlen:=hc1.length;rw[hc]at hlen;have hmem:e1∈es:=Z4 he1;have hsz':sz'=sz:=by rw[<-g3 e1 hmem];simpa using hlen
  subst hsz';have hne:Va3 es≠[]:=by
   intro h0;have:=Vaf es g3;rw[h0]at this;have hp:0<es.length:=List.length_pos_of_mem hmem;have:0<es.length*sz':=Nat.mul_pos hp hsz;simp_all
  rcases g7 with h0|⟨b,off,ha,hU,hcell⟩
  ·exact(hne h0).elim
  ·subst ha;have ht':P.underlying t=J (.slice e):=by
    unfold Vbe at ht;split at ht
    ·rename_i hh;simp at ht;subst ht;exact hh
    ·simp at ht
   refine⟨.pointer (J ⟨b,off+i.toNat*sz',E⟩),?_,?_⟩
   ·simp[execOp,ho,h2.1,g1,Qq,asIntOf,Va0 ht',Vae hi,hi0,hi1,Vbd]
   ·simp only[RepS,Rep];refine⟨b,off+i.toNat*sz',e1.cells.toList,rfl,hc1,?_,λj y hj=>?_⟩
    ·have:=Vaf es g3;have hle:(i.toNat+1)*sz'<=es.length*sz':=Yc _ (by rw[g2.length];omega);rw[Z1]at hle;rw[this]at hU;omega
    ·have:=Vdd es _ e1 g3 he1 j y hj;have:=hcell _ y this;rwa[Ym]
def sound_index{P:D}{o:L}{S:St}{t:Y}{x ix:X}{s:Ze}{k:Yi}{i:Qb}(ho:o.op=.index t x ix)(hx:S.ev x=.av (.val (.string s)))(hix:S.ev ix=.av (.val (.int k i)))(ht:tStr P t=V):
  Sound P o S ⟨0<=i/\i<s.size,.av (.val (.int .u8 ((s.data.getD i.toNat 0).toNat:F))),S⟩:=
 Sound.still λ⟨hi0,hi1⟩ G w a hr=>by
  have h1:=hr.ev x;rw[hx]at h1;simp only[RepS,Rep]at h1;have h2:=hr.ev ix;rw[hix]at h2;simp only[RepS,Rep]at h2;have ht':P.underlying t=J .string:=by
   unfold tStr at ht;split at ht
   ·assumption
   ·simp at ht
  have hlt:i.toNat<s.size:=kv;have hg:s[i.toNat]? =J (s.data.getD i.toNat 0):=by
   have:i.toNat<s.data.size:=hlt;rw[getElem?_pos s i.toNat hlt];simp only[Array.getD,this,dif_pos];rfl
  refine⟨_,?_,⟨rfl,rfl⟩⟩;simp[execOp,ho,h1.1,h2.1,Iv,asIntOf,Va0 ht',hi0,hg]
def Vb3(S:St)(d:Qb)(k:Yi)(i:Qb):R X->Prop
 |none=>i=d
 |some y=>S.ev y=.av (.val (.int k i))
def Vkn{P:D}{o:L}{S:St}{t:Y}{x:X}{lo hi:R X}{s:Ze}{k k':Yi}{i j:Qb}(ho:o.op=.slice t x lo hi E)(hx:S.ev x=.av (.val (.string s)))
  (hlo:Vb3 S 0 k i lo) (hhi:Vb3 S s.size k' j hi) (ht:tStr P t=V):
  Sound P o S ⟨0<=i/\i<=j/\j<=s.size,.av (.val (.string (s.extract i.toNat j.toNat))),S⟩:=
 Sound.still λ⟨hi0,hi1,hi2⟩ G w a hr=>by
  have h1:=hr.ev x;rw[hx]at h1;simp only[RepS,Rep]at h1;have ht':P.underlying t=J .string:=by
   unfold tStr at ht;split at ht
   ·assumption
   ·simp at ht
  have hj0:0<=j:=kv;have hij:i<=(j.toNat:Qb):=kv;have hij':i.toNat<=j.toNat:=kv;refine⟨_,?_,⟨rfl,rfl⟩⟩;cases lo with
  | none=>
   simp only[Vb3]at hlo;subst hlo;cases hi with
   |none=>simp only[Vb3]at hhi;subst hhi;simp[execOp,ho,h1.1,Z0,Yd,Va0 ht',Zn]
   |some y=>
    simp only[Vb3]at hhi;have h2:=hr.ev y;rw[hhi]at h2;simp only[RepS,Rep]at h2;simp[execOp,ho,h1.1,h2.1,Z0,Yd,Va0 ht',Zn,Zz,asIntOf,hj0,hi2]
  | some y'=>
   simp only[Vb3]at hlo;have h3:=hr.ev y';rw[hlo]at h3;simp only[RepS,Rep]at h3;cases hi with
   |none=>
    simp only[Vb3]at hhi;subst hhi;simp[execOp,ho,h1.1,h3.1,Z0,Yd,Va0 ht',Zn,Zz,asIntOf,hi0,hi1]
   |some y=>
    simp only[Vb3]at hhi;have h2:=hr.ev y;rw[hhi]at h2;simp only[RepS,Rep]at h2;simp[execOp,ho,h1.1,h2.1,h3.1,Z0,Yd,Va0 ht',Zn,Zz,asIntOf,hi0,hj0,hi2];intro h;omega
def Vmq{P:D}{o:L}{S:St}{t e:Y}{sz bt:F}{z:R B}{x:X}{lo hi:R X}{l:C AV}{k k':Yi}{i j:Qb}(ho:o.op=.slice t x lo hi E)(hx:(S.ev x).toAV=J (.sl l))
  (hlo:Vb3 S 0 k i lo) (hhi:Vb3 S l.length k' j hi) (ht:Vbe P t=J e) (hti:Van P e=J (sz,bt,z)):
  Sound P o S ⟨0<=i/\i<=j/\j<=l.length/\Uni sz l,.av (.sl ((l.drop i.toNat).take (j.toNat-i.toNat))),S⟩:=
 Sound.still λ⟨hi0,hi1,hi2,hu⟩ G w a hr=>by
  have h1:=(hr.ev x).toAV hx;simp only[Rep]at h1;obtain⟨ad,cap,es,sz',g1,g2,g3,g4,g5,g6,g7⟩:=h1;have g3':=hu.sizes g2;have ht':P.underlying t=J (.slice e):=by
   unfold Vbe at ht;split at ht
   ·rename_i hh;simp at ht;subst ht;exact hh
   ·simp at ht
  have hj0:0<=j:=kv;have hjc:j<=(cap:Qb):=kv;have hij:i<=(j.toNat:Qb):=kv;refine⟨.slice (if cap=i.toNat then ad else ad.map (·.add (i.toNat*sz))) (j.toNat-i.toNat) (cap-i.toNat),?_,?_⟩
  ·cases lo with
   | none=>
    simp only[Vb3]at hlo;subst hlo;cases hi with
    |none=>simp only[Vb3]at hhi;subst hhi;simp[execOp,ho,g1,Z0,Yd,Va0 ht',Zn,Vae hti]
    |some y=>
     simp only[Vb3]at hhi;have h2:=hr.ev y;rw[hhi]at h2;simp only[RepS,Rep]at h2;simp[execOp,ho,g1,h2.1,Z0,Yd,Va0 ht',Zn,Zz,asIntOf,hj0,hjc,Vae hti]
   | some y'=>
    simp only[Vb3]at hlo;have h3:=hr.ev y';rw[hlo]at h3;simp only[RepS,Rep]at h3;cases hi with
    |none=>
     simp only[Vb3]at hhi;subst hhi;simp[execOp,ho,g1,h3.1,Z0,Yd,Va0 ht',Zn,Zz,asIntOf,hi0,hi1,Vae hti]
    |some y=>
     simp only[Vb3]at hhi;have h2:=hr.ev y;rw[hhi]at h2;simp only[RepS,Rep]at h2;simp[execOp,ho,g1,h2.1,h3.1,Z0,Yd,Va0 ht',Zn,Zz,asIntOf,hi0,hj0,hjc,Vae hti];intro h;omega
  ·simp only[RepS,Rep];have hlen:((l.drop i.toNat).take (j.toNat-i.toNat)).length=j.toNat-i.toNat:=by simp;omega
   have g2':=(g2.drop i.toNat).take (j.toNat-i.toNat);refine⟨_,_,(es.drop i.toNat).take (j.toNat-i.toNat),sz,by rw[hlen],g2',λe he=>g3' e (Zh (Zg he)),λhn=>?_,by rw[hlen];omega,λhne ad' hd=>?_,?_⟩
   ·cases ad with
    |none=>rw[g4 rfl];simp
    |some ad'=>split at hn <;>simp at hn
   ·cases ad with
    |none=>split at hd <;>simp at hd
    |some ad2=>
     have:=g6 (by rintro rfl;simp at hne) ad2 rfl;obtain⟨bb,oo,ss⟩:=ad2;simp only at this;subst this
     split at hd
     ·simp at hd;subst hd;rfl
     ·simp[Vbd]at hd;subst hd;rfl
   ·by_cases hci:cap=i.toNat
    ·have h0:j.toNat-i.toNat=0:=kv;rw[h0];exact .inl (by simp[Va3])
    ·rw[Yb hci];cases ad with
     |none=>rw[g4 rfl];exact .inl (by simp[Va3])
     |some ad2=>
      by_cases hle:l=[]
      ·subst hle;simp only[RepL]at g2;subst g2;exact .inl (by simp[Va3])
      have:=g6 hle ad2 rfl;obtain⟨bb,oo,ss⟩:=ad2;simp only at this;subst this;simp only[Zy,Vbd];rw[Vet (sz:=sz) _ _ (λe he=>g3' e (Zh he)),Vh0 _ _ g3'];exact g7.sub _ _
def Vj1(P:D):C Jk->R (C (F×F))
 |[]=>J []
 |f::l=>match P.info? f.type,Vj1 P l with
  |some i,J r=>J ((f.offset,i.size)::r)
  |_,_=>E
def Vfr(P:D)(t:Y):R (C (F×F)):=
 match P.underlying t with
 |some (.struct fs)=>Vj1 P fs.toList
 |_=>E
def Vob(P:D)(t:Y):R (C (F×F)):=
 match P.underlying t with
 |some (.struct fs)=>Vj1 P fs.toList
 |some (.array n e)=>(P.info? e).map (λi=>(Xl n).map (λk=>(k*i.size,i.size)))
 |_=>E
def run_places{P:D}(w:H):∀(fs:C Jk)(r:C (F×F)),Vj1 P fs=J r->
  (fs.mapM (λf=>do pure (f.offset, <-sizeOf f.type)):Sem (C (F×F))).run P w=.ok r w
 |[],r,h=>by simp[Vj1]at h;subst h;simp
 | f::fs,r,h=>by
  simp only[Vj1]at h
  split at h
  ·rename_i i r' h1 h2;simp at h;subst h;have ih:=run_places w fs r' h2;have hs:(sizeOf f.type).run P w=.ok i.size w:=by simp[sizeOf,Vcg h1]
   simp only[bind_pure_comp]at ih;simp[Xs,hs,ih]
  ·simp at h
def aFill(pl:C (F×F)):C AV->C (F×AV)->R (C AV)
 |cs,[]=>J cs
 |cs,(i,x)::rest=>match pl[i]? with
  |some (off,size)=>if x.cells.length=size/\off+size<=cs.length/\x.isTup=A then aFill pl (x.cells.zipIdx.foldl (λc (p:AV×F)=>c.set (off+p.2) p.1) cs) rest else E
  |none=>E
def Vjv{U:F->F}{w:H}(off:F):∀ {xs:C AV} {vs:C B} (k:F) {cs:C AV} {us:C B},RepL U w xs vs->RepL U w cs us->
  RepL U w ((xs.zipIdx k).foldl (λc (p:AV×F)=>c.set (off+p.2) p.1) cs) ((vs.zipIdx k).foldl (λc (p:B×F)=>c.set (off+p.2) p.1) us)
 |[],vs,k,cs,us,h,h'=>by simp only[RepL]at h;subst h;simpa using h'
 |x::xs,vs,k,cs,us,h,h'=>by
  simp only[RepL]at h;obtain⟨u,vs',rfl,h2,h3⟩:=h;simp only[Xa,Xj];exact Vjv off (k+1) h3 (h'.set _ h2)
def Vlq{off:F}{p:B->Prop}:∀(xs:C B)(k:F)(cs:C B),(∀x∈xs,p x)->(∀x∈cs,p x)->∀ x∈(xs.zipIdx k).foldl (λc (q:B×F)=>c.set (off+q.2) q.1) cs,p x
 |[],_,_,_,h,x,hx=>by simp at hx;exact h x hx
 |y::xs,k,cs,h1,h2,x,hx=>by
  simp only[Xa,Xj]at hx;refine Vlq xs (k+1) _ (λz hz=>h1 z (by simp[hz])) (λz hz=>?_) x hx;rcases Xf hz with h|h
  ·exact h2 z h
  ·rw[h];exact h1 y ku
def Vja(off:F):∀(xs:C B)(k:F)(cs:Yj B),((xs.zipIdx k).foldl (λc (p:B×F)=>c.setIfInBounds (off+p.2) p.1) cs).toList=(xs.zipIdx k).foldl (λc (p:B×F)=>c.set (off+p.2) p.1) cs.toList
 |[],_,_=>by simp
 |x::xs,k,cs=>by
  simp only[Xa,Xj];rw[Vja off xs (k+1)];simp
def Vgo{U:F->F}{w:H}(pl:C (F×F))(place:F->R (F×F))(hpl:∀ i:F,pl[i]? =place i):∀(parts:C (F×AV))(vs:C (F×B))(cs r:C AV)(us:Yj B),
  parts.map (·.1)=vs.map (·.1)->RepL U w (parts.map (·.2)) (vs.map (·.2))->RepL U w cs us.toList->(∀x∈us.toList,x.oneCell'=V)->aFill pl cs parts=J r->
  ∃us',Xm place us vs=J us'/\RepL U w r us'.toList/\∀ x∈us'.toList,x.oneCell'=V
 |[],[],cs,r,us,_,_,h,h1,hr=>by simp[aFill]at hr;subst hr;exact⟨us,rfl,h,h1⟩
 |[],_::_,_,_,_,hm,_,_,_,_=>by simp at hm
 |_::_,[],_,_,_,hm,_,_,_,_=>by simp at hm
 | (i,x)::parts,(i',v)::vs,cs,r,us,hm,hx,h,h1,hr=>by
  simp only[Z9,Q1]at hm;obtain⟨rfl,hm⟩:=hm;simp only[Z9,RepL,Q1]at hx;obtain⟨u,us',⟨rfl,rfl⟩,h2,h3⟩:=hx;simp only[aFill]at hr
  split at hr
  ·rename_i off size hp
   split at hr
   ·rename_i hc;obtain⟨hc1,hc2,hc3⟩:=hc;obtain⟨g1,g2⟩:=h2.cells' hc3;have hl:=g1.length;have hcl:=h.length;have hvs:v.cells.size=size:=by simpa[hc1]using hl
    have e1:=Vja off v.cells.toList 0 us;have hfold:(v.cells.zipIdx.foldl (λcs (x:B×F)=>cs.setIfInBounds (off+x.2) x.1) us)=((v.cells.toList.zipIdx 0).foldl (λc (p:B×F)=>c.setIfInBounds (off+p.2) p.1) us):=by
     rw[<-Ic];simp
    obtain⟨us2,f1,f2,f3⟩:=Vgo pl place hpl parts vs _ r (v.cells.zipIdx.foldl (λcs (x:B×F)=>cs.setIfInBounds (off+x.2) x.1) us) hm h3
     (by rw[hfold,e1];exact Vjv off 0 g1 h) (by rw[hfold,e1];exact Vlq _ _ _ g2 h1) hr
    refine⟨us2,?_,f2,f3⟩;simp only[Xm, <-hpl i,hp];rw[Yb (by simp at hcl;simp;omega)];exact f1
   ·simp at hr
  ·simp at hr
def Ve9(S:St):C (F×X)->R (C (F×AV))
 |[]=>J []
 |(i,x)::l=>match(S.ev x).toAV,Ve9 S l with
  |some y,J r=>J ((i,y)::r)
  |_,_=>E
def Vf4{G:Gh}{w:H}{S:St}{a:Qr}(hr:Rel G w S a):∀ {l:C (F×X)} {r:C (F×AV)},Ve9 S l=J r->
  r.map (·.1)=(l.map (λp=>(p.1,a.eval p.2))).map (·.1)/\RepL G.U w (r.map (·.2)) ((l.map (λp=>(p.1,a.eval p.2))).map (·.2))
 |[],r,h=>by simp[Ve9]at h;subst h;simp[RepL]
 |(i,x)::l,r,h=>by
  simp only[Ve9]at h
  split at h
  ·rename_i y r' h1 h2;simp at h;subst h;obtain⟨g1,g2⟩:=Vf4 hr h2;refine⟨by simp only[Z9];rw[g1],?_⟩;simp only[Z9,RepL];exact⟨_,_,rfl,(hr.ev x).toAV h1,g2⟩
  ·simp at h
def RepL_val{U:F->F}{w:H}:∀(l:C B),(∀c∈l,c.oneCell'=V)->RepL U w (l.map .val) l
 |[],_=>by simp[RepL]
 |c::l,h=>by
  simp only[Z9,RepL];exact⟨c,l,rfl,by simp only[Rep];exact⟨Yq,h c ku⟩,RepL_val l (λx hx=>h x (by simp[hx]))⟩
def Vi1{p1 p2:F->R (F×F)}(hp:∀ i q,p1 i=J q->p2 i=J q):∀(vs:C (F×B))(cs r:Yj B),Xm p1 cs vs=J r->Xm p2 cs vs=J r
 |[],cs,r,h=>h
 | (i,v)::rest,cs,r,h=>by
  unfold Xm at h ⊢
  split at h
  ·simp at h
  ·rename_i off size hq;rw[hp i _ hq];simp only
   split at h
   ·simp at h
   ·rename_i hc;rw[Yb hc];exact Vi1 hp rest _ r h
def sound_build{P:D}{o:L}{S:St}{t:Y}{parts:Yj (F×X)}{sz bt:F}{z:B}{pl:C (F×F)}{ps:C (F×AV)}{r:C AV}(ho:o.op=.build t parts)(hi:Van P t=J (sz,bt,J z))
  (h1:z.cells.toList.all (λc=>c.oneCell')=V) (hpl:Vob P t=J pl) (hp:Ve9 S parts.toList=J ps) (hf:aFill pl (z.cells.toList.map Vds) ps=J r):Sound P o S ⟨O,.av (.agg r),S⟩:=
 Sound.still λ_ G w a hr=>by
  have h1':∀ x∈z.cells.toList,x.oneCell'=true:=λc hc=>Yo.1 h1 c hc
  obtain⟨g1,g2⟩:=Vf4 hr hp;unfold Vob at hpl
  split at hpl
  ·rename_i fs hu;obtain⟨us',f1,f2,f3⟩:=Vgo (U:=G.U) (w:=w) pl (λi=>pl[i]?) (λi=>rfl) ps _ _ r z.cells g1 g2 (Vep _ h1') h1' hf;refine⟨.agg us',?_,?_⟩
   ·have hm:=run_places w fs.toList pl hpl;have hm2:(fs.mapM (λf=>do pure (f.offset, <-sizeOf f.type)):Sem (Yj (F×F))).run P w=.ok pl.toArray w:=by
     rw[Yf];simp only[Ir,hm,Zt]
    simp only[bind_pure_comp]at hm2;have hl:(parts.map λ(x:F×X)=>(x.1,a.eval x.2)).toList=parts.toList.map (λp=>(p.1,a.eval p.2)):=ku;simp[execOp,ho,Jg,Var hi,Va0 hu,hm2,f1]
   ·simp only[RepS,Rep];exact⟨us',rfl,f2,f3⟩
  ·rename_i n e hu;simp only[Za]at hpl;obtain⟨inf,hinf,rfl⟩:=hpl;obtain⟨us',f1,f2,f3⟩:=Vgo (U:=G.U) (w:=w) _ (λi=>((Xl n).map (λk=>(k*inf.size,inf.size)))[i]?) (λi=>rfl) ps _ _ r z.cells g1 g2 (Vep _ h1') h1' hf
   have f4:=Vi1 (p2:=λi=>J (i*inf.size,inf.size)) (λi q hq=>by
    simp only[Z8,Za]at hq;obtain⟨k,hk,rfl⟩:=hq;rw[List.getElem?_eq_some_iff]at hk;obtain⟨hk1,hk2⟩:=hk
    simp at hk2;subst hk2;rfl) _ _ _ f1
   refine⟨.agg us',?_,?_⟩
   ·have hs:(sizeOf e).run P w=.ok inf.size w:=by simp[sizeOf,Vcg hinf]
    simp[execOp,ho,Jg,Var hi,Va0 hu,hs,f4]
   ·simp only[RepS,Rep];exact⟨us',rfl,f2,f3⟩
  ·simp at hpl
def tArr(P:D)(t:Y):R (F×Y):=match P.underlying t with
 |some (.array n e)=>J (n,e)
 |_=>E
def arrElt(ag:Xe)(l:C AV)(off sz:F):AV:=match ag with
 |true=>.agg ((l.drop off).take sz)
 |false=>l.getD off (.val Z7)
def Vkt{P:D}{o:L}{S:St}{t e:Y}{n sz bt:F}{zz:R B}{x ix:X}{l:C AV}{k:Yi}{i:Qb}{ag:Xe}(ho:o.op=.index t x ix)(hx:S.ev x=.av (.agg l))(hix:S.ev ix=.av (.val (.int k i)))(ht:tArr P t=J (n,e))(hi:Van P e=J (sz,bt,zz))(ha:tAgg P e=J ag):
  Sound P o S ⟨0<=i/\i<n/\i.toNat*sz+sz<=l.length/\0<sz,.av (arrElt ag l (i.toNat*sz) sz),S⟩:=
 Sound.still λ⟨hi0,hi1,hle,hsz⟩ G w a hr=>by
  have h1:=hr.ev x;rw[hx]at h1;simp only[RepS,Rep]at h1;have h2:=hr.ev ix;rw[hix]at h2;simp only[RepS,Rep]at h2;obtain⟨us,hu,hl,h1c⟩:=h1;have ht':P.underlying t=J (.array n e):=by
   unfold tArr at ht;split at ht
   ·rename_i h;simp only[T,Zc]at ht;obtain⟨rfl,rfl⟩:=ht;exact h
   ·simp at ht
  have hlen:=hl.length;cases ag with
  | true=>
   refine⟨.agg (us.extract (i.toNat*sz) (i.toNat*sz+sz)),?_,?_⟩
   ·simp[execOp,ho,h2.1,hu,Iv,asIntOf,Va0 ht',Vae hi,hi0,hi1,part,Vde ha]
   ·simp only[RepS,arrElt,Rep];have e1:(us.extract (i.toNat*sz) (i.toNat*sz+sz)).toList=(us.toList.drop (i.toNat*sz)).take sz:=by
     simp[List.extract_eq_take_drop]
    refine⟨_,rfl,by rw[e1];exact(hl.drop _).take _,λy hy=>?_⟩;rw[e1]at hy;exact h1c y (Zh (Zg hy))
  | false=>
   have hlt:i.toNat*sz<l.length:=kv;obtain⟨u,hu1,hu2⟩:=hl.get (i.toNat*sz) (l.getD (i.toNat*sz) (.val Z7)) (by simp[Qu,Zf hlt]);refine⟨u,?_,?_⟩
   ·have hu3:us[i.toNat*sz]? =J u:=by simpa using hu1
    simp[execOp,ho,h2.1,hu,Iv,asIntOf,Va0 ht',Vae hi,hi0,hi1,part,Vde ha,hu3]
   ·simp only[RepS,arrElt];exact hu2
def Vpt{G:Gh}{w:H}{S:St}{a:Qr}(hr:Rel G w S a):∀ {l:C X} {ps:C PV},l.mapM (λx=>(S.ev x).toPV)=J ps->RepPs G w ps (l.map a.eval)
 |[],ps,h=>by simp at h;subst h;rfl
 |x::l,ps,h=>by
  simp only[Xs,Option.bind_eq_bind,Option.bind_eq_some_iff]at h;obtain⟨p,h1,ps',h2,h3⟩:=h;simp at h3;subst h3;exact⟨_,_,rfl,(hr.ev x).toPV h1,Vpt hr h2⟩
def Vmr{P:D}{o:L}{S:St}{f:FuncId}{first captured:Yj X}{fs cs:C PV}(ho:o.op=.makeFunc (.func f) first captured)(hf:first.toList.mapM (λx=>(S.ev x).toPV)=J fs)(hc:captured.toList.mapM (λx=>(S.ev x).toPV)=J cs):
  Sound P o S ⟨O,.fn f fs cs,S⟩:=
 Sound.still λ_ G w a hr=>by
  refine⟨.func (.func f) (first.map a.eval) (captured.map a.eval),by simp[execOp,ho,Instr.makeFunc],_,_,rfl,?_,?_⟩
  ·simpa using Vpt hr hf
  ·simpa using Vpt hr hc
def Vb2{P:D}{o:L}{a:Qr}{b:Builtin}{args:Yj X}{tys:Yj Y}(ho:o.op=.call {callee:=.builtin b,args:=args,argTypes:=tys})(w:H):
  ∃c,(execOp a.eval o).run P w=(builtin b tys o.type c (args.map a.eval)).run P w:=
 ⟨_,by simp only[execOp,ho,resolve];rfl⟩
def Vgs(P:D)(t:Y):Bool:=
 match P.underlying t with
 |some (.slice _)=>V
 |_=>A
def Voj{P:D}{o:L}{S:St}{x:X}{t:Y}{s:Ze}(ho:o.op=.call {callee:=.builtin .len,args:=#[x],argTypes:=#[t]})(hx:S.ev x=.av (.val (.string s)))(ht:tStr P t=V):Sound P o S ⟨O,.av (.val (.int .i64 s.size)),S⟩:=
 Sound.still λ_ G w a hr=>by
  have h1:=hr.ev x;rw[hx]at h1;simp only[RepS,Rep]at h1;have ht':P.underlying t=J .string:=by
   unfold tStr at ht;split at ht
   ·assumption
   ·simp at ht
  obtain⟨c,hc⟩:=Vb2 (P:=P) (a:=a) ho w;exact⟨_,by rw[hc];simp[builtin,Qy,Va0 ht',h1.1,goInt],⟨rfl,rfl⟩⟩
def Vq8{P:D}{o:L}{S:St}{x:X}{t:Y}{l:C AV}(ho:o.op=.call {callee:=.builtin .len,args:=#[x],argTypes:=#[t]})(hx:(S.ev x).toAV=J (.sl l))(ht:Vgs P t=V):Sound P o S ⟨O,.av (.val (.int .i64 l.length)),S⟩:=
 Sound.still λ_ G w a hr=>by
  have h1:=(hr.ev x).toAV hx;simp only[Rep]at h1;obtain⟨ad,cap,es,sz',g1,_⟩:=h1;have⟨e,ht'⟩:∃ e,P.underlying t=J (.slice e):=by
   unfold Vgs at ht;split at ht
   ·rename_i e h;exact⟨e,h⟩
   ·simp at ht
  obtain⟨c,hc⟩:=Vb2 (P:=P) (a:=a) ho w;exact⟨_,by rw[hc];simp[builtin,Qy,Va0 ht',g1,goInt],⟨rfl,rfl⟩⟩
def sound_max{P:D}{o:L}{S:St}{x y:X}{tys:Yj Y}{k:Yi}{i j:Qb}(ho:o.op=.call {callee:=.builtin .max,args:=#[x,y],argTypes:=tys})(hx:S.ev x=.av (.val (.int k i)))(hy:S.ev y=.av (.val (.int k j))):
  Sound P o S ⟨O,.av (.val (.int k (max i j))),S⟩:=
 Sound.still λ_ G w a hr=>by
  have h1:=hr.ev x;rw[hx]at h1;simp only[RepS,Rep]at h1;have h2:=hr.ev y;rw[hy]at h2;simp only[RepS,Rep]at h2;obtain⟨c,hc⟩:=Vb2 (P:=P) (a:=a) ho w;refine⟨.int k (max i j),?_,⟨rfl,rfl⟩⟩;rw[hc];have:(if j>i then j else i)=max i j:=by split <;>omega
  simp[builtin,Builtin.max_,h1.1,h2.1,Builtin.max2,this]
def sound_max3{P:D}{o:L}{S:St}{x y z:X}{tys:Yj Y}{k:Yi}{i j l:Qb}(ho:o.op=.call {callee:=.builtin .max,args:=#[x,y,z],argTypes:=tys})(hx:S.ev x=.av (.val (.int k i)))(hy:S.ev y=.av (.val (.int k j)))(hz:S.ev z=.av (.val (.int k l))):
  Sound P o S ⟨O,.av (.val (.int k (max (max i j) l))),S⟩:=
 Sound.still λ_ G w a hr=>by
  have h1:=hr.ev x;rw[hx]at h1;simp only[RepS,Rep]at h1;have h2:=hr.ev y;rw[hy]at h2;simp only[RepS,Rep]at h2;have h3:=hr.ev z;rw[hz]at h3;simp only[RepS,Rep]at h3;obtain⟨c,hc⟩:=Vb2 (P:=P) (a:=a) ho w;refine⟨.int k (max (max i j) l),?_,⟨rfl,rfl⟩⟩;rw[hc];have e1:(if j>i then j else i)=max i j:=by split <;>omega
  have e2:(if l>max i j then l else max i j)=max (max i j) l:=by split <;>omega
  simp[builtin,Builtin.max_,h1.1,h2.1,h3.1,Builtin.max2,e1,e2]
def sound_min{P:D}{o:L}{S:St}{x y:X}{tys:Yj Y}{k:Yi}{i j:Qb}(ho:o.op=.call {callee:=.builtin .min,args:=#[x,y],argTypes:=tys})(hx:S.ev x=.av (.val (.int k i)))(hy:S.ev y=.av (.val (.int k j))):
  Sound P o S ⟨O,.av (.val (.int k (min i j))),S⟩:=
 Sound.still λ_ G w a hr=>by
  have h1:=hr.ev x;rw[hx]at h1;simp only[RepS,Rep]at h1;have h2:=hr.ev y;rw[hy]at h2;simp only[RepS,Rep]at h2;obtain⟨c,hc⟩:=Vb2 (P:=P) (a:=a) ho w;refine⟨.int k (min i j),?_,⟨rfl,rfl⟩⟩;rw[hc];have:(if j<i then j else i)=min i j:=by split <;>omega
  simp[builtin,Builtin.min_,h1.1,h2.1,Builtin.min2,this]
def foldset_mid{α:Type}:∀(xs:C α)(k:F)(pre rest:C α),xs.length<=rest.length->k=0->
  (xs.zipIdx k).foldl (λc (p:α×F)=>c.set (pre.length+p.2) p.1) (pre++rest)=pre++xs++rest.drop xs.length:=by
 have key:∀(xs:C α)(k off:F)(pre rest:C α),xs.length<=rest.length->off+k=pre.length->
   (xs.zipIdx k).foldl (λc (p:α×F)=>c.set (off+p.2) p.1) (pre++rest)=pre++xs++rest.drop xs.length:=by
  intro xs
  induction xs with
  |nil=>intro k off pre rest _ _;simp
  | cons x xs ih=>
   intro k off pre rest h1 h2;cases rest with
   |nil=>simp at h1
   | cons r rest=>
    simp only[Xa,Xj];have e1:(pre++r::rest).set (off+k) x=(pre++[x])++rest:=by
     rw[h2,List.set_append_right _ _ (Zk _)];simp
    rw[e1,ih (k+1) off (pre++[x]) rest (by simp at h1;omega) (by simp;omega)];simp
 intro xs k pre rest h1 hk;subst hk;exact key xs 0 pre.length pre rest h1 kv
def fill_row(sz:F):∀(vs:C B)(k:F)(us:Yj B)(pre rest:C B),us.toList=pre++rest->pre.length=k*sz->(∀v∈vs,v.cells.size=sz)->rest.length=vs.length*sz->
  ∃us',Xm (λi=>J (i*sz,sz)) us ((vs.zipIdx k).map (λp=>(p.2,p.1)))=J us'/\us'.toList=pre++Va3 vs
 |[],k,us,pre,rest,h,_,_,hr=>by
  simp at hr;subst hr;exact⟨us,rfl,by simpa[Va3]using h⟩
 | v::vs,k,us,pre,rest,h,hp,hs,hr=>by
  have hv:=hs v ku;have hus:us.size=k*sz+(vs.length+1)*sz:=by
   have:=Xg Y6 h;simp only[Zb,Zq,hp,hr,Xw]at this;exact this
  have hmul:(vs.length+1)*sz=vs.length*sz+sz:=Z1 _ _;have e1:=Vja (k*sz) v.cells.toList 0 us;rw[h, <-hp,foldset_mid v.cells.toList 0 pre rest (by simp only[Zb,hv,hr,Xw];omega) rfl,hp]at e1;have hfold:(v.cells.zipIdx.foldl (λcs (x:B×F)=>cs.setIfInBounds (k*sz+x.2) x.1) us)=((v.cells.toList.zipIdx 0).foldl (λc (p:B×F)=>c.setIfInBounds (k*sz+p.2) p.1) us):=by
   rw[<-Ic];simp
  obtain⟨us',f1,f2⟩:=fill_row sz vs (k+1) (v.cells.zipIdx.foldl (λcs (x:B×F)=>cs.setIfInBounds (k*sz+x.2) x.1) us) (pre++v.cells.toList) (rest.drop v.cells.toList.length)
   (by rw[hfold,e1]) (by simp only[Zq,hp,Zb,hv,Z1]) (λx hx=>hs x (by simp[hx])) (by simp only[Xc,hr,Zb,hv,Xw];omega)
  refine⟨us',?_,by rw[f2];simp[Va3]⟩;simp only[Xa,Z9,Xm];rw[Yb (by simp only[hv,ne_eq,not_true_eq_false,decide_false,Bool.false_or,Ql];omega)];exact f1
def Vd5(S:St):C X->R (C AV)
 |[]=>J []
 |x::l=>match(S.ev x).toAV,Vd5 S l with
  |some y,J r=>J (y::r)
  |_,_=>E
def Vic{G:Gh}{w:H}{S:St}{a:Qr}(hr:Rel G w S a):∀ {l:C X} {r:C AV},Vd5 S l=J r->RepL G.U w r (l.map a.eval)
 |[],r,h=>by simp[Vd5]at h;subst h;simp[RepL]
 |x::l,r,h=>by
  simp only[Vd5]at h
  split at h
  ·rename_i y r' h1 h2;simp at h;subst h;simp only[Z9,RepL];exact⟨_,_,rfl,(hr.ev x).toAV h1,Vic hr h2⟩
  ·simp at h
def Vii{w:H}{cs rest:C B}{e:Y}{n:F}(U:F->F)(h1:∀ x∈cs,x.oneCell'=V)(hn:n=cs.length):
  Lies (λi=>if i=w.heap.size then n else U i) (w.alloc (.cells (cs++rest).toArray e)) (J ⟨w.heap.size,0,E⟩) cs:=by
 by_cases hz:cs=[]
 ·exact .inl hz
 ·refine .inr ⟨w.heap.size,0,rfl,by simp[hn],λj x hx=>⟨?_,h1 x (Z4 hx)⟩⟩;have hj:j<cs.length:=by
   rcases Z2 j cs.length with h|h
   ·exact h
   ·simp[Zj h]at hx
  simp only[Ye,Vax];simp[Zo hj,hx]
def RepL.cells{U:F->F}{w:H}{sz:F}:∀ {l:C AV} {es:C B},RepL U w l es->Uni sz l->∀ c∈Va3 es,c.oneCell'=V
 |[],es,h,_,c,hc=>by simp only[RepL]at h;subst h;simp[Va3]at hc
 |x::l,es,h,hu,c,hc=>by
  simp only[RepL]at h;obtain⟨u,es',rfl,h2,h3⟩:=h;simp only[Va3,Zm,Zd]at hc;rcases hc with hc|hc
  ·exact(h2.cells' (hu x ku).2).2 c hc
  ·exact RepL.cells h3 (λy hy=>hu y (by simp[hy])) c hc
def Vgt{P:D}{o:L}{S:St}{t e:Y}{n:F}{parts:Yj (F×X)}{sz bt:F}{z:B}{ps:C AV}(ho:o.op=.buildSlice t n parts)(ht:Vbe P t=J e)(hi:Van P e=J (sz,bt,J z))
  (hidx:parts.toList.map (·.1)=Xl n) (hp:Vd5 S (parts.toList.map (·.2))=J ps) (hu:Uni sz ps) (hsz:n*sz<=16777216):Sound P o S ⟨O,.clo ps,S⟩:=by
 intro _ G w a hr;have h1:=Vic hr hp;generalize hes:(parts.toList.map (·.2)).map a.eval=es at h1;have h2:=hu.sizes h1;have h3:=h1.cells hu;have hlen:es.length=n:=by
  have:=Xg Y6 hidx;simp at this;rw[<-hes];simp[this]
 have hpart:(parts.map λ(x:F×X)=>(x.1,a.eval x.2)).toList=(es.zipIdx 0).map (λp=>(p.2,p.1)):=by
  rw[<-hes];apply Qm;intro i;have hi':(parts.toList.map (·.1))[i]? =(Xl n)[i]? :=by rw[hidx]
  simp only[Array.toList_map,Z8,List.getElem?_zipIdx,List.map_map]at hi' ⊢;cases hp:parts.toList[i]? with
  |none=>simp
  | some q=>
   simp only[hp,Zy]at hi';have hlt:i<(Xl n).length:=by
    rcases Z2 i (Xl n).length with h|h
    ·exact h
    ·simp[Zj h]at hi'
   rw[Zf hlt]at hi';simp at hi';simp[hi']
 have ht':P.underlying t=J (.slice e):=by
  unfold Vbe at ht;split at ht
  ·rename_i hh;simp at ht;subst ht;exact hh
  ·simp at ht
 have key:∀ us:Yj B,us.size=n*sz->Xm (λi=>J (i*sz,sz)) us ((es.zipIdx 0).map (λp=>(p.2,p.1)))=J (Va3 es).toArray:=by
  intro us hus;obtain⟨us',f1,f2⟩:=fill_row sz es 0 us [] us.toList ku ku h2 (by rw[hlen];simpa using hus);rw[f1];simp only[Iy]at f2;rw[<-f2]
 obtain⟨s1,s2,s3⟩:=Vef hr.wf (.cells (Va3 es++[]).toArray e) (Va3 es).length;refine⟨_,.slice (J ⟨w.heap.size,0,E⟩) n n,w.alloc (.cells (Va3 es++[]).toArray e),G.setU w.heap.size (Va3 es).length,?_,.inl rfl,s1,hr.keep s1.toExt s2 (λκ _=>s3 κ) rfl,?_,λ_ _=>rfl⟩
 ·have hle:¬ n*sz>2 ^ 24:=kv
  by_cases h0:n*sz=0
  ·simp only[execOp,ho,Ip,Zr,Va0 ht',Zt,Vae hi,Yb hle,Qo h0,Yz,hpart,key _ (show((Ji (n*sz)).map (λi=>(#[]:Yj B)[i%(#[]:Yj B).size]!)).size=n*sz by simp)];simp[newRow]
  ·simp only[execOp,ho,Ip,Zr,Va0 ht',Zt,Vae hi,Yb hle,Yb h0,Yz,Var hi,hpart,key _ (show((Ji (n*sz)).map (λi=>z.cells[i%z.cells.size]!)).size=n*sz by simp)];simp[newRow]
 ·have hlp:ps.length=n:=by rw[<-h1.length];exact hlen
  refine⟨⟨w.heap.size,0,by rw[hlp]⟩,?_⟩;simp only[Rep];refine⟨_,n,es,sz,by rw[hlp],RepL.mono s1.U s1.imm _ _ h1,h2,ku,kv,ku,?_⟩;exact Vii G.U h3 rfl
def Vjx{P:D}{o:L}{S:St}{t e:Y}{n:F}{parts:Yj (F×X)}{sz bt:F}{z:B}{ps:C AV}(ho:o.op=.buildSlice t n parts)(ht:Vbe P t=J e)(hi:Van P e=J (sz,bt,J z))
  (hidx:parts.toList.map (·.1)=Xl n) (hp:Vd5 S (parts.toList.map (·.2))=J ps) (hu:Uni sz ps) (hsz:n*sz<=16777216):Sound P o S ⟨O,.av (.sl ps),S⟩:=by
 intro hok G w a hr;obtain⟨nx,v,w',G',e1,e2,e3,e4,e5,e6⟩:=Vgt ho ht hi hidx hp hu hsz hok G w a hr;exact⟨nx,v,w',G',e1,e2,e3,e4,e5.2,e6⟩
end
section
def Ve1(P:D)(t:Y):Bool:=
 match P.underlying t with
 |some (.slice _)=>V
 |some .string=>V
 |_=>A
def Vj4{P:D}{t:Y}(h:Ve1 P t=V):(∃e,P.underlying t=J (.slice e))\/P.underlying t=J .string:=by
 unfold Ve1 at h
 split at h
 ·rename_i hh;exact .inl ⟨_,hh⟩
 ·rename_i hh;exact .inr hh
 ·simp at h
section
variable {P:D} {t t2 ty e:Y} {sz bt:F} {z:B}
def Vbo(ht:Vbe P t=J e)(h2:Ve1 P t2=V)(hi:Van P e=J (sz,bt,J z)){w:H}{b off n cap m:F}{x:B}{news:C B}(hl:(Xi x).run P w=.ok m w)
  (hf:(Zx sz m x).run P w=.ok news.toArray w) (hle:n+m<=cap) {w':H} (hs:(storeCells ⟨b,off+n*sz,E⟩ news).run P w=.ok () w'):
  (Z5 #[t,t2] ty #[.slice (J ⟨b,off,E⟩) n cap,x]).run P w=.ok (.slice (J ⟨b,off,E⟩) (n+m) cap) w':=by
 have ht':P.underlying t=J (.slice e):=by
  unfold Vbe at ht;split at ht
  ·rename_i hh;simp at ht;subst ht;exact hh
  ·simp at ht
 rcases Vj4 h2 with⟨_,hd1⟩|hd1 <;>simp[Z5,Va0 ht',Vae hi,Va0 hd1,hl,hle,hf,Vbd,hs]
def Vfx(ht:Vbe P t=J e)(h2:Ve1 P t2=V)(hi:Van P e=J (sz,bt,J z)){w:H}{x:B}(hl:(Xi x).run P w=.ok 0 w){news:C B}
  (hf:(Zx sz 0 x).run P w=.ok news.toArray w):
  (Z5 #[t,t2] ty #[.slice E 0 0,x]).run P w=.ok (.slice E 0 0) w:=by
 have ht':P.underlying t=J (.slice e):=by
  unfold Vbe at ht;split at ht
  ·rename_i hh;simp at ht;subst ht;exact hh
  ·simp at ht
 rcases Vj4 h2 with⟨_,hd1⟩|hd1 <;>simp[Z5,Va0 ht',Vae hi,Va0 hd1,hl,hf]
def Vch(ht:Vbe P t=J e)(h2:Ve1 P t2=V)(hi:Van P e=J (sz,bt,J z))(hz:z.cells.size=sz)(hbt:0<bt){w:H}{a:R Jc}{n cap m:F}{x:B}{olds news:C B}
  (hl:(Xi x).run P w=.ok m w) (ho:∀ w',w'.heap=w.heap->(Zx sz n (.slice a n cap)).run P w'=.ok olds.toArray w')
  (hf:∀ w',w'.heap=w.heap->(Zx sz m x).run P w'=.ok news.toArray w') (hlt:cap<n+m) (hb:(n+m)*bt<=140737488355328):
  ∃newCap rest,n+m<=newCap/\rest.length=(newCap-(n+m))*sz/\
   (Z5 #[t,t2] ty #[.slice a n cap,x]).run P w=.ok (.slice (J ⟨w.heap.size,0,E⟩) (n+m) newCap) (w.drew.alloc (.cells (olds++news++rest).toArray e)):=by
 have ht':P.underlying t=J (.slice e):=by
  unfold Vbe at ht;split at ht
  ·rename_i hh;simp at ht;subst ht;exact hh
  ·simp at ht
 have hfit:=growslice_fits hlt hb;have hii:=hi;simp only[Van,Za,Zc]at hii;obtain⟨i,i1,i2,i3,i4⟩:=hii;have hnle:¬ n+m<=cap:=kv;have hforced:(Qh (n+m) cap e).forced=false:=rfl;have e1:=ho w.drew rfl;have e2:=hf w.drew rfl;refine⟨(Qh (n+m) cap e).cut (w.tape w.drawn (.appendCap (n+m) cap e)),(Qn z.cells ((Qh (n+m) cap e).cut (w.tape w.drawn (.appendCap (n+m) cap e))-(n+m))).toList,?_,?_,?_⟩
 ·simp only[Question.cut];omega
 ·simp[Qn,hz]
 ·have hbz:¬ (i.bytes=0):=kv;have hfit':¬ Builtin.nextslicecap (n+m) cap*i.bytes>2 ^ 48:=by rw[i3];omega
  rcases Vj4 h2 with⟨_,hd1⟩|hd1 <;>simp[Z5,Va0 ht',Vae hi,Va0 hd1,hl,hnle,Vcg i1,hbz,hfit',hforced,e1,e2,Var hi,newRow] <;>(generalize Qn _ _=zc;congr 2;apply Qj;simp)
end
structure Src (P:D) (w:H) (U:F->F) (sz:F) (x:B) (l:C AV) (es:C B):Prop where
 rep:RepL U w l es
 len:∀ w',w'.heap=w.heap->(Xi x).run P w'=.ok l.length w'
 cells:∀ w',w'.heap=w.heap->(Zx sz l.length x).run P w'=.ok (Va3 es).toArray w'
def Vrs{w w':H}(h:w'.heap=w.heap)(a:Jc):w'.cell? a=w.cell? a:=by simp only[Ye,h]
def Vd8{P:D}{w:H}{U:F->F}{a:R Jc}{es:C B}{sz n cap len:F}(h:Lies U w a (Va3 es))(hs:∀ e∈es,e.cells.size=sz)(hn:es.length=n)(h0:a=E->es=[])(w':H)(hw:w'.heap=w.heap):
  (Zx sz n (.slice a len cap)).run P w'=.ok (Va3 es).toArray w':=by
 have hl:=Vaf es hs;cases a with
 |none=>rw[h0 rfl];simp[Zx,Va3]
 |some ad=>
  refine Q5 w' sz n ad len cap (Va3 es) (by rw[hl,hn]) (λj v hj=>?_);rcases h with h|⟨b',off',h1,h2,h3⟩
  ·rw[h]at hj;simp at hj
  ·simp at h1;subst h1;rw[Vbd,Vrs hw];exact(h3 j v hj).1
def src_sl{P:D}{G:Gh}{w:H}{sz:F}{x:B}{l:C AV}(h:Rep G.U w (.sl l) x)(hu:Uni sz l):∃ es,Src P w G.U sz x l es:=by
 simp only[Rep]at h;obtain⟨a,cap,es,sz',rfl,h2,h3,h4,h5,h6,h7⟩:=h;refine⟨es,h2,λw' _=>by simp[Xi],λw' hw=>Vd8 h7 (hu.sizes h2) h2.length h4 w' hw⟩
def Vab(s:Ze):C AV:=s.data.toList.map (λb=>.val (.int .u8 b.toNat))
def Vo6{U:F->F}{w:H}:∀(l:C UInt8),RepL U w (l.map (λb=>AV.val (.int .u8 b.toNat))) (l.map (λb=>Jl .u8 b.toNat))
 |[]=>by simp[RepL]
 |b::l=>by
  simp only[Z9,RepL];exact⟨_,_,rfl,by simp[Rep,Zi],Vo6 l⟩
def Vdc:∀(l:C B),(∀v∈l,v.cells=#[v])->Va3 l=l
 |[],_=>rfl
 |v::l,h=>by
  have:=Vdc l (λx hx=>h x (by simp[hx]));simp only[Va3,Zm,h v ku]at this ⊢;simpa using this
def src_str{P:D}{G:Gh}{w:H}(s:Ze):∃ es,Src P w G.U 1 (.string s) (Vab s) es:=by
 refine⟨s.data.toList.map (λb=>Jl .u8 b.toNat),Vo6 _,λw' _=>?_,λw' _=>?_⟩
 ·simp[Xi,Vab]
 ·rw[Vdc _ (λv hv=>by simp at hv;obtain⟨b,_,rfl⟩:=hv;rfl)];have:(Vab s).length=s.size:=by simp[Vab]
  rw[this];simp only[Zx,ByteArray.extract_zero_size];simp;apply Qj;simp
def Gh.next(G:Gh)(k:Key)(b:F):Gh:={G with ow:=λκ=>if κ=k then J b else G.ow κ,gen:=λκ=>if κ=k then G.gen κ+1 else G.gen κ}
def Vg8(k:Key)(l:C (Key×F)):C (Key×F):=l.filter (λp=> !(k==p.1))
def Vgw{k κ:Key}(h:κ≠k)(l:C (Key×F)):(Vg8 k l).lookup κ=l.lookup κ:=by
 induction l with
 |nil=>rfl
 | cons p l ih=>
  obtain⟨k',g⟩:=p;simp only[Vg8,List.filter_cons]at ih ⊢
  by_cases hk:k=k'
  ·subst hk;simp only[beq_self_eq_true,Bool.not_true,Y1,Ie];have:(κ==k)=false:=by simpa using h
   rw[ih,Xb,this]
  ·have:(k==k')=false:=by simpa using hk
   simp only[this,Bool.not_false,Xo,Xb,ih]
def St.next(S:St)(k:Key):St:={S with gn:=(k,S.gen k+1)::Vg8 k S.gn}
def Vf5{G:Gh}{S:St}(h:∀ k:Key,G.gen k=S.gen k)(k:Key)(b:F):∀ κ:Key,(G.next k b).gen κ=(S.next k).gen κ:=by
 intro κ;simp only[Gh.next,St.next,St.gen,Xb]
 by_cases hk:κ=k
 ·subst hk;simp;exact h κ
 ·have:(κ==k)=false:=by simpa using hk
  simp only[this,Yb hk,Vgw hk];exact h κ
def Rel.nextTok{G G':Gh}{w w':H}{S:St}{a:Qr}{k:Key}(h:Rel G w S a)(he:Ext G w G' w')(hw:Wf G' w')(hk:∀ κ:Key,κ.2=0->Keep G w G' w' κ)(hg:∀ κ:Key,G'.gen κ=(S.next k).gen κ):Rel G' w' (S.next k) a:=
 ⟨hw,h.size,λt s ht=>(h.fr t s ht).persist he (λκ hκ=>(hk κ (s.keys_zero κ hκ)).1),
  λp hp=>(h.bx p hp).persist he (hk _ rfl) (λκ hκ=>by
   simp only[Z6]at hκ;obtain⟨s,_,hs⟩:=hκ
   exact(hk κ (s.keys_zero κ hs)).1),hg,h.defers.trans he.df.symm⟩
def step_tok{G:Gh}{w:H}(hw:Wf G w)(o:Obj){k:Key}(hk0:0<k.2)(n:F):
  Step G w ((G.setU w.heap.size n).next k w.heap.size) (w.drew.alloc o)/\Wf ((G.setU w.heap.size n).next k w.heap.size) (w.drew.alloc o)/\
   ∀κ,κ≠k->Keep G w ((G.setU w.heap.size n).next k w.heap.size) (w.drew.alloc o) κ:=by
 have hwd:Wf G w.drew:=⟨hw.inj,hw.lt,hw.zero⟩
 obtain⟨s1,s2,s3⟩:=Vef hwd o n;have how:∀ κ b,(if κ=k then J w.heap.size else G.ow κ)=J b->(κ=k/\b=w.heap.size)\/(κ≠k/\G.ow κ=J b):=by
  intro κ b h
  split at h
  ·rename_i hk;simp at h;exact .inl ⟨hk,h.symm⟩
  ·rename_i hk;exact .inr ⟨hk,h⟩
 have hkp:∀ κ,κ≠k->Keep G w ((G.setU w.heap.size n).next k w.heap.size) (w.drew.alloc o) κ:=λκ hκ=>⟨by simp only[Gh.next];rw[Yb hκ];rfl,λb hb=>(s3 κ).2 b hb⟩
 refine⟨⟨⟨s1.U,⟨s1.imm.cell,s1.imm.map,s1.imm.typ,s1.imm.frz,s1.imm.pln⟩,s1.size,s1.os,s1.tape,s1.output,s1.cp,λκ=>?_,λκ _ hg=>?_⟩,s1.stay,λκ b h=>?_⟩,⟨λκ κ' b h h'=>?_,λκ b h=>?_,s2.zero⟩,hkp⟩
 ·simp only[Gh.next,Gh.setU];split <;>omega
 ·refine hkp κ (λe=>?_);simp only[Gh.next,Gh.setU,Qo e]at hg;omega
 ·rcases how κ b h with⟨_,rfl⟩|⟨_,h1⟩
  ·exact .inr (Zk _)
  ·exact .inl ⟨κ,h1⟩
 ·rcases how κ b h with⟨h1,h2⟩|⟨h1,h2⟩ <;>rcases how κ' b h' with⟨h3,h4⟩|⟨h3,h4⟩
  ·rw[h1,h3]
  ·have:=hw.lt κ' b h4;omega
  ·have:=hw.lt κ b h2;omega
  ·exact hw.inj κ κ' b h2 h4
 ·rcases how κ b h with⟨_,rfl⟩|⟨_,h1⟩
  ·simp
  ·have:=hw.lt κ b h1;simp;omega
def Vq3{G:Gh}{w:H}(hw:Wf G w){k:Key}(hk0:0<k.2){b:F}{arr:Yj B}{e:Y}(ho:G.ow k=J b)(hh:w.heap[b]? =J (.cells arr e (0,0)))(n:F)(hn:G.U b<=n)(arr':Yj B)(hsame:∀ j,j<G.U b->arr'[j]? =arr[j]?):
  Step G w ((G.setU b n).next k b) (w.setRow b arr')/\Wf ((G.setU b n).next k b) (w.setRow b arr')/\∀ κ,κ≠k->Keep G w ((G.setU b n).next k b) (w.setRow b arr') κ:=by
 have hoth:∀ i,i≠b->(w.setRow b arr').heap[i]? =w.heap[i]? :=λi hi=>Jd w b i arr' hi
 have hblt:=hw.lt k b ho
 have hkp:∀ κ,κ≠k->Keep G w ((G.setU b n).next k b) (w.setRow b arr') κ:=λκ hκ=>⟨by simp only[Gh.next];rw[Yb hκ];rfl,λi hi=>by
  have hne:i≠b:=λhe=>hκ (hw.inj κ k b (he ▸ hi) ho)
  exact⟨hoth i hne,by simp only[Gh.next,Gh.setU];rw[Yb hne]⟩⟩
 have how:∀ κ c,((G.setU b n).next k b).ow κ=J c->G.ow κ=J c:=by
  intro κ c h;simp only[Gh.next,Gh.setU]at h
  split at h
  ·rename_i hk;simp at h;subst h hk;exact ho
  ·exact h
 refine⟨⟨⟨λi=>?_,⟨λi o hi=>?_,λi es cl hi hi2=>?_,λi e2 hi hi2=>?_,λi o n hi hn hh2=>?_,λi e2 hi h5 hi2=>?_⟩,ku,rfl,rfl,rfl,λ_ _=>rfl,λκ=>?_,λκ _ hg=>?_⟩,λi hi hn'=>⟨hoth i (λhe=>hn' k (he ▸ ho)),?_⟩,λκ b h=>.inl ⟨κ,how κ b h⟩⟩,⟨λκ κ' c h h'=>hw.inj κ κ' c (how κ c h) (how κ' c h'),λκ c h=>by simpa using hw.lt κ c (how κ c h),λi hi=>?_⟩,hkp⟩
 ·simp only[Gh.next,Gh.setU];split
  ·rename_i h;rw[h];exact hn
  ·omega
 ·by_cases hib:i=b
  ·subst hib;simp only[Ye,Y5 w i arr arr' e _ hh,hh];simpa using hsame o hi
  ·exact cell_of_heap (hoth i hib) o
 ·have:i≠b:=by intro he;subst he;rw[hh]at hi2;simp at hi2
  rw[hoth i this];exact hi2
 ·obtain⟨arr2,m2,q⟩:=hi2
  by_cases hib:i=b
  ·subst hib;rw[hh]at q;simp only[T,Qz]at q;obtain⟨_,rfl,_⟩:=q;exact⟨arr',(0,0),Y5 w i arr arr' e _ hh⟩
  ·exact⟨arr2,m2,by rw[hoth i hib];exact q⟩
 ·obtain⟨arr2,e2,lo,hi',q,q1,q2⟩:=hh2
  by_cases hib:i=b
  ·subst hib;rw[hh]at q;simp only[T,Qz,Zc]at q;obtain⟨_,_,rfl,rfl⟩:=q;omega
  ·exact⟨arr2,e2,lo,hi',by rw[hoth i hib];exact q,q1,q2⟩
 ·obtain⟨arr2,q⟩:=hi2
  by_cases hib:i=b
  ·subst hib;rw[hh]at q;simp only[T,Qz]at q;obtain⟨_,rfl,_⟩:=q;exact⟨arr',Y5 w i arr arr' e _ hh⟩
  ·exact⟨arr2,by rw[hoth i hib];exact q⟩
 ·simp only[Gh.next,Gh.setU];split <;>omega
 ·refine hkp κ (λe=>?_);simp only[Gh.next,Gh.setU,Qo e]at hg;omega
 ·simp only[Gh.next,Gh.setU];rw[Yb (λ(he:i=b)=>hn' k (he ▸ ho))]
 ·simp at hi;simp only[Gh.next,Gh.setU];rw[Yb kv];exact hw.zero i hi
def step_gen{G:Gh}{w:H}(hw:Wf G w){k:Key}:Step G w {G with gen:=λκ=>if κ=k then G.gen κ+1 else G.gen κ} w/\Wf {G with gen:=λκ=>if κ=k then G.gen κ+1 else G.gen κ} w/\∀ κ,Keep G w {G with gen:=λκ=>if κ=k then G.gen κ+1 else G.gen κ} w κ:=by
 have hkp:∀ κ,Keep G w {G with gen:=λκ=>if κ=k then G.gen κ+1 else G.gen κ} w κ:=λκ=>⟨rfl,λ_ _=>⟨rfl,rfl⟩⟩
 refine⟨⟨⟨λ_=>Zk _,Imm.refl _ _,Zk _,rfl,rfl,rfl,λ_ _=>rfl,λκ=>?_,λκ _ _=>hkp κ⟩,λ_ _ _=>⟨rfl,rfl⟩,λκ b h=>.inl ⟨κ,h⟩⟩,⟨hw.inj,hw.lt,hw.zero⟩,hkp⟩;simp only;split <;>omega
def Vnz{P:D}{t t2 ty e:Y}{sz bt:F}{z:B}(ht:Vbe P t=J e)(h2:Ve1 P t2=V)(hi:Van P e=J (sz,bt,J z))(hz:z.cells.size=sz)(hbt:0<bt)
  {G:Gh} {w:H} {S:St} {a:Qr} {k:Key} {g:F} {l l':C AV} {u x:B} {es':C B} (hr:Rel G w S a) (hown:RepS G w (.own k g sz l) u) (hke:e+1=k.2) (hgen:S.gen k=g) (hx:Src P w G.U sz x l' es') (hu:Uni sz l')
  (hb:(l.length+l'.length)*bt<=140737488355328):
  ∃v w' G',(Z5 #[t,t2] ty #[u,x]).run P w=.ok v w'/\Step G w G' w'/\Rel G' w' (S.next k) a/\RepS G' w' (.own k (g+1) sz (l++l')) v/\∀ i,G'.ow (i,0)=G.ow (i,0):=by
 obtain⟨hk0,hgle,ad,cap,es,rfl,g2,g3,g4,gn,gsp,g5,g6⟩:=hown;have hgg:G.gen k=g:=by rw[hr.gn k];exact hgen
 have g6:=g6 hgg;have hes':=hu.sizes hx.rep;have h1':=hx.rep.cells hu;have hkne:∀ i:F,((i,0):Key)≠k:=by intro i he;rw[<-he]at hk0;simp at hk0
 have hk2:∀ κ:Key,κ.2=0->κ≠k:=by intro κ h0 he;rw[he]at h0;omega
 have hl1:=Vaf es g3;have hl2:=Vaf es' hes';have hll:=g2.length;have hll':=hx.rep.length;have hcellsOld:∀ c∈Va3 es,c.oneCell'=true:=by
  rcases g5 with h|⟨_,_,_,_,h3⟩
  ·rw[h];simp
  ·intro c hc;obtain⟨j,hj⟩:=Y3.1 hc;exact(h3 j c hj).2
 have hsz:∀ e∈es++es',e.cells.size=sz:=by
  intro e he;rcases Zd.1 he with h|h
  ·exact g3 e h
  ·exact hes' e h
 have grow:cap<l.length+l'.length->(ad=E->es=[])->(∀d,ad=J d->d.spot=E)->
   ∃v w' G',(Z5 #[t,t2] ty #[.slice ad l.length cap,x]).run P w=.ok v w'/\Step G w G' w'/\Rel G' w' (S.next k) a/\RepS G' w' (.own k (g+1) sz (l++l')) v/\∀ i,G'.ow (i,0)=G.ow (i,0):=by
  intro hlt hn hsp;obtain⟨nc,rest,q1,q2,q3⟩:=Vch (ty:=ty) ht h2 hi hz hbt (w:=w) (a:=ad) (n:=l.length) (cap:=cap) (m:=l'.length) (x:=x) (olds:=Va3 es) (news:=Va3 es') (hx.len w rfl)
   (λw' hw=>Vd8 g5 g3 hll hn w' hw) (λw' hw=>hx.cells w' hw) hlt hb
  obtain⟨s1,s2,s3⟩:=step_tok hr.wf (.cells (Va3 es++Va3 es'++rest).toArray e) hk0 (Va3 (es++es')).length;refine⟨_,_,_,q3,s1,hr.nextTok s1.toExt s2 (λκ h0=>s3 κ (hk2 κ h0)) (Vf5 (G:=G.setU _ _) hr.gn k _),?_,λi=>by simp only[Gh.next,Gh.setU];rw[Yb (hkne i)]⟩;refine⟨hk0,by simp only[Gh.next,Gh.setU,Xo];omega,J ⟨w.heap.size,0,E⟩,nc,es++es',ku,?_,hsz,by simpa using q1,ku,ku,?_,λ_=>.inr ⟨w.heap.size,0,_,e,rfl,by simp[Gh.next],Vax w.drew _,?_,?_,hke⟩⟩
  ·exact RepL.mono s1.U s1.imm _ _ (g2.append hx.rep)
  ·have:=Vii (w:=w.drew) (cs:=Va3 (es++es')) (rest:=rest) (e:=e) (n:=(Va3 (es++es')).length) G.U (by rw[Vb1];intro c hc;rcases Zd.1 hc with h|h;exact hcellsOld c h;exact h1' c h) rfl;rw[Vb1]at this ⊢;exact this
  ·simp only[Xp,Y4,Zq,hl1,hl2,hll,hll',q2];rw[<-Yx, <-Yx];exact Yc _ kv
  ·simp only[Gh.next,Gh.setU,Xo,Xp];rw[Vaf _ hsz];simp[hll,hll']
 rcases g6 with⟨rfl,gz⟩|⟨b,off,arr,e',rfl,o1,o2,o3,o4,o5⟩
 ·have hl0:l.length=0:=kv;have hl:l=[]:=Zl.1 hl0;have hes0:es=[]:=Zl.1 kv
  by_cases hm:l'.length=0
  ·have hl'0:l'=[]:=Zl.1 hm;have e1:=hx.len w rfl;have e2:=hx.cells w rfl;rw[hm]at e1 e2;obtain⟨s1,s2,s3⟩:=step_gen hr.wf (k:=k);refine⟨.slice ad 0 0,w,_,?_,s1,hr.nextTok s1.toExt s2 (λκ _=>s3 κ) (Vf5 hr.gn k 0),?_,λ_=>rfl⟩
   ·rw[hl0];cases ad with
    |none=>exact Vfx (ty:=ty) ht h2 hi (w:=w) (x:=x) e1 e2
    |some ad=>
     obtain⟨bb,oo,ss⟩:=ad;have hss:ss=none:=gsp _ rfl;subst hss;have hes'0:es'=[]:=Zl.1 kv;rw[hes'0]at e2;have hs0:(storeCells ⟨bb,oo+0*sz,E⟩ (Va3 [])).run P w=.ok () w:=by simp[Va3,storeCells]
     exact Vbo (ty:=ty) ht h2 hi (w:=w) (x:=x) e1 e2 (Zk _) hs0
   ·subst hl hl'0;exact⟨hk0,by simp only[Xo];omega,ad,0,[],rfl,by simp[RepL],ku,ku,ku,gsp,.inl (by simp[Va3]),λ_=>.inl ⟨rfl,gz⟩⟩
  ·exact grow kv (λ_=>hes0) gsp
 ·by_cases hle:l.length+l'.length<=cap
  ·have hmul:(l.length+l'.length)*sz<=cap*sz:=Yc _ hle;rw[Yx]at hmul;have hst:=Xn (P:=P) b (off+l.length*sz) e' (Va3 es') 0 arr w o2 (by rw[hl2,hll'];omega) h1';simp only[Qe]at hst;obtain⟨s1,s2,s3⟩:=Vq3 hr.wf hk0 o1 o2 (off+(l.length+l'.length)*sz) (by rw[o4,Yx];omega) (arr.toList.take (off+l.length*sz)++Va3 es'++arr.toList.drop (off+l.length*sz+(Va3 es').length)).toArray
    (fun j hj=>by
     rw[o4]at hj;have:j<(arr.toList.take (off+l.length*sz)).length:=by simp;omega
     simp only[Xv];rw[Xt,Zo this,Zw,Qo hj]
     simp)
   refine⟨_,_,_,Vbo (ty:=ty) ht h2 hi (hx.len w rfl) (hx.cells w rfl) hle hst,s1,hr.nextTok s1.toExt s2 (λκ h0=>s3 κ (hk2 κ h0)) (Vf5 (G:=G.setU _ _) hr.gn k _),?_,λi=>by simp only[Gh.next,Gh.setU];rw[Yb (hkne i)]⟩;refine⟨hk0,by simp only[Gh.next,Gh.setU,Xo];omega,J ⟨b,off,E⟩,cap,es++es',ku,RepL.mono s1.U s1.imm _ _ (g2.append hx.rep),hsz,by simpa using hle,ku,ku,?_,λ_=>.inr ⟨b,off,_,e',rfl,by simp[Gh.next],Y5 w b arr _ e' _ o2,?_,?_,o5⟩⟩
   ·rw[Vb1]
    by_cases hzz:Va3 es++Va3 es'=[]
    ·exact .inl hzz
    ·refine .inr ⟨b,off,rfl,?_,λj v hj=>⟨?_,?_⟩⟩
     ·simp only[Gh.next,Gh.setU,Xo,Zq,hl1,hl2,hll,hll',Yx];omega
     ·simp only[Ye,Y5 w b arr _ e' _ o2];rcases Z2 j (Va3 es).length with hjl|hjl
      ·rw[Zo hjl]at hj;have hold:w.cell? ⟨b,off+j,E⟩=J v:=by
        rcases g5 with h|⟨b',off',q1,q2,q3⟩
        ·rw[h]at hjl;simp at hjl
        ·simp at q1;obtain⟨rfl,rfl⟩:=q1;exact(q3 j v hj).1
       simp only[Ye,o2]at hold;simp at hold;have hlt:off+j<off+l.length*sz:=by rw[hl1,hll]at hjl;omega
       have:off+j<(arr.toList.take (off+l.length*sz)).length:=by simp;omega
       simp only[Xv];rw[Xt,Zo this,Zw,Qo hlt];simpa using hold
      ·rw[Yp hjl]at hj;have htl:(arr.toList.take (off+l.length*sz)).length=off+l.length*sz:=by simp;omega
       have hjj:j-(Va3 es).length<(Va3 es').length:=by
        rcases Z2 (j-(Va3 es).length) (Va3 es').length with h|h
        ·exact h
        ·simp[Zj h]at hj
       have hq:(Va3 es).length=l.length*sz:=by rw[hl1,hll]
       have hjj2:off+j-(off+l.length*sz)<(Va3 es').length:=kv;simp only[Xv];rw[Xt,Yp (by rw[htl];omega),htl,Zo hjj2];rw[show off+j-(off+l.length*sz)=j-(Va3 es).length by omega];simpa using hj
     ·have:=Z4 hj;rcases Zd.1 this with h|h
      ·exact hcellsOld v h
      ·exact h1' v h
   ·simp only[Y4,Zq,Yw,Xc,Zb,hl2,hll'];omega
   ·simp only[Gh.next,Gh.setU,Xo,Zq]
  ·exact grow kv ku ku
def append_clo{P:D}{t t2 ty e:Y}{sz bt:F}{z:B}(ht:Vbe P t=J e)(h2:Ve1 P t2=V)(hi:Van P e=J (sz,bt,J z))(hz:z.cells.size=sz)(hbt:0<bt)
  {G:Gh} {w:H} {S:St} {a:Qr} {l l':C AV} {u x:B} {es':C B} (hr:Rel G w S a) (hown:RepS G w (.clo l) u) (hx:Src P w G.U sz x l' es') (hu0:Uni sz l) (hu:Uni sz l')
  (hb:(l.length+l'.length)*bt<=140737488355328):
  ∃v w' G',(Z5 #[t,t2] ty #[u,x]).run P w=.ok v w'/\Step G w G' w'/\Rel G' w' S a/\RepS G' w' (.av (.sl (l++l'))) v/\∀ i,G'.ow (i,0)=G.ow (i,0):=by
 obtain⟨⟨b,off,rfl⟩,hrep⟩:=hown;have hrep0:=hrep;simp only[Rep]at hrep;obtain⟨ad,cap,es,sz',e1,g2,g3',g4,gn,gsp,g5⟩:=hrep;injection e1 with q1 q2 q3
 subst q1 q3;have g3:=hu0.sizes g2;have h1:=g2.cells hu0;have hes':=hu.sizes hx.rep;have h1':=hx.rep.cells hu;have hll:=g2.length;have hll':=hx.rep.length
 by_cases hm:l'.length=0
 ·have hl'0:l'=[]:=Zl.1 hm;have hes'0:es'=[]:=Zl.1 kv;have e1:=hx.len w rfl;have e2:=hx.cells w rfl;rw[hm,hes'0]at *
  have hs0:(storeCells ⟨b,off+l.length*sz,E⟩ (Va3 [])).run P w=.ok () w:=by simp[Va3,storeCells]
  refine⟨_,w,G,Vbo (ty:=ty) ht h2 hi (w:=w) (x:=x) e1 e2 kv hs0,Step.refl G w,hr,?_,λ_=>rfl⟩;subst hl'0;rw[I0,Qe];exact hrep0
 ·obtain⟨nc,rest,q1,q2,q3⟩:=Vch (ty:=ty) ht h2 hi hz hbt (w:=w) (a:=J ⟨b,off,E⟩) (n:=l.length) (cap:=l.length) (m:=l'.length) (x:=x) (olds:=Va3 es) (news:=Va3 es') (hx.len w rfl)
   (λw' hw=>Vd8 g5 g3 hll ku w' hw) (λw' hw=>hx.cells w' hw) kv hb
  obtain⟨s1,s2,s3⟩:=Vef hr.wf (.cells (Va3 es++Va3 es'++rest).toArray e) (Va3 (es++es')).length;have s1':Step G w (G.setU w.heap.size (Va3 (es++es')).length) (w.drew.alloc (.cells (Va3 es++Va3 es'++rest).toArray e)):=
   ⟨⟨s1.U,⟨s1.imm.cell,s1.imm.map,s1.imm.typ,s1.imm.frz,s1.imm.pln⟩,s1.size,s1.os,s1.tape,s1.output,s1.cp,s1.gen,λκ h0 hg=>⟨(s1.tok κ h0 hg).1,(s1.tok κ h0 hg).2⟩⟩,s1.stay,s1.rng⟩
  have s2':Wf (G.setU w.heap.size (Va3 (es++es')).length) (w.drew.alloc (.cells (Va3 es++Va3 es'++rest).toArray e)):=⟨s2.inj,s2.lt,s2.zero⟩
  have hsz:∀ e∈es++es',e.cells.size=sz:=by
   intro e he;rcases Zd.1 he with h|h
   ·exact g3 e h
   ·exact hes' e h
  refine⟨_,_,_,q3,s1',hr.keep s1'.toExt s2' (λκ _=>⟨(s3 κ).1,(s3 κ).2⟩) rfl,?_,λ_=>rfl⟩;simp only[RepS,Rep];refine⟨J ⟨w.heap.size,0,E⟩,nc,es++es',sz,ku,RepL.mono s1'.U s1'.imm _ _ (g2.append hx.rep),hsz,ku,by simpa using q1,ku,?_⟩;have:=Vii (w:=w.drew) (cs:=Va3 (es++es')) (rest:=rest) (e:=e) (n:=(Va3 (es++es')).length) G.U (by rw[Vb1];intro c hc;rcases Zd.1 hc with h|h;exact h1 c h;exact h1' c h) rfl;rw[Vb1]at this ⊢;exact this
end
section
def kpos:C Ze->Ze->R F
 |[],_=>E
 |k::ks,s=>if s==k then J 0 else(kpos ks s).map (· +1)
def mget(z:AV)(ks:C Ze)(vs:C AV)(s:Ze):AV:=
 match kpos ks s with
 |some j=>vs.getD j z
 |none=>z
def Vj6(ok:Xe)(z:AV)(ks:C Ze)(vs:C AV)(s:Ze):AV:=
 if ok then .tup [mget z ks vs s,.val (.bool (kpos ks s).isSome)]else mget z ks vs s
def mputK(ks:C Ze)(s:Ze):C ByteArray:=
 match kpos ks s with
 |some _=>ks
 |none=>ks++[s]
def mputV(ks:C Ze)(vs:C AV)(s:Ze)(v:AV):C AV:=
 match kpos ks s with
 |some j=>vs.set j v
 |none=>vs++[v]
def bytes_eq{a b:Ze}:(a==b)=V ↔ a=b:=MapKept.bytes_beq a b
def Vp4{s:Ze}:∀ {ks:C Ze} {j:F},kpos ks s=J j->ks[j]? =J s
 |[],j,h=>by simp[kpos]at h
 |k::ks,j,h=>by
  simp only[kpos]at h
  split at h
  ·rename_i hk;simp at h;subst h;simp[bytes_eq.1 hk]
  ·simp only[Za]at h;obtain⟨i,h1,rfl⟩:=h;simpa using Vp4 h1
def Vhd(s:Ze):∀(es:C Qt)(ks:C Ze)(i:F),es.map (·.key)=ks.map .string->
  Q7 .string (.string s) es i=J ((kpos ks s).bind (λj=>(es[j]?).map (λe=>(i+j,e.val))))
 |[],ks,i,h=>by
  cases ks with
  |nil=>rfl
  |cons k ks=>simp at h
 | e::es,ks,i,h=>by
  cases ks with
  |nil=>simp at h
  | cons k ks=>
   simp only[Z9,Q1]at h;obtain⟨h1,h2⟩:=h;simp only[Q7,h1,Instr.sameNow,kpos];cases hk:s==k with
   |true=>simp
   |false=>
    simp only[Y1,Ie];rw[Vhd s es ks (i+1) h2];cases kpos ks s with
    |none=>rfl
    |some j=>simp[Ym,Nat.add_comm 1 j]
section
variable {P:D}
def Vel(s:Ze):I7 .string (.string s):=by simp[I7]
def Vcp{t k e:Y}(h:tMap P t=J (k,e)):P.underlying t=J (.map k e):=by
 unfold tMap at h;split at h
 ·rename_i hh;simp at h;obtain⟨rfl,rfl⟩:=h;exact hh
 ·simp at h
def Ve7{t:Y}(h:tStr P t=V):P.underlying t=J .string:=by
 unfold tStr at h;split at h
 ·assumption
 ·simp at h
def zAV(z:B):R AV:=
 if z.oneCell'=V then J (Vds z)else match z with
  | .agg cs=>if cs.toList.all (λc=>c.oneCell')=V then J (.agg (cs.toList.map Vds))else E
  |_=>E
def Vps{z:B}{za:AV}(h:zAV z=J za)(U:F->F)(w:H):Rep U w za z:=by
 unfold zAV at h
 split at h
 ·rename_i h1;simp only[T]at h;subst h;exact Vmd z h1
 ·split at h
  ·rename_i cs _
   split at h
   ·rename_i h2;simp only[T]at h;subst h;have h':∀ c∈cs.toList,c.oneCell'=true:=λc hc=>Yo.1 h2 c hc
    simp only[Rep];exact⟨cs,rfl,Vep _ h',h'⟩
   ·simp at h
  ·simp at h
def Vmt{t k e:Y}{sz bt:F}{z:B}(ht:tMap P t=J (k,e))(hk:tStr P k=V)(hz:Van P e=J (sz,bt,J z)){w:H}(s:Ze)(ok:Xe){U:F->F}{za:AV}(h1:∀ U w,Rep U w za z):
  ∃v,(Qf t (.map E) (.string s) ok).run P w=.ok v w/\Rep U w (Vj6 ok za [] [] s) v:=by
 refine⟨if ok then .tuple #[z,.bool A]else z,?_,?_⟩
 ·cases ok <;>simp[Qf,Va0 (Vcp ht),Yr (Ve7 hk) (Vel s),Yt (Ve7 hk) (show Q7 .string (.string s) [] 0=J E from rfl),Var hz]
 ·unfold Vj6 mget;cases ok with
  |false=>exact h1 U w
  |true=>
   simp only[Xo,Rep,kpos];refine⟨_,rfl,?_⟩;simp only[RepL];exact⟨z,[.bool A],rfl,h1 U w,.bool A,[],rfl,by simp only[Rep];exact⟨rfl,rfl⟩,rfl⟩
def Vgu{t k e:Y}{sz bt:F}{z:B}(ht:tMap P t=J (k,e))(hk:tStr P k=V)(hz:Van P e=J (sz,bt,J z)){w:H}{b:F}{ents:Yj Qt}{clock:F}
  (hb:w.heap[b]? =J (.map ents clock)) {ks:C Ze} (hks:ents.toList.map (·.key)=ks.map .string) (s:Ze) (ok:Xe) {U:F->F} {vs:C AV} (hvs:RepL U w vs (ents.toList.map (·.val))) {za:AV} (h1:∀ U w,Rep U w za z):
  ∃v,(Qf t (.map (J b)) (.string s) ok).run P w=.ok v w/\Rep U w (Vj6 ok za ks vs s) v:=by
 have hf:=Vhd s ents.toList ks 0 hks;have hlen:ents.toList.length=ks.length:=by simpa using Xg Y6 hks
 have mk:∀(v:B),Rep U w (mget za ks vs s) v->∀ fnd:Xe,fnd=(kpos ks s).isSome->Rep U w (Vj6 ok za ks vs s) (if ok then .tuple #[v,.bool fnd]else v):=by
  intro v hv fnd hfnd;unfold Vj6;cases ok with
  |false=>exact hv
  |true=>
   simp only[Xo,Rep];refine⟨_,rfl,?_⟩;simp only[RepL];exact⟨v,[.bool fnd],rfl,hv,.bool fnd,[],rfl,by simp only[Rep];rw[hfnd];exact⟨rfl,rfl⟩,rfl⟩
 cases hp:kpos ks s with
 |none=>
  rw[hp]at hf;simp only[Ik]at hf;refine⟨if ok then .tuple #[z,.bool A]else z,?_,mk z ?_ A (by rw[hp];rfl)⟩
  ·cases ok <;>simp[Qf,Va0 (Vcp ht),Yk hb,Yr (Ve7 hk) (Vel s),Yt (Ve7 hk) hf,Var hz]
  ·unfold mget;rw[hp];exact h1 U w
 | some j=>
  have hj:=Vp4 hp;have hjl:j<ks.length:=by
   rcases Z2 j ks.length with h|h
   ·exact h
   ·simp[Zj h]at hj
  have hje:j<ents.toList.length:=kv;rw[hp]at hf;simp only[Y9,Zf hje,Zy]at hf;refine⟨if ok then .tuple #[(ents.toList[j]'hje).val,.bool V]else(ents.toList[j]'hje).val,?_,mk _ ?_ V (by rw[hp];rfl)⟩
  ·cases ok <;>simp[Qf,Va0 (Vcp ht),Yk hb,Yr (Ve7 hk) (Vel s),Yt (Ve7 hk) hf]
  ·have hvl:vs.length=ents.toList.length:=by rw[<-hvs.length];simp
   have hjv:j<vs.length:=kv;unfold mget;rw[hp];simp only[Qi,Zf hjv,Yn];obtain⟨u,e1,e2⟩:=hvs.get j vs[j] (Zf hjv);simp only[Z8,Zf hje,Zy,T]at e1;rw[e1];exact e2
def Vkr{o:L}{S:St}{t k e:Y}{sz bt:F}{z:B}{x i:X}{ok:Xe}{b:F}{ks:C Ze}{vs:C AV}{s:Ze}(ho:o.op=.lookup t x i ok)(hx:S.ev x=.mp b)(hi:S.ev i=.av (.val (.string s)))
  (ht:tMap P t=J (k,e)) (hk:tStr P k=V) (hz:Van P e=J (sz,bt,J z)) {za:AV} (h1:zAV z=J za) (hb:S.bx.lookup b=J (.map ks vs)):Sound P o S ⟨O,.av (Vj6 ok za ks vs s),S⟩:=
 Sound.still λ_ G w a hr=>by
  have h2:=hr.ev x;rw[hx]at h2;obtain⟨blk,h3,h4⟩:=h2;have h5:=hr.ev i;rw[hi]at h5;simp only[RepS,Rep]at h5;obtain⟨blk',ents,clock,g1,g2,g3,g4,g5,g6⟩:=hr.bx _ (Vag hb);simp only at g1;rw[h3]at g1;simp at g1;subst g1;obtain⟨v,e1,e2⟩:=Vgu (P:=P) ht hk hz g2 g4 s ok g5 (Vps h1);exact⟨v,by simp only[execOp,ho,h4,h5.1,Zr,e1];rfl,e2⟩
def Vkp{o:L}{S:St}{t k e:Y}{sz bt:F}{z:B}{x i:X}{ok:Xe}{ks:C Ze}{vs:C AV}{s:Ze}(ho:o.op=.lookup t x i ok)(hx:S.ev x=.av (.rm ks vs))(hi:S.ev i=.av (.val (.string s)))
  (ht:tMap P t=J (k,e)) (hk:tStr P k=V) (hz:Van P e=J (sz,bt,J z)) {za:AV} (h1:zAV z=J za):Sound P o S ⟨O,.av (Vj6 ok za ks vs s),S⟩:=
 Sound.still λ_ G w a hr=>by
  have h2:=hr.ev x;rw[hx]at h2;simp only[RepS,Rep]at h2;obtain⟨b,ents,clock,h3,h4,h6,h7,h8⟩:=h2;have h5:=hr.ev i;rw[hi]at h5;simp only[RepS,Rep]at h5;obtain⟨v,e1,e2⟩:=Vgu (P:=P) ht hk hz h6 h7 s ok h8 (Vps h1);exact⟨v,by simp only[execOp,ho,h3,h5.1,Zr,e1];rfl,e2⟩
def Vkq{o:L}{S:St}{t k e:Y}{sz bt:F}{z:B}{x i:X}{ok:Xe}{s:Ze}(ho:o.op=.lookup t x i ok)(hx:S.ev x=.av (.val (.map E)))(hi:S.ev i=.av (.val (.string s)))
  (ht:tMap P t=J (k,e)) (hk:tStr P k=V) (hz:Van P e=J (sz,bt,J z)) {za:AV} (h1:zAV z=J za):Sound P o S ⟨O,.av (Vj6 ok za [] [] s),S⟩:=
 Sound.still λ_ G w a hr=>by
  have h2:=hr.ev x;rw[hx]at h2;simp only[RepS,Rep]at h2;have h5:=hr.ev i;rw[hi]at h5;simp only[RepS,Rep]at h5;obtain⟨v,e1,e2⟩:=Vmt (P:=P) (w:=w) (U:=G.U) ht hk hz s ok (Vps h1);exact⟨v,by simp only[execOp,ho,h2.1,h5.1,Zr,e1];rfl,e2⟩
def Vey{o:L}{S:St}{t k e:Y}{r:R X}{id:F}(ho:o.op=.makeMap t r)(ht:tMap P t=J (k,e))(hr:∀ x,r=J x->∃ kd n,S.ev x=.av (.val (.int kd n)))(hid:id<1000)(hn:S.names id=A):
  Sound P o S ⟨O,.mp id,S.addBox id (.map [] [])⟩:=by
 intro _ G w a hrel;obtain⟨s1,s2,s3⟩:=Vee hrel.wf (.map #[] 0) id;have hrb:=hrel.bind hn (.map #[] 0);refine⟨.value (.map (J w.heap.size)),.map (J w.heap.size),_,_,?_,.inl rfl,s1,⟨hrb.wf,hrb.size,hrb.fr,λp hp=>?_,hrb.gn,hrb.defers⟩,⟨w.heap.size,by simp[Gh.bind],rfl⟩,λi hi=>?_⟩
 ·cases r with
  |none=>simp[execOp,ho,I9]
  |some x=>
   obtain⟨kd,n,hx⟩:=hr x rfl;have h2:=hrel.ev x;rw[hx]at h2;simp only[RepS,Rep]at h2;simp[execOp,ho,I9,Va0 (Vcp ht),h2.1,asInt,asIntOf]
 ·simp only[St.addBox,Ys]at hp;rcases hp with rfl|hp
  ·exact⟨w.heap.size,#[],0,by simp[Gh.bind],Vax w _,hrel.wf.zero _ (Zk _),ku,by simp[RepL],ku⟩
  ·exact hrb.bx p hp
 ·simp only[Gh.bind];rw[Yb (by intro h;simp only[Zc]at h;omega)]
def Vh3{G:Gh}{w:H}(hw:Wf G w){id:F}{blk:F}{ents:Yj Qt}{clock:F}(ho:G.ow (id,0)=J blk)(hh:w.heap[blk]? =J (.map ents clock))(hU:G.U blk=0)(ob:Obj):
  Step G w G {w with heap:=w.heap.setIfInBounds blk ob}/\Wf G {w with heap:=w.heap.setIfInBounds blk ob}/\∀ κ',κ'≠(id,0)->Keep G w G {w with heap:=w.heap.setIfInBounds blk ob} κ':=by
 have hoth:∀ k,k≠blk->(w.heap.setIfInBounds blk ob)[k]? =w.heap[k]? :=λk hk=>(Qs hh).2 k hk
 have hkp:∀ κ',κ'≠(id,0)->Keep G w G {w with heap:=w.heap.setIfInBounds blk ob} κ':=λκ' hk'=>⟨rfl,λb hb=>⟨hoth b (λhe=>by subst he;exact hk' (hw.inj κ' (id,0) b hb ho)),rfl⟩⟩
 refine⟨⟨⟨λb=>Zk _,Vli (λb hb=>hoth b (λhe=>by subst he;omega)),ku,rfl,rfl,rfl,λ_ _=>rfl,λ_=>Zk _,λκ h0 _=>hkp κ (by intro e;rw[e]at h0;simp at h0)⟩,λb hb hn=>⟨hoth b (λhe=>hn _ (he ▸ ho)),rfl⟩,λκ b h=>.inl ⟨κ,h⟩⟩,⟨hw.inj,λκ b h=>?_,λb hb=>?_⟩,hkp⟩
 ·simpa using hw.lt κ b h
 ·exact hw.zero b (by simpa using hb)
def Viu{t k e:Y}(ht:tMap P t=J (k,e))(hk:tStr P k=V){w:H}{b:F}{ents:Yj Qt}{clock:F}
  (hb:w.heap[b]? =J (.map ents clock)) {ks:C Ze} (hks:ents.toList.map (·.key)=ks.map .string) (s:Ze) (v:B) (hborn:∀ e∈ents.toList,e.born<clock):
  ∃(ents':Yj Qt)(clock':F),(Q4 t (.map (J b)) (.string s) v).run P w=.ok () {w with heap:=w.heap.setIfInBounds b (.map ents' clock')}/\ents'.toList.map (·.key)=(mputK ks s).map .string/\
   (∀e∈ents'.toList,e.born<clock')/\ents'.toList.map (·.val)=(match kpos ks s with|some j=>(ents.toList.map (·.val)).set j v|none=>ents.toList.map (·.val)++[v]):=by
 have hf:=Vhd s ents.toList ks 0 hks;have hlen:ents.toList.length=ks.length:=by simpa using Xg Y6 hks
 cases hp:kpos ks s with
 | none=>
  rw[hp]at hf;simp only[Ik]at hf;refine⟨ents.push {key:=.string s,val:=v,born:=clock},clock+1,?_,?_,?_,?_⟩
  ·simp[Q4,Va0 (Vcp ht),Yk hb,Yr (Ve7 hk) (Vel s),Yt (Ve7 hk) hf,Xq _ hb]
  ·simp only[mputK,hp,Ij,List.map_append,hks];simp
  ·intro e he;simp only[Ij,Zd,List.mem_singleton]at he;rcases he with he|rfl
   ·have:=hborn e he;omega
   ·simp
  ·simp
 | some j=>
  have hj:=Vp4 hp;have hjl:j<ks.length:=by
   rcases Z2 j ks.length with h|h
   ·exact h
   ·simp[Zj h]at hj
  have hje:j<ents.toList.length:=kv;have hje':j<ents.size:=by simpa using hje
  rw[hp]at hf;simp only[Y9,Zf hje,Zy]at hf;have hkey:(ents.toList[j]'hje).key=.string s:=by
   have:=Xg (λl=>l[j]?) hks;simp only[Z8,Zf hje,hj,Zy,T]at this;exact this
  have hkey':ents[j].key=.string s:=by simpa using hkey
  have hmod:∀ f:Qt->Qt,(ents.modify j f).toList=ents.toList.modify j f:=λf=>by simp
  refine⟨ents.modify j (λe=>{e with key:=.string s,val:=v}),clock,?_,?_,?_,?_⟩
  ·simp[Q4,Va0 (Vcp ht),Yk hb,Yr (Ve7 hk) (Vel s),Yt (Ve7 hk) hf,hje',hkey',MapKept.run_keyThatStays (Vel s),Xq _ hb]
  ·simp only[mputK,hp,hmod, <-hks];apply Qm;intro i;simp only[Z8,Xy];cases he:ents.toList[i]? with
   |none=>simp
   |some e=>
    simp only[Zy,Ig]
    split
    ·rename_i hij;subst hij;rw[Zf hje]at he;simp only[T]at he;subst he;simp only[Zy];rw[hkey]
    ·simp
  ·intro e he;simp only[hmod]at he;obtain⟨i,hi⟩:=Y3.1 he;simp only[Xy]at hi;cases hx:ents.toList[i]? with
   |none=>rw[hx]at hi;simp at hi
   |some e0=>
    rw[hx]at hi;have h0:=hborn e0 (Z4 hx);simp only[Ig,Zy]at hi
    split at hi
    ·simp only[T]at hi;rw[<-hi];exact h0
    ·simp only[id_eq,T]at hi;rw[<-hi];exact h0
  ·simp only[hmod];apply Qm;intro i;simp only[Z8,Xy,Ih,Q0]
   by_cases hij:j=i
   ·subst hij;simp[hje']
   ·rw[Yb hij];cases he:ents.toList[i]? with
    |none=>simp
    |some e=>simp[hij]
def Vko{o:L}{S:St}{t k e:Y}{x i y:X}{b:F}{ks:C Ze}{vs:C AV}{s:Ze}{v:AV}(ho:o.op=.mapUpdate t x i y)(hx:S.ev x=.mp b)(hi:S.ev i=.av (.val (.string s)))(hy:(S.ev y).toAV=J v)
  (ht:tMap P t=J (k,e)) (hk:tStr P k=V) (hb:S.bx.lookup b=J (.map ks vs)):Sound P o S ⟨O,Vav,S.setBox b (.map (mputK ks s) (mputV ks vs s v))⟩:=by
 intro _ G w a hr;have h2:=hr.ev x;rw[hx]at h2;obtain⟨blk,h3,h4⟩:=h2;have h5:=hr.ev i;rw[hi]at h5;simp only[RepS,Rep]at h5;have h6:=(hr.ev y).toAV hy;obtain⟨blk',ents,clock,g1,g2,g3,g4,g5,g6⟩:=hr.bx _ (Vag hb);simp only at g1;rw[h3]at g1;simp at g1;subst g1;obtain⟨ents',clock',e1,e2,e3,e4⟩:=Viu (P:=P) ht hk g2 g4 s (a.eval y) g6;obtain⟨s1,s2,s3⟩:=Vh3 hr.wf h3 g2 g3 (.map ents' clock');have hper:∀ s u,RepS G w s u->RepS G {w with heap:=w.heap.setIfInBounds blk (.map ents' clock')} s u:=λs u hs=>hs.persist s1.toExt (λ_ _=>rfl)
 refine⟨.skip,Z7,_,G,?_,.inr ⟨rfl,rfl⟩,s1,⟨s2,hr.size,λt s ht=>hper _ _ (hr.fr t s ht),λp hp=>?_,hr.gn,hr.defers⟩,?_,λ_ _=>rfl⟩
 ·simp only[execOp,ho,h4,h5.1,Zr,e1];rfl
 ·simp only[St.setBox,Zv]at hp;obtain⟨q,hq,rfl⟩:=hp
  split
  ·rename_i hqb;refine⟨blk,ents',clock',by rw[hqb];exact h3,(Qs g2).1,g3,e2,?_,e3⟩;rw[e4];unfold mputV;have g5':=RepL.mono s1.U s1.imm _ _ g5;have h6':=Rep.mono s1.U s1.imm _ _ h6;cases kpos ks s with
   |none=>exact g5'.append (by simp only[RepL];exact⟨_,[],rfl,h6',rfl⟩)
   |some j=>exact g5'.set j h6'
  ·rename_i hqb;exact(hr.bx q hq).persist s1.toExt (s3 (q.1,0) (by simpa using hqb)) (λ_ _=>rfl)
 ·simp only[Vav,RepS,Rep];exact⟨#[],rfl,by simp[RepL]⟩
def sound_clear{o:L}{S:St}{t k e:Y}{x:X}{b:F}{ks:C Ze}{vs:C AV}(ho:o.op=.call {callee:=.builtin .clear,args:=#[x],argTypes:=#[t]})(hx:S.ev x=.mp b)(ht:tMap P t=J (k,e))(hb:S.bx.lookup b=J (.map ks vs)):
  Sound P o S ⟨O,Vav,S.setBox b (.map [] [])⟩:=by
 intro _ G w a hr;have h2:=hr.ev x;rw[hx]at h2;obtain⟨blk,h3,h4⟩:=h2;obtain⟨blk',ents,clock,g1,g2,g3,g4,g5,g6⟩:=hr.bx _ (Vag hb);simp only at g1;rw[h3]at g1;simp at g1;subst g1;obtain⟨s1,s2,s3⟩:=Vh3 hr.wf h3 g2 g3 (.map #[] clock);have hper:∀ s u,RepS G w s u->RepS G {w with heap:=w.heap.setIfInBounds blk (.map #[] clock)} s u:=λs u hs=>hs.persist s1.toExt (λ_ _=>rfl)
 obtain⟨c,hc⟩:=Vb2 (P:=P) (a:=a) ho w;refine⟨.value Z7,Z7,_,G,?_,.inl rfl,s1,⟨s2,hr.size,λt s ht=>hper _ _ (hr.fr t s ht),λp hp=>?_,hr.gn,hr.defers⟩,?_,λ_ _=>rfl⟩
 ·rw[hc];simp[builtin,Builtin.clear_,Va0 (Vcp ht),h4,Yk g2,Xq _ g2,Z7,Result.andThen]
 ·simp only[St.setBox,Zv]at hp;obtain⟨q,hq,rfl⟩:=hp
  split
  ·rename_i hqb;exact⟨blk,#[],clock,by rw[hqb];exact h3,(Qs g2).1,g3,ku,by simp[RepL],ku⟩
  ·rename_i hqb;exact(hr.bx q hq).persist s1.toExt (s3 (q.1,0) (by simpa using hqb)) (λ_ _=>rfl)
 ·simp only[Vav,RepS,Rep];exact⟨#[],rfl,by simp[RepL]⟩
def cell1:B->Xe
 | .int _ _=>V
 | .bool _=>V
 | .string _=>V
 | .slice E 0 0=>V
 |_=>A
def cell1_ok{z:B}(h:cell1 z=V):z.cells=#[z]/\z.oneCell'=true:=by
 unfold cell1 at h
 split at h
 ·exact⟨rfl,rfl⟩
 ·exact⟨rfl,rfl⟩
 ·exact⟨rfl,rfl⟩
 ·exact⟨rfl,rfl⟩
 ·simp at h
def Vmf{U:F->F}{w:H}{z:B}(h:z.oneCell'=V):∀ n,RepL U w (Zp n (Vds z)) (Zp n z)
 |0=>by simp[RepL]
 |n+1=>by rw[Qc,Qc];simp only[RepL];exact⟨_,_,rfl,Vmd z h,Vmf h n⟩
def Vq5{o:L}{S:St}{t e:Y}{bt:F}{z:B}{x y:X}{k k':Yi}{i:Qb}(ho:o.op=.makeSlice t x y)(hx:S.ev x=.av (.val (.int k i)))(hy:S.ev y=.av (.val (.int k' i)))
  (ht:Vbe P t=J e) (hi:Van P e=J (1,bt,J z)) (hz:cell1 z=V):Sound P o S ⟨0<=i/\(bt:Qb)*i<=281474976710656/\i<=9223372036854775807,.av (.sl (Zp i.toNat (Vds z))),S⟩:=by
 rintro⟨q1,q2,q3⟩ G w a hr;obtain⟨z1,z2⟩:=cell1_ok hz;have h1:=hr.ev x;rw[hx]at h1;simp only[RepS,Rep]at h1;have h2:=hr.ev y;rw[hy]at h2;simp only[RepS,Rep]at h2;have ht':P.underlying t=J (.slice e):=by
  unfold Vbe at ht;split at ht
  ·rename_i hh;simp at ht;subst ht;exact hh
  ·simp at ht
 obtain⟨ti,e1,e2,e3,e4⟩:∃ ti,P.info? e=J ti/\ti.size=1/\ti.bytes=bt/\ti.zero=J z:=by
  unfold Van at hi;cases hI:P.info? e with
  |none=>rw[hI]at hi;simp at hi
  |some ti=>rw[hI]at hi;simp at hi;exact⟨ti,rfl,hi.1,hi.2.1,hi.2.2⟩
 subst e3;have hrun:=run_make (P:=P) w t e ti z ht' e1 e4 k k' i i q1 (Int.le_refl _) q2 q3;have hm:(madeCells z.cells (i.toNat*ti.size))=(Va3 (Zp i.toNat z)).toArray:=by
  have hv:∀ n,Va3 (Zp n z)=Zp n z:=by
   intro n
   induction n with
   |zero=>rfl
   |succ n ih=>rw[Qc,Va3,Zm, <-Va3,ih,z1];rfl
  rw[hv,e2,z1,Nat.mul_one];apply Qj;apply List.ext_getElem
  ·simp[madeCells]
  ·intro j h1 h2;simp[madeCells,Nat.mod_one]
 rw[hm]at hrun;obtain⟨s1,s2,s3⟩:=Vef hr.wf (.cells (Va3 (Zp i.toNat z)).toArray e) (Va3 (Zp i.toNat z)).length;refine⟨_,.slice (J ⟨w.heap.size,0,E⟩) i.toNat i.toNat,w.alloc (.cells (Va3 (Zp i.toNat z)).toArray e),G.setU w.heap.size (Va3 (Zp i.toNat z)).length,?_,.inl rfl,s1,hr.keep s1.toExt s2 (λκ _=>s3 κ) rfl,?_,λ_ _=>rfl⟩
 ·simp only[execOp,ho,h1.1,h2.1,hrun];simp[hrun]
 ·simp only[RepS,Rep];refine⟨_,i.toNat,Zp i.toNat z,1,by rw[List.length_replicate],Vmf z2 _,?_,ku,ku,ku,?_⟩
  ·intro c hc;rw[Qp hc,z1];rfl
  ·have:=Vii (w:=w) (e:=e) (cs:=Va3 (Zp i.toNat z)) (rest:=[]) G.U (by
    intro c hc;simp only[Va3,Z6]at hc;obtain⟨q,hq,hc⟩:=hc;rw[Qp hq,z1]at hc
    simp at hc;subst hc;exact z2) rfl
   rw[I0]at this;exact this
end
end
section
def AV.isByte:AV->Xe
 | .val (.int .u8 _)=>V
 |_=>A
def AV.byte:AV->UInt8
 | .val (.int .u8 n)=>UInt8.ofNat n.toNat
 |_=>0
def Vm2(l:C AV):ByteArray:=⟨(l.map AV.byte).toArray⟩
def Vid(P:D)(src dst:Y)(v:SV)(S:St):R Res:=
 match P.underlying src,P.underlying dst with
 |some (.int _),J (.int k)=>match v with
  | .av (.val (.int _ n))=>J ⟨O,.av (.val (.int k (k.wrap n))),S⟩
  |_=>E
 |some (.int _),J .string=>match v with
  | .av (.val (.int _ n))=>J ⟨O,.av (.val (.string (Utf8.encode n))),S⟩
  |_=>E
 |some (.slice e),J .string=>match P.underlying e,v.toAV with
  |some (.int .u8),J (.sl l)=>J ⟨l.all AV.isByte=V,.av (.val (.string (Vm2 l))),S⟩
  |_,_=>E
 |_,_=>E
def Vis{P:D}{o:L}{S:St}{src dst:Y}{x:X}{k k0 k':Yi}{n:Qb}(ho:o.op=.convert src dst x)(h1:P.underlying src=J (.int k0))(h2:P.underlying dst=J (.int k))(hx:S.ev x=.av (.val (.int k' n))):Sound P o S ⟨O,.av (.val (.int k (k.wrap n))),S⟩:=
 Sound.still λ_ G w a hr=>by
  have h3:=hr.ev x;rw[hx]at h3;simp only[RepS,Rep]at h3;refine⟨.int k (k.wrap n),?_,⟨rfl,rfl⟩⟩;simp[execOp,ho,h3.1,convert,Va0 h1,Va0 h2,Conv.intToInt]
def Vhq{P:D}{o:L}{S:St}{src dst:Y}{x:X}{k0 k':Yi}{n:Qb}(ho:o.op=.convert src dst x)(h1:P.underlying src=J (.int k0))(h2:P.underlying dst=J .string)(hx:S.ev x=.av (.val (.int k' n))):Sound P o S ⟨O,.av (.val (.string (Utf8.encode n))),S⟩:=
 Sound.still λ_ G w a hr=>by
  have h3:=hr.ev x;rw[hx]at h3;simp only[RepS,Rep]at h3;refine⟨.string (Utf8.encode n),?_,⟨rfl,rfl⟩⟩;simp[execOp,ho,h3.1,convert,Va0 h1,Va0 h2,Conv.intToString]
def Vns{P:D}:∀(l:C AV)(es:C B){U:F->F}{w:H},RepL U w l es->l.all AV.isByte=V->∀(w':H)(s:Ze),
  (forIn es s (λc s => (match c with | .int .u8 n => pure (ForInStep.yield (s.push (UInt8.ofNat n.toNat))) | _ => stuck "bytesToString: byte expected") : Value -> ByteArray -> Sem (ForInStep ByteArray))).run P w' = .ok ⟨s.data ++ (l.map AV.byte).toArray⟩ w'
 |[],es,U,w,h,_,w',s=>by simp only[RepL]at h;subst h;simp
 | x::l,es,U,w,h,hb,w',s=>by
  simp only[RepL]at h;obtain⟨u,es',rfl,h1,h2⟩:=h;simp only[List.all_cons,Iq]at hb;obtain⟨hb1,hb2⟩:=hb;have:∃ n,x=.val (.int .u8 n):=by
   unfold AV.isByte at hb1;split at hb1
   ·exact⟨_,rfl⟩
   ·simp at hb1
  obtain⟨n,rfl⟩:=this;simp only[Rep]at h1;obtain⟨rfl,_⟩:=h1;simp only[List.forIn_cons,Zr,Yz,Zt];rw[Vns l es' h2 hb2];congr 2;apply Qj;simp[AV.byte,ByteArray.push]
def Vh5{P:D}{o:L}{S:St}{src dst e:Y}{x:X}{l:C AV}(ho:o.op=.convert src dst x)(h1:P.underlying src=J (.slice e))(h2:P.underlying dst=J .string)(h3:P.underlying e=J (.int .u8))(hx:(S.ev x).toAV=J (.sl l)):Sound P o S ⟨l.all AV.isByte=V,.av (.val (.string (Vm2 l))),S⟩:=
 Sound.still λhb G w a hr=>by
  have h4:=(hr.ev x).toAV hx;simp only[Rep]at h4;obtain⟨ad,cap,es,sz,h5,h6,h7,h8,h9,h10,h11⟩:=h4;have hone:∀ v∈es,v.cells=#[v]:=by
   intro v hv;obtain⟨y,hy,hr'⟩:=h6.mem v hv;have hy':=Yo.1 hb y hy;unfold AV.isByte at hy';split at hy'
   ·simp only[Rep]at hr';rw[hr'.1];rfl
   ·simp at hy'
  rw[Vdc es hone]at h11;refine⟨.string (Vm2 l),?_,⟨rfl,rfl⟩⟩;cases ad with
  |none=>
   have he:=h8 rfl;subst he;have hl:l=[]:=by exact Zl.1 (by have:=h6.length;simpa using this.symm)
   subst hl;simp[execOp,ho,h5,convert,Va0 h1,Va0 h2,Va0 h3,Conv.bytesToString,Vm2];rfl
  | some ad=>
   have hcl:(loadCells ad l.length).run P w=.ok es.toArray w:=by
    have hlen:=h6.length;rw[<-hlen];refine Q8 w ad es (λj v hj=>?_);rcases h11 with h|⟨b,off,q1,q2,q3⟩
    ·rw[h]at hj;simp at hj
    ·simp at q1;subst q1;rw[Vbd];exact(q3 j v hj).1
   have hlp:=Vns (P:=P) l es h6 hb w ByteArray.empty;simp only[execOp,ho,h5,convert,Zr,Va0 h1,Va0 h2,Va0 h3,Zt,Conv.bytesToString,hcl];simp only[<-Ib]
   erw [hlp]
   simp[Vm2]
def Vnm:AV->AV->Xe
 | .val (.string a),.val (.string b)=>eqs a b
 | .val (.bool a),.val (.bool b)=>a==b
 | .val (.int _ a),.val (.int _ b)=>a==b
 |_,_=>A
def Vfb:C AV->C AV->Xe
 |x::l,y::l'=>Vnm x y&&Vfb l l'
 |_,_=>V
def cellOk:R TypeDesc->AV->AV->Xe
 |some .string,.val (.string _),.val (.string _)=>V
 |some .bool,.val (.bool _),.val (.bool _)=>V
 |some (.int _),.val (.int k _),.val (.int k' _)=>decide (k=k')
 |_,_,_=>A
def Ve3(P:D):C Jk->F->C AV->C AV->Xe
 |[],_,[],[]=>V
 | f :: fs, i, x :: l, y :: l' => f.name != "_" && f.offset == i && cellOk (P.underlying f.type) x y && Ve3 P fs (i + 1) l l'
 |_,_,_,_=>A
def bytes_beq(a b:Ze):(a==b)=(a.toList==b.toList):=by
 show(a.data==b.data)=_;rw[Q3,Q3,Bool.eq_iff_iff,I2,I2];exact⟨λh=>by rw[h],λh=>Qj h⟩
def cell_equal{P:D}{d:F}{t:Y}{x y:AV}{u v:B}{U:F->F}{w:H}(h:cellOk (P.underlying t) x y=V)(hx:Rep U w x u)(hy:Rep U w y v):(Xk (d+1) t u v).run P w=.ok (Vnm x y) w/\tAgg P t=J false:=by
 unfold cellOk at h
 split at h
 ·rename_i hu;simp only[Rep]at hx hy;rw[hx.1,hy.1];exact⟨by simp only[Xk,Zr,Va0 hu,Zt,Vnm, <-Vnl, <-bytes_beq,Yz],by simp[tAgg,hu]⟩
 ·rename_i hu;simp only[Rep]at hx hy;rw[hx.1,hy.1];exact⟨by simp[Xk,Va0 hu,Vnm],by simp[tAgg,hu]⟩
 ·rename_i hu;simp only[Rep]at hx hy;simp only[Ql]at h;rw[hx.1,hy.1];exact⟨by simp[Xk,Va0 hu,Vnm,h],by simp[tAgg,hu]⟩
 ·simp at h
def eq_loop{P:D}{d:F}{U:F->F}{w:H}{xs ys:Yj B}:∀(fs:C Jk)(i:F)(l l':C AV),Ve3 P fs i l l'=V->RepL U w l (xs.toList.drop i)->RepL U w l' (ys.toList.drop i)->
  (do
   for f in fs do
    if f.name ≠ "_" then
     if !(<-Xk (d+1) f.type (<-part f.type xs f.offset) (<-part f.type ys f.offset))then return A
   pure V:Sem Xe).run P w=.ok (Vfb l l') w
 |[],i,l,l',h,_,_=>by
  unfold Ve3 at h;split at h
  ·simp[Vfb]
  ·simp_all
  ·simp at h
 | f::fs,i,l,l',h,hx,hy=>by
  cases l with
  |nil=>simp[Ve3]at h
  |cons x l=>
  cases l' with
  |nil=>simp[Ve3]at h
  | cons y l'=>
   simp only[Ve3]at h;simp only[Iq,bne_iff_ne,ne_eq,I2]at h;obtain⟨⟨⟨h1,h2⟩,h3⟩,h4⟩:=h;simp only[RepL]at hx hy;obtain⟨u,us,hxe,hx1,hx2⟩:=hx;obtain⟨v,vs,hye,hy1,hy2⟩:=hy;have gx:xs[i]? =J u:=by
    have:xs.toList[i]? =J u:=by rw[<-Iz,hxe];rfl
    simpa using this
   have gy:ys[i]? =J v:=by
    have:ys.toList[i]? =J v:=by rw[<-Iz,hye];rfl
    simpa using this
   have dx:us=xs.toList.drop (i+1):=by rw[<-I4,hxe];rfl
   have dy:vs=ys.toList.drop (i+1):=by rw[<-I4,hye];rfl
   subst dx dy;obtain⟨c1,c2⟩:=cell_equal (d:=d) h3 hx1 hy1;have ih:=eq_loop (d:=d) fs (i+1) l l' h4 hx2 hy2;have px:(part f.type xs i).run P w=.ok u w:=by simp[part,Vde c2,gx]
   have py:(part f.type ys i).run P w=.ok v w:=by simp[part,Vde c2,gy]
   simp only[Vfb];cases hc:Vnm x y
   ·simp[h1,h2,px,py,c1,hc]
   ·simp[h1,h2,px,py,c1,hc];simpa using ih
def aBinA(P:D)(op:I6)(t:Y)(l l':C AV)(S:St):R Res:=
 match P.underlying t with
 | some (.struct fs)=>if Ve3 P fs.toList 0 l l'=V/\P.stoodInHeld t=A/\P.eqGuardType P.depth t=A then match op with
   | .eql=>J ⟨O,.av (.val (.bool (Vfb l l'))),S⟩
   | .neq=>J ⟨O,.av (.val (.bool (!Vfb l l'))),S⟩
   |_=>E
  else E
 |_=>E
def Vs1{P:D}{t:Y}{fs:Yj Jk}{l l':C AV}{u v:B}{U:F->F}{w:H}(hu:P.underlying t=J (.struct fs))(h1:Ve3 P fs.toList 0 l l'=V)(h2:P.stoodInHeld t=A)(hx:Rep U w (.agg l) u)(hy:Rep U w (.agg l') v):
  (I3 t u v).run P w=.ok (Vfb l l') w/\∃ xs ys,u=.agg xs/\v=.agg ys:=by
 simp only[Rep]at hx hy;obtain⟨xs,rfl,hx1,_⟩:=hx;obtain⟨ys,rfl,hy1,_⟩:=hy;refine⟨?_,xs,ys,rfl,rfl⟩;have:=eq_loop (d:=9998) (xs:=xs) (ys:=ys) fs.toList 0 l l' h1 (by simpa using hx1) (by simpa using hy1);simp only[I3,Iu];rw[show(10000:F)=9998+1+1 from rfl,Xk];simp only[Zr,Va0 hu,Zt];simp only[<-Ib];simp only[Zr]at this ⊢;simpa[h2]using this
def sound_binA{P:D}{o:L}{S:St}{op:I6}{t t':Y}{x y:X}{l l':C AV}{r:Res}(ho:o.op=.binOp op t x y t')(hx:S.ev x=.av (.agg l))(hy:S.ev y=.av (.agg l'))(h:aBinA P op t l l' S=J r):Sound P o S r:=by
 unfold aBinA at h
 split at h
 ·rename_i fs hu
  split at h
  ·rename_i hc;obtain⟨h1,h2,h3⟩:=hc
   split at h
   ·simp only[T]at h;subst h;refine Sound.still λ_ G w ac hr=>?_
    have q1:=hr.ev x;rw[hx]at q1;simp only[RepS]at q1;have q2:=hr.ev y;rw[hy]at q2;simp only[RepS]at q2;obtain⟨e1,xs,ys,e2,e3⟩:=Vs1 hu h1 h2 q1 q2;refine⟨.bool (Vfb l l'),?_,⟨rfl,rfl⟩⟩;rw[e2,e3]at e1;simp[execOp,ho,e2,e3,eqGuard,binOp,e1,h3]
   ·simp only[T]at h;subst h;refine Sound.still λ_ G w ac hr=>?_
    have q1:=hr.ev x;rw[hx]at q1;simp only[RepS]at q1;have q2:=hr.ev y;rw[hy]at q2;simp only[RepS]at q2;obtain⟨e1,xs,ys,e2,e3⟩:=Vs1 hu h1 h2 q1 q2;refine⟨.bool (!Vfb l l'),?_,⟨rfl,rfl⟩⟩;rw[e2,e3]at e1;simp[execOp,ho,e2,e3,eqGuard,binOp,e1,h3]
   ·simp at h
  ·simp at h
 ·simp at h
def Vi2{P:D}{t e:Y}(ht:Vbe P t=J e):P.underlying t=J (.slice e):=by
 unfold Vbe at ht;split at ht
 ·rename_i hh;simp at ht;subst ht;exact hh
 ·simp at ht
def Vq7{P:D}{o:L}{S:St}{x:X}{t:Y}{b n:F}(ho:o.op=.call {callee:=.builtin .len,args:=#[x],argTypes:=#[t]})(hx:S.ev x=.vs b n)(ht:Vgs P t=V):Sound P o S ⟨O,.av (.val (.int .i64 n)),S⟩:=
 Sound.still λ_ G w a hr=>by
  have h1:=hr.ev x;rw[hx]at h1;have⟨ad,cap,g1⟩:∃ ad cap,a.eval x=.slice ad n cap:=by
   rcases h1 with⟨rfl,h,_⟩|⟨blk,_,_,h,_⟩
   ·exact⟨_,_,h⟩
   ·exact⟨_,_,h⟩
  have⟨e,ht'⟩:∃ e,P.underlying t=J (.slice e):=by
   unfold Vgs at ht;split at ht
   ·rename_i e h;exact⟨e,h⟩
   ·simp at ht
  obtain⟨c,hc⟩:=Vb2 (P:=P) (a:=a) ho w;exact⟨_,by rw[hc];simp[builtin,Qy,Va0 ht',g1,goInt],⟨rfl,rfl⟩⟩
def Vdz{P:D}{o:L}{S:St}{t e:Y}{sz bt:F}{z:R B}{x ix:X}{b n:F}{k:Yi}{i:Qb}(ho:o.op=.indexAddr t x ix)(hx:S.ev x=.vs b n)(hix:S.ev ix=.av (.val (.int k i)))
  (ht:Vbe P t=J e) (hi:Van P e=J (sz,bt,z)):Sound P o S ⟨0<=i/\i<n,.vp b sz i 0,S⟩:=
 Sound.still λ⟨hi0,hi1⟩ G w a hr=>by
  have h1:=hr.ev x;rw[hx]at h1;have h2:=hr.ev ix;rw[hix]at h2;simp only[RepS,Rep]at h2;rcases h1 with⟨rfl,_,_⟩|⟨blk,_,g2,g3,g4⟩
  ·omega
  ·refine⟨.pointer (J ⟨blk,i.toNat*sz,E⟩),?_,⟨blk,g2,ku⟩⟩;simp[execOp,ho,h2.1,g3,Qq,asIntOf,Va0 (Vi2 ht),Vae hi,hi0,hi1,Vbd]
def Vho{P:D}{o:L}{S:St}{s f off:F}{ft:Y}{sz bt:F}{z:R B}{x:X}{b sv k:F}{i:Qb}(ho:o.op=.fieldAddr s x f)(hx:S.ev x=.vp b sv i k)
  (h:Vkl P s f=J (off,ft)) (hs:Van P ft=J (sz,bt,z)) (h0:sz≠0):Sound P o S ⟨O,.vp b sv i (k+off),S⟩:=
 Sound.still λ_ G w a hr=>by
  have h1:=hr.ev x;rw[hx]at h1;obtain⟨blk,h2,h3⟩:=h1;refine⟨_,by simp only[execOp,ho,h3,Zr,Vh7 h hs h0];rfl,⟨blk,h2,by rw[Ym]⟩⟩
def getD_some{l:C AV}{k:F}(h:k<l.length):l[k]? =J (l.getD k (.val Z7)):=by simp[Qu,Zf h]
def vec_at{G:Gh}{w:H}{id e sz:F}{l:C AV}(h:RepB G w id (.vec e sz l)){blk:F}(ho:G.ow (id,0)=J blk){i:F}(hi:i<l.length)(ht:(l.getD i (.val Z7)).isTup=A):
  ∃u us,u.cells.toList=us/\Rep G.U w (l.getD i (.val Z7)) u/\RepL G.U w (l.getD i (.val Z7)).cells us/\(∀c∈us,c.oneCell'=V)/\us.length=sz/\∀ j v,us[j]? =J v->w.cell? ⟨blk,i*sz+j,E⟩=J v:=by
 rcases h with⟨rfl,_⟩|⟨blk',arr,es,h0,h1,h2,h3,h4,h5,h6,⟨rest,h7⟩,h8⟩
 ·simp at hi
 ·rw[ho]at h1;simp at h1;subst h1;have hget:l[i]? =J (l.getD i (.val Z7)):=by simp[Qu,Zf hi]
  obtain⟨u,e1,e2⟩:=h5.get _ _ hget;obtain⟨c1,c2⟩:=e2.cells' ht;have hm:u∈es:=Z4 e1;refine⟨u,_,rfl,e2,c1,c2,by simpa using h6 u hm,λj v hj=>?_⟩;have hv:=Vdd es i u h6 e1 j v hj;have:arr.toList[i*sz+j]? =J v:=by
   rw[h7,Zo]
   ·exact hv
   ·rcases Z2 (i*sz+j) (Va3 es).length with q|q
    ·exact q
    ·rw[Zj q]at hv;cases hv
  simpa[Ye,h2]using this
def Voh{P:D}{o:L}{S:St}{t:Y}{x:X}{b sz k:F}{i:Qb}{e:F}{l:C AV}(ho:o.op=.load t x)(hx:S.ev x=.vp b sz i k)(ht:tAgg P t=J A)(hb:S.bx.lookup b=J (.vec e sz l)):
  Sound P o S ⟨0<=i/\i<l.length/\k<(l.getD i.toNat (.val Z7)).cells.length/\(l.getD i.toNat (.val Z7)).isTup=A,.av ((l.getD i.toNat (.val Z7)).cells.getD k (.val Z7)),S⟩:=
 Sound.still λ⟨hi0,hi1,hk,htp⟩ G w a hr=>by
  have h1:=hr.ev x;rw[hx]at h1;obtain⟨blk,h2,h3⟩:=h1;obtain⟨u,us,q0,q1,q2,q3,q4,q5⟩:=vec_at (hr.bx _ (Vag hb)) h2 (i:=i.toNat) kv htp;obtain⟨v,e1,e2⟩:=q2.get _ _ (getD_some hk);exact⟨v,by simp[execOp,ho,h3,Xd,Ya,Vb4 ht (q5 k v e1)],e2⟩
def Vip{P:D}{o:L}{S:St}{t:Y}{n bt:F}{z:R B}{x:X}{b sz k:F}{i:Qb}{e:F}{l:C AV}(ho:o.op=.load t x)(hx:S.ev x=.vp b sz i k)(ht:tAgg P t=J V)(hti:Van P t=J (n,bt,z))(hb:S.bx.lookup b=J (.vec e sz l)):
  Sound P o S ⟨0<=i/\i<l.length/\k+n<=(l.getD i.toNat (.val Z7)).cells.length/\(l.getD i.toNat (.val Z7)).isTup=A,.av (.agg (((l.getD i.toNat (.val Z7)).cells.drop k).take n)),S⟩:=
 Sound.still λ⟨hi0,hi1,hk,htp⟩ G w a hr=>by
  have h1:=hr.ev x;rw[hx]at h1;obtain⟨blk,h2,h3⟩:=h1;obtain⟨u,us,q0,q1,q2,q3,q4,q5⟩:=vec_at (hr.bx _ (Vag hb)) h2 (i:=i.toNat) kv htp;have hl:=q2.length;have hc:∀ j v,((us.drop k).take n)[j]? =J v->w.cell? ⟨blk,(i.toNat*sz+k)+j,E⟩=J v:=by
   intro j v hj;rw[Zw]at hj
   split at hj
   ·simp only[Yh]at hj;have:=q5 _ v hj;rwa[Ym]
   ·simp at hj
  refine⟨.agg ((us.drop k).take n).toArray,by simp[execOp,ho,h3,Xd,Ya,Vbj ht hti (vs:=(us.drop k).take n) (by simp;omega) hc],?_⟩;simp only[RepS,Rep];refine⟨_,rfl,(q2.drop k).take n,λy hy=>q3 y ?_⟩;exact Zh (Zg hy)
def AV.upd(x:AV)(k:F)(v:AV):AV:=match x with
 | .agg l=>.agg (l.take k++v.cells++l.drop (k+v.cells.length))
 |_=>v
def Vil{sz:F}:∀(es:C B)(i:F)(u v:B),(∀e∈es,e.cells.size=sz)->es[i]? =J u->Va3 (es.set i v)=(Va3 es).take (i*sz)++v.cells.toList++(Va3 es).drop (i*sz+sz)
 |[],i,u,v,_,h=>by simp at h
 |e::es,0,u,v,hs,h=>by
  have h1:=hs e ku;simp only[Q9,Va3,Zm,Je,List.take_zero,Iy,Xp];rw[Qv,Y0 (by simp[h1])];simp[h1]
 |e::es,i+1,u,v,hs,h=>by
  have h1:=hs e ku;have ih:=Vil es i u v (λx hx=>hs x (by simp[hx])) (by simpa using h);simp only[Ia,Va3,Zm]at ih ⊢;rw[ih,Il,Qv];simp only[Zb,h1];rw[show(i+1)*sz-sz=i*sz by rw[Z1];omega,show(i+1)*sz+sz-sz=i*sz+sz by rw[Z1];omega,Xr (l:=e.cells.toList) (by simp only[Zb,h1,Z1];omega),Y0 (l:=e.cells.toList) (by simp only[Zb,h1,Z1];omega)];simp
def upd_rep{U:F->F}{w:H}{x v:AV}{u y:B}{k:F}(hx:Rep U w x u)(hy:Rep U w v y)(hvt:v.isTup=A)(h0:0<v.cells.length)(hk:k+v.cells.length<=x.cells.length)(hxt:x.isTup=A):
  ∃u',Rep U w (x.upd k v) u'/\u'.cells.toList=u.cells.toList.take k++y.cells.toList++u.cells.toList.drop (k+y.cells.size)/\(x.upd k v).isTup=false:=by
 obtain⟨c1,c2⟩:=hx.cells' hxt;obtain⟨d1,d2⟩:=hy.cells' hvt;have hl:=c1.length;have hl2:=d1.length;simp only[Zb]at hl hl2;cases x with
 | agg l=>
  have hx':=hx;simp only[Rep]at hx';obtain⟨us,rfl,h2,h3⟩:=hx';refine⟨.agg (us.toList.take k++y.cells.toList++us.toList.drop (k+y.cells.size)).toArray,?_,by simp[Zu],rfl⟩;simp only[AV.upd,Rep];refine⟨_,rfl,?_,?_⟩
  ·simp only[];rw[<-hl2];exact((h2.take k).append d1).append (h2.drop _)
  ·intro z hz;simp only[Zd]at hz;rcases hz with(hz|hz)|hz
   ·exact h3 z (Zg hz)
   ·exact d2 z hz
   ·exact h3 z (Zh hz)
 |tup l=>simp[AV.isTup]at hxt
 |_=>
  have hk':k+v.cells.length<=1:=hk;have hl':u.cells.size=1:=hl;have hk0:k=0:=kv;subst hk0;refine⟨y,hy,?_,hvt⟩;rw[Y0 (by simp only[Zb];omega)];simp
def Vmn{P:D}{o:L}{S:St}{t:Y}{n bt:F}{z:R B}{x y:X}{b sz k:F}{i:Qb}{e:F}{l:C AV}{v:AV}(ho:o.op=.store t x y)(hx:S.ev x=.vp b sz i k)(hti:Van P t=J (n,bt,z))
  (hy:(S.ev y).toAV=J v) (hb:S.bx.lookup b=J (.vec e sz l)):
  Sound P o S ⟨0<=i/\i<l.length/\k+n<=(l.getD i.toNat (.val Z7)).cells.length/\(l.getD i.toNat (.val Z7)).isTup=A/\v.isTup=A/\v.cells.length=n/\0<n,Vav,S.setBox b (.vec e sz (l.set i.toNat ((l.getD i.toNat (.val Z7)).upd k v)))⟩:=by
 rintro⟨hi0,hi1,hk,htp,hvt,hvn,hn0⟩ G w a hr;have h1:=hr.ev x;rw[hx]at h1;obtain⟨blk,h2,h3⟩:=h1;have hv:=(hr.ev y).toAV hy;have hilt:i.toNat<l.length:=kv;rcases hr.bx _ (Vag hb)with⟨rfl,_⟩|⟨blk',arr,es,g0,g1,g2,g3,g4,g5,g6,⟨rest,g7⟩,g8⟩
 ·simp at hilt
 simp only at g1;rw[h2]at g1;simp at g1;subst g1;obtain⟨u,e1,e2⟩:=g5.get _ _ (getD_some hilt);have hm:u∈es:=Z4 e1;have husz:=g6 u hm;obtain⟨c1,c2⟩:=e2.cells' htp;obtain⟨d1,d2⟩:=hv.cells' hvt;have hcl:=c1.length;have hdl:=d1.length;simp only[Zb]at hcl hdl;obtain⟨u',f1,f2,f3⟩:=upd_rep (k:=k) e2 hv hvt kv kv htp;have hu'sz:u'.cells.size=sz:=by
  have:=Xg Y6 f2;simp only[Zb,Zq,Yw,Xc]at this;omega
 have hvl:=Vaf es g6;have hel:=g5.length;have hle:(i.toNat+1)*sz<=es.length*sz:=Yc _ kv;rw[Z1]at hle;have harr:arr.size=(Va3 es).length+rest.length:=by simpa using Xg Y6 g7
 have hst:=Xn (P:=P) blk (i.toNat*sz+k) e (a.eval y).cells.toList 0 arr w g2 (by simp only[Zb];omega) d2;simp only[Qe]at hst;obtain⟨s1,s2,s3⟩:=Vh2 hr.wf h2 g2 g3 (arr.toList.take (i.toNat*sz+k)++(a.eval y).cells.toList++arr.toList.drop (i.toNat*sz+k+(a.eval y).cells.toList.length)).toArray;have hper:∀ s u,RepS G w s u->RepS G (w.setRow blk (arr.toList.take (i.toNat*sz+k)++(a.eval y).cells.toList++arr.toList.drop (i.toNat*sz+k+(a.eval y).cells.toList.length)).toArray) s u:=
  λs u hs=>hs.persist s1.toExt (λ_ _=>rfl)
 have hsplit:Va3 (es.set i.toNat u')++rest=arr.toList.take (i.toNat*sz+k)++(a.eval y).cells.toList++arr.toList.drop (i.toNat*sz+k+(a.eval y).cells.toList.length):=by
  rw[Vil es _ u u' g6 e1,f2,g7];have hu:u.cells.toList=((Va3 es).drop (i.toNat*sz)).take sz:=by
   have hx1:=Vh0 es i.toNat g6;have hx2:es.drop i.toNat=u::es.drop (i.toNat+1):=by
    have hlt:i.toNat<es.length:=kv;rw[List.drop_eq_getElem_cons hlt];rw[Zf hlt]at e1;simp only[T]at e1;rw[e1]
   rw[<-hx1,hx2];simp only[Va3,Zm];rw[Yy (by simp[husz]),Xr (by simp[husz])]
  have hA:(Va3 es++rest).take (i.toNat*sz+k)=(Va3 es).take (i.toNat*sz)++u.cells.toList.take k:=by
   rw[Yy kv,hu,List.take_take,Iw kv,List.take_add]
  have hB:(Va3 es++rest).drop (i.toNat*sz+k+(a.eval y).cells.toList.length)=u.cells.toList.drop (k+(a.eval y).cells.size)++(Va3 es).drop (i.toNat*sz+sz)++rest:=by
   simp only[Zb];rw[Xz kv,hu];congr 1;have hC:(Va3 es).drop (i.toNat*sz)=((Va3 es).drop (i.toNat*sz)).take sz++(Va3 es).drop (i.toNat*sz+sz):=by
    rw[<-I5,List.take_append_drop]
   have:(Va3 es).drop (i.toNat*sz+k+(a.eval y).cells.size)=((Va3 es).drop (i.toNat*sz)).drop (k+(a.eval y).cells.size):=by rw[I5,Ym]
   rw[this]
   conv=>lhs;rw[hC]
   rw[Xz (by simp only[Yw,Xc];omega)]
  rw[hA,hB];simp only[Xt]
 refine⟨.skip,Z7,_,G,?_,.inr ⟨rfl,rfl⟩,s1,⟨s2,hr.size,λt s ht=>hper _ _ (hr.fr t s ht),λp hp=>?_,hr.gn,hr.defers⟩,?_,λ_ _=>rfl⟩
 ·have hcs:(a.eval y).cells.size=n:=kv;simp[execOp,ho,h3,I8,Ya,storeVar,Vae hti,hcs];simp only[Zb,hcs]at hst;rw[hst];simp
 ·simp only[St.setBox,Zv]at hp;obtain⟨q,hq,rfl⟩:=hp
  split
  ·rename_i hqb;refine .inr ⟨blk,_,es.set i.toNat u',by simpa using g0,by rw[hqb];exact h2,Y5 w blk arr _ e _ g2,g3,?_,?_,?_,⟨rest,by simp only[];exact hsplit.symm⟩,?_⟩
   ·have:=Xg Y6 hsplit;simp only[Zq]at this
    have h9:=Vaf (es.set i.toNat u') (sz:=sz) (λx hx=>by
     rcases Xf hx with hx|rfl
     ·exact g6 x hx
     ·exact hu'sz)
    simp only[Y4,Zq];rw[List.length_set]at h9;omega
   ·have:=RepL.mono s1.U s1.imm _ _ (g5.set i.toNat f1);exact this
   ·intro x hx;rcases Xf hx with hx|rfl
    ·exact g6 x hx
    ·exact hu'sz
   ·intro c hc;rw[Vil es _ u u' g6 e1,f2]at hc;simp only[Zd]at hc;rcases hc with(hc|((hc|hc)|hc))|hc
    ·exact g8 c (Zg hc)
    ·exact c2 c (Zg hc)
    ·exact d2 c hc
    ·exact c2 c (Zh hc)
    ·exact g8 c (Zh hc)
  ·rename_i hqb;exact(hr.bx q hq).persist s1.toExt (s3 (q.1,0) (by simpa using hqb)) (λ_ _=>rfl)
 ·simp only[Vav,RepS,Rep];exact⟨#[],rfl,by simp[RepL]⟩
def SV.forget(b:F)(s:SV):SV:=match s.names b with
 |true=>.junk
 |false=>s
def ABox.forget(b:F):ABox->ABox
 | .cells t l=>.cells t (l.map (SV.forget b))
 | .mi ks l=>.mi ks (l.map (SV.forget b))
 |x=>x
def dropB(b:F):C (F×ABox)->C (F×ABox)
 |[]=>[]
 |p::l=>match p.1==b with
  |true=>dropB b l
  |false=>(p.1,p.2.forget b)::dropB b l
def St.forget(S:St)(b:F):St:=⟨S.fr.map (SV.forget b),dropB b S.bx,S.gn⟩
def Vg5(b:F)(s:SV):(s.forget b).names b=false:=by
 unfold SV.forget;split
 ·rfl
 ·rename_i h;exact h
def Vni{G:Gh}{w:H}{b:F}{s:SV}{u:B}(h:RepS G w s u):RepS G w (s.forget b) u:=by
 unfold SV.forget;split
 ·trivial
 ·exact h
def Vhb{G:Gh}{w:H}{b:F}:∀ {l:C SV} {us:C B},RepSs G w l us->RepSs G w (l.map (SV.forget b)) us
 |[],_,h=>h
 |s::l,us,h=>by obtain⟨u,us',e,h1,h2⟩:=h;exact⟨u,us',e,Vni h1,Vhb h2⟩
def Vi5{b:F}:∀ {l:C (F×ABox)} {p:F×ABox},p∈dropB b l->∃ q∈l,q.1≠b/\p=(q.1,q.2.forget b)
 |[],p,h=>by simp[dropB]at h
 | q::l,p,h=>by
  unfold dropB at h
  split at h
  ·obtain⟨q',h1,h2⟩:=Vi5 h;exact⟨q',by simp[h1],h2⟩
  ·rename_i hq;simp only[Ys]at h;rcases h with rfl|h
   ·exact⟨q,ku,by simpa using hq,rfl⟩
   ·obtain⟨q',h1,h2⟩:=Vi5 h;exact⟨q',by simp[h1],h2⟩
def forget_box{G:Gh}{w:H}{b id:F}{x:ABox}(h:RepB G w id x):RepB G w id (x.forget b):=by
 cases x with
 |cells t l=>obtain⟨blk,arr,h1,h2,h3,h4,h5⟩:=h;exact⟨blk,arr,h1,h2,h3,Vhb h4,h5⟩
 |mi ks l=>obtain⟨blk,ents,clock,h1,h2,h3,h4,h5,h6⟩:=h;exact⟨blk,ents,clock,h1,h2,h3,h4,Vhb h5,h6⟩
 |map ks vs=>exact h
 |vec e sz l=>exact h
 |ge n=>exact h
 |gl b vs=>exact h
 |it s pos=>exact h
 |vck e sz l=>exact h
def forget_svs(b:F)(x:ABox):(x.forget b).svs.any (SV.names b)=false:=by
 cases x with
 |cells t l=>simp only[ABox.forget,ABox.svs,Ii,Zs];intro s _;simpa using Vg5 b s
 |mi ks l=>simp only[ABox.forget,ABox.svs,Ii,Zs];intro s _;simpa using Vg5 b s
 |map ks vs=>rfl
 |vec e sz l=>rfl
 |ge n=>rfl
 |gl b vs=>rfl
 |it s pos=>rfl
 |vck e sz l=>rfl
def Vhc(S:St)(b:F):(S.forget b).names b=false:=by
 simp only[St.names,St.forget,Y8];refine⟨?_,?_⟩
 ·simp only[Ii,Zs];intro s _;simpa using Vg5 b s
 ·rw[Zs];intro p hp;obtain⟨q,_,h1,rfl⟩:=Vi5 hp;simp only[forget_svs,Bool.or_false];simpa using h1
def Rel.forget{G:Gh}{w:H}{S:St}{a:Qr}(h:Rel G w S a)(b:F):Rel G w (S.forget b) a:=by
 refine⟨h.wf,by simp only[St.forget,Q0];exact h.size,λt s ht=>?_,λp hp=>?_,h.gn,h.defers⟩
 ·simp only[St.forget,Z8,Za]at ht;obtain⟨s0,h1,rfl⟩:=ht;exact Vni (h.fr t s0 h1)
 ·obtain⟨q,hq,_,rfl⟩:=Vi5 hp;exact forget_box (h.bx q hq)
def Rel.but{G G':Gh}{w w':H}{S:St}{a:Qr}{id:F}(h:Rel G w S a)(hn:S.names id=A)(he:Ext G w G' w')(hw:Wf G' w')(hk:∀ κ,κ≠(id,0)->Keep G w G' w' κ)(hg:G'.gen=G.gen):Rel G' w' S a:=by
 simp only[St.names,Y8]at hn;obtain⟨n1,n2⟩:=hn;have hne:∀ κ:Key,κ.1≠id->κ≠(id,0):=λκ hκ e=>hκ (by rw[e])
 refine⟨hw,h.size,λt s ht=>?_,λp hp=>?_,λk=>by rw[hg];exact h.gn k,h.defers.trans he.df.symm⟩
 ·have:s.names id=false:=by rw[Zs]at n1;simpa using n1 s (Z4 ht)
  exact(h.fr t s ht).persist he (λκ hκ=>(hk κ (hne κ (Vc6 this κ hκ))).1)
 ·have hp':p.1≠id/\p.2.svs.any (SV.names id)=false:=by rw[Zs]at n2;simpa using n2 p hp
  refine(h.bx p hp).persist he (hk _ (hne _ hp'.1)) (λκ hκ=>?_);simp only[Z6]at hκ;obtain⟨s,hs,hs2⟩:=hκ;have:s.names id=false:=by have:=hp'.2;rw[Zs]at this;simpa using this s hs
  exact(hk κ (hne κ (Vc6 this κ hs2))).1
def Rel.add{G:Gh}{w:H}{S:St}{a:Qr}(h:Rel G w S a){id:F}{x:ABox}(hx:RepB G w id x):Rel G w (S.addBox id x) a:=by
 refine⟨h.wf,h.size,h.fr,λp hp=>?_,h.gn,h.defers⟩;simp only[St.addBox,Ys]at hp;rcases hp with rfl|hp
 ·exact hx
 ·exact h.bx p hp
def Gh.bindc(G:Gh)(id blk c:F):Gh:={G with ow:=λκ=>if κ=(id,0)then J blk else G.ow κ,cp:=λb=>if b=blk then c else G.cp b}
def step_bindc{G:Gh}{w:H}(hw:Wf G w)(o:Obj)(id c:F):
  Step G w (G.bindc id w.heap.size c) (w.drew.alloc o)/\Wf (G.bindc id w.heap.size c) (w.drew.alloc o)/\∀ κ,κ≠(id,0)->Keep G w (G.bindc id w.heap.size c) (w.drew.alloc o) κ:=by
 have hwd:Wf G w.drew:=⟨hw.inj,hw.lt,hw.zero⟩
 obtain⟨s1,s2,s3⟩:=Vee hwd o id;exact⟨⟨⟨s1.U,⟨s1.imm.cell,s1.imm.map,s1.imm.typ,s1.imm.frz,s1.imm.pln⟩,s1.size,s1.os,s1.tape,s1.output,λb hb=>by simp only[Gh.bindc];rw[Yb kv],s1.gen,λκ h0 hg=>s1.tok κ h0 hg⟩,s1.stay,s1.rng⟩,⟨s2.inj,s2.lt,s2.zero⟩,λκ hκ=>s3 κ hκ⟩
def append_vs{P:D}{t t2 ty e:Y}{sz bt:F}{z:B}(ht:Vbe P t=J e)(h2:Ve1 P t2=V)(hi:Van P e=J (sz,bt,J z))(hz:z.cells.size=sz)(hbt:0<bt)
  {G:Gh} {w:H} {S:St} {a:Qr} {b n:F} {l l':C AV} {u x:B} {es':C B} (hr:Rel G w S a) (hv:RepS G w (.vs b n) u) (hb:S.bx.lookup b=J (.vec e sz l)) (hn:n<=l.length) (hx:Src P w G.U sz x l' es') (hu:Uni sz l')
  (hbd:(n+l'.length)*bt<=140737488355328):
  ∃v w' G',(Z5 #[t,t2] ty #[u,x]).run P w=.ok v w'/\Step G w G' w'/\Rel G' w' ((S.forget b).addBox b (.vec e sz (l.take n++l'))) a/\RepS G' w' (.vs b (n+l'.length)) v/\∀ i,i≠b->G'.ow (i,0)=G.ow (i,0):=by
 have hes':=hu.sizes hx.rep;have h1':=hx.rep.cells hu;have hl2:=Vaf es' hes';have hll':=hx.rep.length;have hf:=hr.forget b;have hfree:=Vhc S b;have grow:∀(ad:R Jc)(cap:F)(es:C B),cap<n+l'.length->u=.slice ad n cap->RepL G.U w (l.take n) es->(∀x∈es,x.cells.size=sz)->(∀c∈Va3 es,c.oneCell'=V)->
   (∀w',w'.heap=w.heap->(Zx sz n (.slice ad n cap)).run P w'=.ok (Va3 es).toArray w')->
   ∃v w' G',(Z5 #[t,t2] ty #[u,x]).run P w=.ok v w'/\Step G w G' w'/\Rel G' w' ((S.forget b).addBox b (.vec e sz (l.take n++l'))) a/\RepS G' w' (.vs b (n+l'.length)) v/\∀ i,i≠b->G'.ow (i,0)=G.ow (i,0):=by
  intro ad cap es hlt hu' hre hs hone hfirst;have hel:=hre.length;simp only[Yw]at hel;have hl1:=Vaf es hs;obtain⟨nc,rest,q1,q2,q3⟩:=Vch (ty:=ty) ht h2 hi hz hbt (w:=w) (a:=ad) (n:=n) (cap:=cap) (m:=l'.length) (x:=x) (olds:=Va3 es) (news:=Va3 es') (hx.len w rfl) hfirst (λw' hw=>hx.cells w' hw) hlt hbd;obtain⟨s1,s2,s3⟩:=step_bindc hr.wf (.cells (Va3 es++Va3 es'++rest).toArray e) b nc;refine⟨_,_,_,by rw[hu'];exact q3,s1,(hf.but hfree s1.toExt s2 s3 rfl).add ?_,?_,λi hi=>by simp only[Gh.bindc];rw[Yb (λh=>hi (by simpa using h))]⟩
  ·refine .inr ⟨w.heap.size,_,es++es',ku,by simp[Gh.bindc],Vax w.drew _,hr.wf.zero _ (Zk _),?_,(RepL.mono s1.U s1.imm _ _ hre).append (RepL.mono s1.U s1.imm _ _ hx.rep),?_,⟨rest,by simp[Vb1]⟩,?_⟩
   ·simp only[Gh.bindc,Xo,Y4,Zq,hl1,hl2,q2,hll',hel];rw[Iw hn, <-Yx, <-Yx];exact Yc _ kv
   ·intro x hx;rcases Zd.1 hx with h|h
    ·exact hs x h
    ·exact hes' x h
   ·rw[Vb1];intro c hc;rcases Zd.1 hc with h|h
    ·exact hone c h
    ·exact h1' c h
  ·exact .inr ⟨w.heap.size,ku,by simp[Gh.bindc],by simp[Gh.bindc],by simpa[Gh.bindc]using q1⟩
 have hbox:=hr.bx _ (Vag hb);rcases hv with⟨rfl,rfl,how⟩|⟨blk,v0,v1,rfl,v3⟩
 ·by_cases hm:l'.length=0
  ·have hl'0:l'=[]:=Zl.1 hm;have e1:=hx.len w rfl;have e2:=hx.cells w rfl;rw[hm]at e1 e2;subst hl'0;exact⟨.slice E 0 0,w,G,Vfx (ty:=ty) ht h2 hi (w:=w) (x:=x) e1 e2,Step.refl G w,hf.add (.inl ⟨ku,how⟩),.inl ⟨rfl,rfl,how⟩,λ_ _=>rfl⟩
  ·exact grow E 0 [] kv rfl (by simp[RepL]) ku (by simp[Va3]) (λw' hw=>by simp[Zx,Va3])
 ·rcases hbox with⟨_,h⟩|⟨blk',arr,es,g0,g1,g2,g3,g4,g5,g6,⟨rest,g7⟩,g8⟩
  ·simp only at h;rw[v1]at h;cases h
  simp only at g1;rw[v1]at g1;simp at g1;subst g1;have hst':=g5.take n;have hts:∀ x∈es.take n,x.cells.size=sz:=λx hx=>g6 x (Zg hx)
  have htake:=Vet es n g6;have hone:∀ c∈Va3 (es.take n),c.oneCell'=true:=by rw[htake];exact λc hc=>g8 c (Zg hc)
  have hel:=g5.length;have hl1:=Vaf es g6;have hnlen:n*sz<=(Va3 es).length:=by rw[hl1];exact Yc _ kv
  have harr:arr.size=(Va3 es).length+rest.length:=by simpa using Xg Y6 g7
  by_cases hle:n+l'.length<=G.cp blk
  ·have hmul:(n+l'.length)*sz<=G.cp blk*sz:=Yc _ hle;rw[Yx]at hmul;have hst:=Xn (P:=P) blk (0+n*sz) e (Va3 es') 0 arr w g2 (by rw[hl2,hll'];omega) h1';simp only[Qe]at hst;simp only[Xp]at hst;obtain⟨s1,s2,s3⟩:=Vh2 hr.wf v1 g2 g3 (arr.toList.take (n*sz)++Va3 es'++arr.toList.drop (n*sz+(Va3 es').length)).toArray;refine⟨_,_,G,Vbo (ty:=ty) ht h2 hi (hx.len w rfl) (hx.cells w rfl) hle (by simp only[Xp];exact hst),s1,(hf.but hfree s1.toExt s2 s3 rfl).add ?_,.inr ⟨blk,by simpa using v0,v1,rfl,hle⟩,λ_ _=>rfl⟩;refine .inr ⟨blk,_,es.take n++es',by simpa using g0,v1,Y5 w blk arr _ e _ g2,g3,?_,(RepL.mono s1.U s1.imm _ _ hst').append (RepL.mono s1.U s1.imm _ _ hx.rep),?_,⟨arr.toList.drop (n*sz+(Va3 es').length),?_⟩,?_⟩
   ·simp only[Y4,Zq,Yw,Xc,Zb,hl2,hll'];omega
   ·intro x hx;rcases Zd.1 hx with h|h
    ·exact hts x h
    ·exact hes' x h
   ·simp only[];rw[Vb1,htake,g7,Yy hnlen]
   ·rw[Vb1];intro c hc;rcases Zd.1 hc with h|h
    ·exact hone c h
    ·exact h1' c h
  ·refine grow _ _ (es.take n) kv rfl hst' hts hone (λw' hw=>?_);refine Q5 w' sz n _ n _ (Va3 (es.take n)) (by rw[htake,Yw];omega) (λj v hj=>?_);rw[Vbd,Vrs hw];have hj2:arr.toList[j]? =J v:=by
    rw[htake,Zw]at hj
    split at hj
    ·rename_i hlt;rw[g7,Zo kv];exact hj
    ·cases hj
   simpa[Ye,g2]using hj2
def Vmp{P:D}{o:L}{S:St}{t e:Y}{sz bt:F}{z:R B}{x:X}{lo hi:R X}{b n:F}{k k':Yi}{i j:Qb}(ho:o.op=.slice t x lo hi E)(hx:S.ev x=.vs b n)
  (hlo:Vb3 S 0 k i lo) (hhi:Vb3 S n k' j hi) (ht:Vbe P t=J e) (hti:Van P e=J (sz,bt,z)):Sound P o S ⟨i=0/\0<=j/\j<=n,.vs b j.toNat,S⟩:=
 Sound.still λ⟨hi0,hj0,hjn⟩ G w a hr=>by
  subst hi0;have h1:=hr.ev x;rw[hx]at h1;have ht':=Vi2 ht;have⟨ad,cap,g1,hcap,hshape⟩:∃ ad cap,a.eval x=.slice ad n cap/\n<=cap/\((cap=0/\ad=E/\n=0/\G.ow (b,0)=E)\/∃ blk,blk<w.heap.size/\G.ow (b,0)=J blk/\ad=J ⟨blk,0,E⟩/\cap=G.cp blk):=by
   rcases h1 with⟨rfl,h,h'⟩|⟨blk,h0,h,h',h''⟩
   ·exact⟨E,0,h,Zk _,.inl ⟨rfl,rfl,rfl,h'⟩⟩
   ·exact⟨_,_,h',h'',.inr ⟨blk,h0,h,rfl,rfl⟩⟩
  have hjc:j<=(cap:Qb):=kv;refine⟨.slice (if cap=0 then ad else ad.map (·.add (0*sz))) (j.toNat-0) (cap-0),?_,?_⟩
  ·cases lo with
   | none=>
    simp only[Vb3]at hlo;cases hi with
    |none=>simp only[Vb3]at hhi;subst hhi;simp[execOp,ho,g1,Z0,Yd,Va0 ht',Zn,Vae hti]
    |some y=>
     simp only[Vb3]at hhi;have h2:=hr.ev y;rw[hhi]at h2;simp only[RepS,Rep]at h2;simp[execOp,ho,g1,h2.1,Z0,Yd,Va0 ht',Zn,Zz,asIntOf,hj0,hjc,Vae hti]
   | some y'=>
    simp only[Vb3]at hlo;have h3:=hr.ev y';rw[hlo]at h3;simp only[RepS,Rep]at h3;cases hi with
    |none=>
     simp only[Vb3]at hhi;subst hhi;simp[execOp,ho,g1,h3.1,Z0,Yd,Va0 ht',Zn,Zz,asIntOf,Vae hti]
    |some y=>
     simp only[Vb3]at hhi;have h2:=hr.ev y;rw[hhi]at h2;simp only[RepS,Rep]at h2;simp[execOp,ho,g1,h2.1,h3.1,Z0,Yd,Va0 ht',Zn,Zz,asIntOf,hj0,hjc,Vae hti]
  ·rcases hshape with⟨rfl,rfl,rfl,h⟩|⟨blk,h0,h,rfl,rfl⟩
   ·exact .inl ⟨kv,by simp;omega,h⟩
   ·refine .inr ⟨blk,h0,h,?_,kv⟩;have:(if G.cp blk=0 then(J ⟨blk,0,E⟩:R Jc)else(J ⟨blk,0,E⟩:R Jc).map (·.add (0*sz)))=J ⟨blk,0,E⟩:=by
     split
     ·rfl
     ·simp[Vbd]
    rw[this];simp
def Vq6{P:D}{o:L}{S:St}{x:X}{t:Y}{b sz k n:F}(ho:o.op=.call {callee:=.builtin .len,args:=#[x],argTypes:=#[t]})(hx:S.ev x=.vw b sz k n)(ht:Vgs P t=V):Sound P o S ⟨O,.av (.val (.int .i64 n)),S⟩:=
 Sound.still λ_ G w a hr=>by
  have h1:=hr.ev x;rw[hx]at h1;obtain⟨ad,cap,g1,_⟩:=h1;have⟨e,ht'⟩:∃ e,P.underlying t=J (.slice e):=by
   unfold Vgs at ht;split at ht
   ·rename_i e h;exact⟨e,h⟩
   ·simp at ht
  obtain⟨c,hc⟩:=Vb2 (P:=P) (a:=a) ho w;exact⟨_,by rw[hc];simp[builtin,Qy,Va0 ht',g1,goInt],⟨rfl,rfl⟩⟩
def Vdy{P:D}{o:L}{S:St}{t e:Y}{sz bt:F}{z:R B}{x ix:X}{b q n:F}{k:Yi}{i:Qb}(ho:o.op=.indexAddr t x ix)(hx:S.ev x=.vw b sz q n)(hix:S.ev ix=.av (.val (.int k i)))
  (ht:Vbe P t=J e) (hi:Van P e=J (sz,bt,z)):Sound P o S ⟨0<=i/\i<n,.vp b sz ((q:F)+i) 0,S⟩:=
 Sound.still λ⟨hi0,hi1⟩ G w a hr=>by
  have h1:=hr.ev x;rw[hx]at h1;have h2:=hr.ev ix;rw[hix]at h2;simp only[RepS,Rep]at h2;obtain⟨ad,cap,g1,g2,g3⟩:=h1;rcases g3 with rfl|⟨blk,g3,rfl⟩
  ·omega
  ·refine⟨.pointer (J ⟨blk,q*sz+i.toNat*sz,E⟩),?_,⟨blk,g3,?_⟩⟩
   ·simp[execOp,ho,h2.1,g1,Qq,asIntOf,Va0 (Vi2 ht),Vae hi,hi0,hi1,Vbd]
   ·rw[show((q:F)+i:Qb).toNat=q+i.toNat by omega,Yx,Qe]
def Vmo{P:D}{o:L}{S:St}{t e:Y}{sz bt:F}{z:R B}{x y':X}{hi:R X}{b n:F}{k k':Yi}{i j:Qb}(ho:o.op=.slice t x (J y') hi E)(hx:S.ev x=.vs b n)
  (hlo:Vb3 S 0 k i (J y')) (hhi:Vb3 S n k' j hi) (ht:Vbe P t=J e) (hti:Van P e=J (sz,bt,z)):Sound P o S ⟨0<=i/\i<=j/\j<=n,.vw b sz i.toNat (j.toNat-i.toNat),S⟩:=
 Sound.still λ⟨hi0,hij,hjn⟩ G w a hr=>by
  have h1:=hr.ev x;rw[hx]at h1;have ht':=Vi2 ht;have⟨ad,cap,g1,hcap,hshape⟩:∃ ad cap,a.eval x=.slice ad n cap/\n<=cap/\(n=0\/∃ blk,G.ow (b,0)=J blk/\ad=J ⟨blk,0,E⟩):=by
   rcases h1 with⟨rfl,h,h'⟩|⟨blk,h0,h,h',h''⟩
   ·exact⟨E,0,h,Zk _,.inl rfl⟩
   ·exact⟨_,_,h',h'',.inr ⟨blk,h,rfl⟩⟩
  have hjc:j<=(cap:Qb):=kv;have hic:i<=(cap:Qb):=kv;have hj0:0<=j:=kv;refine⟨.slice (if cap=i.toNat then ad else ad.map (·.add (i.toNat*sz))) (j.toNat-i.toNat) (cap-i.toNat),?_,?_⟩
  ·simp only[Vb3]at hlo;have h3:=hr.ev y';rw[hlo]at h3;simp only[RepS,Rep]at h3;cases hi with
   |none=>
    simp only[Vb3]at hhi;subst hhi;have:(i.toNat:Qb)=i:=kv;simp[execOp,ho,g1,h3.1,Z0,Yd,Va0 ht',Zn,Zz,asIntOf,Vae hti,hi0,hij,hjc,hic]
   |some y=>
    simp only[Vb3]at hhi;have h2:=hr.ev y;rw[hhi]at h2;simp only[RepS,Rep]at h2;have hm:max j 0=j:=kv;have hm2:¬ j<i:=kv;simp[execOp,ho,g1,h2.1,h3.1,Z0,Yd,Va0 ht',Zn,Zz,asIntOf,hj0,hjc,hi0,hij,Vae hti,hm,hm2]
  ·refine⟨_,_,rfl,kv,?_⟩
   by_cases h0:j.toNat-i.toNat=0
   ·exact .inl h0
   ·rcases hshape with rfl|⟨blk,h4,rfl⟩
    ·omega
    ·refine .inr ⟨blk,h4,?_⟩;rw[Yb kv];simp[Vbd]
def Vjt(P:D)(s:Y)(v:SV)(f:F)(S:St):R Res:=
 match Vkl P s f with
 | some (off,ft)=>match Van P ft with
  |some (sz,_,_)=>if sz=0 then E else match v with
   | .ptr b k=>J ⟨O,.ptr b (k+off),S⟩
   | .av (.ro l k)=>J ⟨O,.av (.ro l (k+off)),S⟩
   | .vp b s i k=>J ⟨O,.vp b s i (k+off),S⟩
   |_=>E
  |none=>E
 |none=>E
def Vjj(P:D)(t:Y)(v:SV)(S:St):R Res:=
 match tAgg P t with
 | some A=>match v with
  | .ptr b k=>match S.bx.lookup b with
   |some (.cells ty l)=>(l[k]?).map (λs=>⟨O,s,S⟩)
   |_=>E
  | .av (.ro l k)=>(l[k]?).map (λs=>⟨O,.av s,S⟩)
  |_=>E
 | some V=>match Van P t with
  | some (sz,_,_)=>match v with
   | .ptr b k=>match S.bx.lookup b with
    | some (.cells ty l)=>match((l.drop k).take sz).any SV.isTok with
     |true=>match SV.allCV ((l.drop k).take sz)with
      |some r=>if r.length=sz then J ⟨O,.ag r,S⟩else E
      |none=>E
     |false=>match SV.allAV ((l.drop k).take sz)with
      |some r=>if r.length=sz then J ⟨O,.av (.agg r),S⟩else E
      |none=>E
    |_=>E
   | .av (.ro l k)=>if k+sz<=l.length then J ⟨O,.av (.agg ((l.drop k).take sz)),S⟩else E
   |_=>E
  |none=>E
 |none=>E
def Vs2(P:D)(t:Y)(v x:SV)(S:St):R Res:=
 match Van P t with
 | some (sz,_,_)=>match v with
  | .ptr b k=>match S.bx.lookup b,x.cells with
   |some (.cells ty l),J xs=>if xs.length=sz/\k+sz<=l.length then J ⟨O,Vav,S.setBox b (.cells ty (l.take k++xs++l.drop (k+xs.length)))⟩else E
   |_,_=>E
  | .vp b s i k=>match S.bx.lookup b,x.toAV with
   |some (.vec e s' l),J v=>if s'=s then J ⟨0<=i/\i<l.length/\k+sz<=(l.getD i.toNat (.val Z7)).cells.length/\(l.getD i.toNat (.val Z7)).isTup=A/\v.isTup=A/\v.cells.length=sz/\0<sz,Vav,S.setBox b (.vec e s (l.set i.toNat ((l.getD i.toNat (.val Z7)).upd k v)))⟩else E
   |_,_=>E
  |_=>E
 |none=>E
def Vs8(P:D)(d:R Tmp)(t:Y)(S:St):R Res:=
 match d,Van P t with
 |some id,J (_,_,J z)=>if z.cells.toList.all (λc=>c.oneCell')/\id<1000/\S.names id=A then J ⟨O,.ptr id 0,S.addBox id (.cells t (zeroCells z))⟩else E
 |_,_=>E
def aBox(d:R Tmp)(t:Y)(x:SV)(S:St):R Res:=
 match d,x.cells with
 |some id,J xs=>if id<1000/\S.names id=A/\xs.all (λs=> !s.names id)=V then J ⟨O,.ptr id 0,S.addBox id (.cells t xs)⟩else E
 |_,_=>E
def Vs7(P:D)(t:Y)(parts:C (F×X))(S:St):R Res:=
 match Van P t,Vob P t,Ve9 S parts with
 |some (_,_,J z),J pl,J ps=>if z.cells.toList.all (λc=>c.oneCell')then(aFill pl (z.cells.toList.map Vds) ps).map (λr=>⟨O,.av (.agg r),S⟩)else E
 |_,_,_=>E
def Vc7(P:D)(t:Y)(n:F)(parts:C (F×X))(S:St):R Res:=
 match Vbe P t with
 |some e=>match Van P e,Vd5 S (parts.map (·.2))with
  |some (sz,_,J _),J ps=>if parts.map (·.1)=Xl n/\n*sz<=16777216 then J ⟨Uni sz ps,(match sz with|2=>.clo ps|_=>.av (.sl ps)),S⟩else E
  |_,_=>E
 |none=>E
def Veo(P:D)(t:Y)(x i:SV)(S:St):R Res:=
 match x,i,Vbe P t with
 | .vs b n,.av (.val (.int _ i)),J e=>match Van P e with
  |some (sz,_,_)=>J ⟨0<=i/\i<n,.vp b sz i 0,S⟩
  |none=>E
 | .vw b sz' q n,.av (.val (.int _ i)),J e=>match Van P e with
  |some (sz,_,_)=>if sz'=sz then J ⟨0<=i/\i<n,.vp b sz ((q:F)+i) 0,S⟩else E
  |none=>E
 |_,_,_=>match Vbe P t with
 |some e=>match Van P e,x.toAV,i with
  |some (sz,_,_),J (.sl l),.av (.val (.int _ i))=>if 0<sz then J ⟨0<=i/\i<l.length/\(l.getD i.toNat (.val Z7)).cells.length=sz/\(l.getD i.toNat (.val Z7)).isTup=A,.av (.ro (l.getD i.toNat (.val Z7)).cells 0),S⟩else E
  |_,_,_=>E
 | none=>match x,i,tArr P t with
  | .ptr b o,.av (.val (.int _ i)),J (n,e)=>match Van P e with
   |some (sz,_,_)=>J ⟨0<=i/\i<n,.ptr b (o+i.toNat*sz),S⟩
   |none=>E
  |_,_,_=>E
def Vdh{P:D}{o:L}{S:St}{t e:Y}{n sz bt:F}{zz:R B}{x ix:X}{b k:F}{kk:Yi}{i:Qb}(ho:o.op=.indexAddr t x ix)(hx:S.ev x=.ptr b k)(hix:S.ev ix=.av (.val (.int kk i)))(ht:tArr P t=J (n,e))(hi:Van P e=J (sz,bt,zz)):
  Sound P o S ⟨0<=i/\i<n,.ptr b (k+i.toNat*sz),S⟩:=
 Sound.still λ⟨hi0,hi1⟩ G w a hr=>by
  have h1:=hr.ev x;rw[hx]at h1;obtain⟨blk,h2,h3⟩:=h1;have h4:=hr.ev ix;rw[hix]at h4;simp only[RepS,Rep]at h4;have hu:P.underlying t=J (.array n e):=by
   unfold tArr at ht;split at ht
   ·rename_i n' e' h;simp only[T,Zc]at ht;obtain⟨rfl,rfl⟩:=ht;exact h
   ·simp at ht
  refine⟨.pointer (J ⟨blk,k+i.toNat*sz,E⟩),?_,⟨blk,h2,rfl⟩⟩;simp[execOp,ho,h3,h4.1,Qq,asIntOf,Va0 hu,Ya,Vae hi,hi0,hi1,Vbd]
def Vs6(P:D)(t:Y)(x i:SV)(S:St):R Res:=
 match x,i with
 | .av (.val (.string s)),.av (.val (.int _ i))=>if tStr P t=V then J ⟨0<=i/\i<s.size,.av (.val (.int .u8 ((s.data.getD i.toNat 0).toNat:F))),S⟩else E
 | .av (.agg l),.av (.val (.int _ i))=>match tArr P t with
  |some (n,e)=>match Van P e,tAgg P e with
   |some (sz,_,_),J ag=>J ⟨0<=i/\i<n/\i.toNat*sz+sz<=l.length/\0<sz,.av (arrElt ag l (i.toNat*sz) sz),S⟩
   |_,_=>E
  |none=>E
 |_,_=>E
def Vie(d:Qb):R SV->R Qb
 |none=>J d
 |some (.av (.val (.int _ i)))=>J i
 |_=>E
def Vs3(P:D)(t:Y)(x:SV)(lo hi:R SV)(S:St):R Res:=
 match x with
 | .vs b n=>match Vbe P t with
  | some e=>match Van P e,Vie 0 lo,Vie n hi with
   |some (sz,_,_),J i,J j=>match lo with
    |none=>J ⟨i=0/\0<=j/\j<=n,.vs b j.toNat,S⟩
    |some _=>J ⟨0<=i/\i<=j/\j<=n,.vw b sz i.toNat (j.toNat-i.toNat),S⟩
   |_,_,_=>E
  |none=>E
 |_=>match x.toAV with
 |some (.val (.string s))=>match Vie 0 lo,Vie s.size hi with
  |some i,J j=>if tStr P t=V then J ⟨0<=i/\i<=j/\j<=s.size,.av (.val (.string (s.extract i.toNat j.toNat))),S⟩else E
  |_,_=>E
 | some (.sl l)=>match Vbe P t with
  |some e=>match Van P e,Vie 0 lo,Vie l.length hi with
   |some (sz,_,_),J i,J j=>J ⟨0<=i/\i<=j/\j<=l.length/\Uni sz l,.av (.sl ((l.drop i.toNat).take (j.toNat-i.toNat))),S⟩
   |_,_,_=>E
  |none=>E
 |_=>E
def aSrc(sz:F)(x:SV):R (C AV):=
 match x.toAV with
 |some (.sl l)=>J l
 |some (.val (.string s))=>if sz=1 then J (Vab s)else E
 |_=>E
def Vgf(P:D)(d:R Tmp)(t t2:Y)(x y:SV)(S:St):R Res:=
 match Vbe P t,d with
 | some e,J d=>match Van P e with
  | some (sz,bt,J z)=>if z.cells.size=sz/\0<bt/\Ve1 P t2=V then match aSrc sz y with
    | some l'=>match x with
     | .own k g sz' l=>if sz'=sz/\e+1=k.2 then J ⟨S.gen k=g/\Uni sz l'/\(l.length+l'.length)*bt<=140737488355328,.own k (g+1) sz (l++l'),S.next k⟩else E
     | .vs b n=>match S.bx.lookup b with
      |some (.vec e' sz' l)=>if e'=e/\sz'=sz/\(b<1000\/2000<=b)then J ⟨n<=l.length/\Uni sz l'/\(n+l'.length)*bt<=140737488355328,.vs b (n+l'.length),(S.forget b).addBox b (.vec e sz (l.take n++l'))⟩else E
      |_=>E
     | .clo l=>J ⟨Uni sz l/\Uni sz l'/\(l.length+l'.length)*bt<=140737488355328,.av (.sl (l++l')),S⟩
     | .nil=>J ⟨Uni sz l'/\l'.length*bt<=140737488355328,.own (d,e+1) (S.gen (d,e+1)+1) sz l',S.next (d,e+1)⟩
     |_=>E
    |none=>E
   else E
  |_=>E
 |_,_=>E
def aLen(P:D)(t:Y)(x:SV)(S:St):R Res:=
 match x with
 | .vs b n=>if Vgs P t=V then J ⟨O,.av (.val (.int .i64 n)),S⟩else E
 | .vw b sz q n=>if Vgs P t=V then J ⟨O,.av (.val (.int .i64 n)),S⟩else E
 |_=>match x.toAV with
 |some (.val (.string s))=>if tStr P t=V then J ⟨O,.av (.val (.int .i64 s.size)),S⟩else E
 |some (.sl l)=>if Vgs P t=V then J ⟨O,.av (.val (.int .i64 l.length)),S⟩else E
 |_=>E
def Ve5(P:D)(d:R Tmp)(b:Builtin)(args:C X)(tys:C Y)(S:St):R Res:=
 match b,args,tys with
 | .len,[x],[t]=>aLen P t (S.ev x) S
 | .append,[x,y],[t,t2]=>Vgf P d t t2 (S.ev x) (S.ev y) S
 | .max,[x,y],_=>match S.ev x,S.ev y with
  | .av (.val (.int k i)),.av (.val (.int k' j))=>if k=k' then J ⟨O,.av (.val (.int k (max i j))),S⟩else E
  |_,_=>E
 | .max,[x,y,z],_=>match S.ev x,S.ev y,S.ev z with
  | .av (.val (.int k i)),.av (.val (.int k' j)),.av (.val (.int k'' l))=>if k=k'/\k=k'' then J ⟨O,.av (.val (.int k (max (max i j) l))),S⟩else E
  |_,_,_=>E
 | .min,[x,y],_=>match S.ev x,S.ev y with
  | .av (.val (.int k i)),.av (.val (.int k' j))=>if k=k' then J ⟨O,.av (.val (.int k (min i j))),S⟩else E
  |_,_=>E
 | .clear,[x],[t]=>match S.ev x,tMap P t with
  | .mp b,J _=>match S.bx.lookup b with
   |some (.map _ _)=>J ⟨O,Vav,S.setBox b (.map [] [])⟩
   |_=>E
  |_,_=>E
 |_,_,_=>E
def aBinB(P:D)(op:I6)(t:Y)(a b:Xe)(S:St):R Res:=
 match P.underlying t with
 |some .bool=>match op with
  | .eql=>J ⟨O,.av (.val (.bool (a==b))),S⟩
  | .neq=>J ⟨O,.av (.val (.bool (a !=b))),S⟩
  |_=>E
 |_=>E
def aBinS(P:D)(op:I6)(t:Y)(x y:SV)(S:St):R Res:=
 match x,y with
 | .av (.val (.bool a)),.av (.val (.bool b))=>aBinB P op t a b S
 | .av (.val u),.av (.val v)=>(aBin op u v).map (λq=>⟨q.1,.av (.val q.2),S⟩)
 | .av (.agg l),.av (.agg l')=>aBinA P op t l l' S
 |_,_=>E
def aUnS(op:UnOp)(x:SV)(S:St):R Res:=
 match x with
 | .av (.val u)=>(aUn op u).map (λq=>⟨O,.av (.val q),S⟩)
 |_=>E
def aPick(c x y:SV)(S:St):R Res:=
 match c with
 | .av (.val (.bool p))=>J ⟨O,if p then x else y,S⟩
 |_=>E
def Vfi(x:SV)(i:F)(S:St):R Res:=
 match x with
 | .av (.tup l)=>(l[i]?).map (λy=>⟨O,.av y,S⟩)
 | .tp l=>(l[i]?).map (λy=>⟨O,y.toSV,S⟩)
 |_=>E
def Vdu(x:SV)(S:St):R Res:=
 match x with
 | .ptr b k=>J ⟨O,.ptr b k,S⟩
 | .av (.ro l k)=>J ⟨O,.av (.ro l k),S⟩
 |_=>E
def Vs0(S:St):C X->R (C PV)
 |[]=>J []
 |x::l=>match(S.ev x).toPV,Vs0 S l with
  |some y,J r=>J (y::r)
  |_,_=>E
def allPV_eq(S:St):∀ l,Vs0 S l=l.mapM (λx=>(S.ev x).toPV)
 |[]=>rfl
 |x::l=>by
  simp only[Vs0,Xs,allPV_eq S l];cases(S.ev x).toPV <;>cases l.mapM (λx=>(S.ev x).toPV) <;>rfl
def Vma(fn:Fn)(first captured:C X)(S:St):R Res:=
 match fn,Vs0 S first,Vs0 S captured with
 | .func f,J fs,J cs=>J ⟨O,.fn f fs cs,S⟩
 |_,_,_=>E
def isInt:SV->Xe
 | .av (.val (.int _ _))=>V
 |_=>A
def aMakeMap(P:D)(d:R Tmp)(t:Y)(r:R SV)(S:St):R Res:=
 match d,tMap P t with
 |some id,J _=>if id<1000/\S.names id=A/\r.all isInt=V then J ⟨O,.mp id,S.addBox id (.map [] [])⟩else E
 |_,_=>E
def Vfh(P:D)(t:Y)(x i:SV)(ok:Xe)(S:St):R Res:=
 match tMap P t with
 | some (k,e)=>match Van P e,i with
  | some (_,_,J z),.av (.val (.string s))=>if tStr P k=V then match zAV z with
    | some za=>match x with
     | .mp b=>match S.bx.lookup b with
      |some (.map ks vs)=>J ⟨O,.av (Vj6 ok za ks vs s),S⟩
      |_=>E
     | .av (.rm ks vs)=>J ⟨O,.av (Vj6 ok za ks vs s),S⟩
     | .av (.val (.map E))=>J ⟨O,.av (Vj6 ok za [] [] s),S⟩
     |_=>E
    |none=>E
   else E
  |_,_=>E
 |none=>E
def Ven(P:D)(t:Y)(x i y:SV)(S:St):R Res:=
 match tMap P t with
 | some (k,_)=>if tStr P k=V then match x,i,y.toAV with
   | .mp b,.av (.val (.string s)),J v=>match S.bx.lookup b with
    |some (.map ks vs)=>J ⟨O,Vav,S.setBox b (.map (mputK ks s) (mputV ks vs s v))⟩
    |_=>E
   |_,_,_=>E
  else E
 |none=>E
def aMake(P:D)(t:Y)(x y:SV)(S:St):R Res:=
 match Vbe P t,x,y with
 |some e,.av (.val (.int _ i)),.av (.val (.int _ j))=>match Van P e with
  |some (1,bt,J z)=>if cell1 z=V/\i=j then J ⟨0<=i/\(bt:Qb)*i<=281474976710656/\i<=9223372036854775807,.av (.sl (Zp i.toNat (Vds z))),S⟩else E
  |_=>E
 |_,_,_=>E
def Vb8(P:D)(o:L)(S:St):R Res:=
 match o.op with
 | .move x=>J ⟨O,S.ev x,S⟩
 | .assign x=>J ⟨O,S.ev x,S⟩
 | .pick c x y=>aPick (S.ev c) (S.ev x) (S.ev y) S
 | .binOp op t x y _=>aBinS P op t (S.ev x) (S.ev y) S
 | .unOp op _ x=>aUnS op (S.ev x) S
 | .extract x i=>Vfi (S.ev x) i S
 | .nilCheck x=>Vdu (S.ev x) S
 | .fieldAddr s x f=>Vjt P s (S.ev x) f S
 | .load t x=>Vjj P t (S.ev x) S
 | .store t x y=>Vs2 P t (S.ev x) (S.ev y) S
 | .alloc t=>Vs8 P o.dst t S
 | .box t x=>aBox o.dst t (S.ev x) S
 | .build t parts=>Vs7 P t parts.toList S
 | .buildSlice t n parts=>Vc7 P t n parts.toList S
 | .indexAddr t x i=>Veo P t (S.ev x) (S.ev i) S
 | .index t x i=>Vs6 P t (S.ev x) (S.ev i) S
 | .slice t x lo hi E=>Vs3 P t (S.ev x) (lo.map S.ev) (hi.map S.ev) S
 | .makeFunc fn first captured=>Vma fn first.toList captured.toList S
 | .call {callee:=.builtin b,args,argTypes}=>Ve5 P o.dst b args.toList argTypes.toList S
 | .makeMap t r=>aMakeMap P o.dst t (r.map S.ev) S
 | .lookup t x i ok=>Vfh P t (S.ev x) (S.ev i) ok S
 | .mapUpdate t x i y=>Ven P t (S.ev x) (S.ev i) (S.ev y) S
 | .convert src dst x=>Vid P src dst (S.ev x) S
 | .makeSlice t x y=>aMake P t (S.ev x) (S.ev y) S
 |_=>E
def arr1{α:Type}{a:Yj α}{x:α}(h:a.toList=[x]):a=#[x]:=by rw[<-Qa (xs:=a),h]
def arr3{α:Type}{a:Yj α}{x y z:α}(h:a.toList=[x,y,z]):a=#[x,y,z]:=by rw[<-Qa (xs:=a),h]
def arr2{α:Type}{a:Yj α}{x y:α}(h:a.toList=[x,y]):a=#[x,y]:=by rw[<-Qa (xs:=a),h]
def Vcc{S:St}{d:Qb}{o:R X}{i:Qb}(h:Vie d (o.map S.ev)=J i):∃ k:Yi,Vb3 S d k i o:=by
 cases o with
 |none=>simp[Vie]at h;exact⟨.i64,h.symm⟩
 |some y=>
  simp only[Zy]at h;unfold Vie at h
  split at h
  ·rename_i hh;simp at hh
  ·rename_i k i' hh;simp only[T]at hh h;subst h;exact⟨k,hh⟩
  ·simp at h
def Voa{s:SV}{b:Ze}(h:s.toAV=J (.val (.string b))):s=.av (.val (.string b)):=by
 cases s <;>simp_all[SV.toAV]
def Vpm{P:D}{o:L}{S:St}{t t2:Y}{x y:X}{r:Res}(ho:o.op=.call {callee:=.builtin .append,args:=#[x,y],argTypes:=#[t,t2]})(h:Vgf P o.dst t t2 (S.ev x) (S.ev y) S=J r):Sound P o S r:=by
 unfold Vgf at h
 split at h
 ·rename_i e d h1 h2
  split at h
  ·rename_i sz bt z h3
   split at h
   ·rename_i h4;obtain⟨h4,h5,h6⟩:=h4
    split at h
    ·rename_i l' h7;have src:∀ {G:Gh} {w:H} {a:Qr},Rel G w S a->Uni sz l'->∃ es',Src P w G.U sz (a.eval y) l' es':=by
      intro G w a hr hu;unfold aSrc at h7
      split at h7
      ·rename_i l hl;simp at h7;subst h7;exact src_sl ((hr.ev y).toAV hl) hu
      ·rename_i s hs
       split at h7
       ·rename_i h1;subst h1;simp at h7;subst h7;have:=hr.ev y;rw[Voa hs]at this;simp only[RepS,Rep]at this;rw[this.1];exact src_str s
       ·simp at h7
      ·simp at h7
     split at h
     ·rename_i k g sz' l hx
      split at h
      ·rename_i hsz;obtain⟨rfl,hke⟩:=hsz;simp only[T]at h;subst h;rintro⟨hgen,hu,hb⟩ G w a hr;obtain⟨es',hs⟩:=src hr hu;have hown:=hr.ev x;rw[hx]at hown;obtain⟨c,hc⟩:=Vb2 (P:=P) (a:=a) ho w;obtain⟨v,w',G',e1,e2,e3,e4,e5⟩:=Vnz (ty:=o.type) h1 h6 h3 h4 h5 hr hown hke hgen hs hu hb;exact⟨.value v,v,w',G',by rw[hc];simp[builtin,e1],.inl rfl,e2,e3,e4,λi _=>e5 i⟩
      ·simp at h
     ·rename_i b n hx
      split at h
      ·rename_i e' sz' l hbx
       split at h
       ·rename_i hc;obtain⟨rfl,rfl,hb1⟩:=hc;simp only[T]at h;subst h;rintro⟨hn,hu,hb⟩ G w a hr;obtain⟨es',hs⟩:=src hr hu;have hvs:=hr.ev x;rw[hx]at hvs;obtain⟨c,hc⟩:=Vb2 (P:=P) (a:=a) ho w;obtain⟨v,w',G',e1,e2,e3,e4,e5⟩:=append_vs (ty:=o.type) h1 h6 h3 h4 h5 hr hvs hbx hn hs hu hb;exact⟨.value v,v,w',G',by rw[hc];simp[builtin,e1],.inl rfl,e2,e3,e4,λi hi=>e5 i kv⟩
       ·simp at h
      ·simp at h
     ·rename_i l hx;simp only[T]at h;subst h;rintro⟨hu0,hu,hb⟩ G w a hr;obtain⟨es',hs⟩:=src hr hu;have hown:=hr.ev x;rw[hx]at hown;obtain⟨c,hc⟩:=Vb2 (P:=P) (a:=a) ho w;obtain⟨v,w',G',e1,e2,e3,e4,e5⟩:=append_clo (ty:=o.type) h1 h6 h3 h4 h5 hr hown hs hu0 hu hb;exact⟨.value v,v,w',G',by rw[hc];simp[builtin,e1],.inl rfl,e2,e3,e4,λi _=>e5 i⟩
     ·rename_i hx;simp only[T]at h;subst h;rintro⟨hu,hb⟩ G w a hr;obtain⟨es',hs⟩:=src hr hu;have hown:=hr.ev x;rw[hx]at hown;simp only[RepS]at hown;have hown':RepS G w (.own (d,e+1) (S.gen (d,e+1)) sz []) (a.eval x):=by
       rw[hown];exact⟨Nat.succ_pos _,by rw[hr.gn];exact Zk _,E,0,[],rfl,by simp[RepL],ku,ku,ku,ku,.inl (by simp[Va3]),λ_=>.inl ⟨rfl,.inl rfl⟩⟩
      obtain⟨c,hc⟩:=Vb2 (P:=P) (a:=a) ho w;obtain⟨v,w',G',e1,e2,e3,e4,e5⟩:=Vnz (ty:=o.type) h1 h6 h3 h4 h5 hr hown' rfl rfl hs hu (by simpa using hb);exact⟨.value v,v,w',G',by rw[hc];simp[builtin,e1],.inl rfl,e2,e3,by simpa using e4,λi _=>e5 i⟩
     ·simp at h
    ·simp at h
   ·simp at h
  ·simp at h
 ·simp at h
def sound_binB{P:D}{o:L}{S:St}{op:I6}{t t':Y}{x y:X}{a b:Xe}{r:Res}(ho:o.op=.binOp op t x y t')(hx:S.ev x=.av (.val (.bool a)))(hy:S.ev y=.av (.val (.bool b)))(h:aBinB P op t a b S=J r):Sound P o S r:=by
 unfold aBinB at h
 split at h
 ·rename_i hu;have key:∀(d:F)(w:H),(Xk (d+1) t (.bool a) (.bool b)).run P w=.ok (a==b) w:=λd w=>by
   simp[Xk,Va0 hu]
  split at h
  ·simp only[T]at h;subst h;refine Sound.still λ_ G w ac hr=>?_
   have h1:=hr.ev x;rw[hx]at h1;simp only[RepS,Rep]at h1;have h2:=hr.ev y;rw[hy]at h2;simp only[RepS,Rep]at h2;refine⟨.bool (a==b),?_,by simp only[RepS,Rep];exact⟨Yq,rfl⟩⟩;simp[execOp,ho,h1.1,h2.1,eqGuard,binOp,I3,Iu,key 9999]
  ·simp only[T]at h;subst h;refine Sound.still λ_ G w ac hr=>?_
   have h1:=hr.ev x;rw[hx]at h1;simp only[RepS,Rep]at h1;have h2:=hr.ev y;rw[hy]at h2;simp only[RepS,Rep]at h2;refine⟨.bool (a !=b),?_,by simp only[RepS,Rep];exact⟨Yq,rfl⟩⟩;simp[execOp,ho,h1.1,h2.1,eqGuard,binOp,I3,Iu,key 9999,bne]
  ·simp at h
 ·simp at h
def Vay{P:D}{o:L}{S:St}{r:Res}(h:Vb8 P o S=J r):Sound P o S r:=by
 unfold Vb8 at h
 split at h
 ·rename_i x ho;simp only[T]at h;subst h;exact Vcn (.inl ho)
 ·rename_i x ho;simp only[T]at h;subst h;exact Vcn (.inr ho)
 ·rename_i c x y ho;unfold aPick at h;split at h
  ·rename_i p hp;simp only[T]at h;subst h;exact Vn4 ho hp
  ·simp at h
 ·rename_i op t x y t' ho;unfold aBinS at h;split at h
  ·rename_i a b hx hy;exact sound_binB ho hx hy h
  ·rename_i u v _ hx hy;simp only[Za]at h;obtain⟨⟨p,q⟩,h1,rfl⟩:=h;exact Vfu ho hx hy h1
  ·rename_i l l' hx hy;exact sound_binA ho hx hy h
  ·simp at h
 ·rename_i op t x ho;unfold aUnS at h;split at h
  ·rename_i u hx;simp only[Za]at h;obtain⟨q,h1,rfl⟩:=h;exact sound_un ho hx h1
  ·simp at h
 ·rename_i x i ho;unfold Vfi at h;split at h
  ·rename_i l hx;simp only[Za]at h;obtain⟨q,h1,rfl⟩:=h;exact Vok ho hx h1
  ·rename_i l hx;simp only[Za]at h;obtain⟨q,h1,rfl⟩:=h;exact Vjw ho hx h1
  ·simp at h
 ·rename_i x ho;unfold Vdu at h;split at h
  ·rename_i b k hx;simp only[T]at h;subst h;exact Vhk ho hx
  ·rename_i l k hx;simp only[T]at h;subst h;exact Vio ho hx
  ·simp at h
 ·rename_i s x f ho;unfold Vjt at h;split at h
  ·rename_i off ft h1
   split at h
   ·rename_i sz _ _ h2
    split at h
    ·simp at h
    ·rename_i h0
     split at h
     ·rename_i b k hx;simp only[T]at h;subst h;exact Vh4 ho hx h1 h2 h0
     ·rename_i l k hx;simp only[T]at h;subst h;exact Vhp ho hx h1 h2 h0
     ·rename_i b s' i' k hx;simp only[T]at h;subst h;exact Vho ho hx h1 h2 h0
     ·simp at h
   ·simp at h
  ·simp at h
 ·rename_i t x ho;unfold Vjj at h;split at h
  ·rename_i h1
   split at h
   ·rename_i b k hx
    split at h
    ·rename_i ty l hb;simp only[Za]at h;obtain⟨q,h2,rfl⟩:=h;exact Vms ho hx h1 hb h2
    ·simp at h
   ·rename_i l k hx;simp only[Za]at h;obtain⟨q,h2,rfl⟩:=h;exact Voi ho hx h1 h2
   ·simp at h
  ·rename_i h1
   split at h
   ·rename_i sz _ _ h2
    split at h
    ·rename_i b k hx
     split at h
     ·rename_i ty l hb
      split at h
      ·split at h
       ·rename_i r' hr'
        split at h
        ·rename_i hsz;simp only[T]at h;subst h;exact Vir ho hx h1 h2 hb hr' hsz
        ·simp at h
       ·simp at h
      ·split at h
       ·rename_i r' hr'
        split at h
        ·rename_i hsz;simp only[T]at h;subst h;exact Vhn ho hx h1 h2 hb hr' hsz
        ·simp at h
       ·simp at h
     ·simp at h
    ·rename_i l k hx
     split at h
     ·rename_i hsz;simp only[T]at h;subst h;exact Viq ho hx h1 h2 hsz
     ·simp at h
    ·simp at h
   ·simp at h
  ·simp at h
 ·rename_i t x y ho;unfold Vs2 at h;split at h
  ·rename_i sz _ _ h1
   split at h
   ·rename_i b k hx
    split at h
    ·rename_i ty l xs hb hxs
     split at h
     ·rename_i hc;simp only[T]at h;subst h;exact Vkm ho hx h1 hb hxs hc.1 hc.2
     ·simp at h
    ·simp at h
   ·rename_i b s' i' k hx
    split at h
    ·rename_i e s2 l v hb hv
     split at h
     ·rename_i hc;subst hc;simp only[T]at h;subst h;exact Vmn ho hx h1 hv hb
     ·simp at h
    ·simp at h
   ·simp at h
  ·simp at h
 ·rename_i t ho;unfold Vs8 at h;split at h
  ·rename_i id _ _ z hd h1
   split at h
   ·rename_i hc;simp only[T]at h;subst h;exact Vku ho h1 hc.1 hc.2.1 hc.2.2
   ·simp at h
  ·simp at h
 ·rename_i t x ho;unfold aBox at h;split at h
  ·rename_i id xs hd hxs
   split at h
   ·rename_i hc;simp only[T]at h;subst h;exact sound_box ho hxs hc.1 hc.2.1 hc.2.2
   ·simp at h
  ·simp at h
 ·rename_i t parts ho;unfold Vs7 at h;split at h
  ·rename_i _ _ z pl ps h1 h2 h3
   split at h
   ·rename_i hc;simp only[Za]at h;obtain⟨q,h4,rfl⟩:=h;exact sound_build ho h1 hc h2 h3 h4
   ·simp at h
  ·simp at h
 ·rename_i t n parts ho;unfold Vc7 at h;split at h
  ·rename_i e h1
   split at h
   ·rename_i sz bt z ps h2 h3
    split at h
    ·rename_i hc;simp only[T]at h;subst h;intro hu
     split
     ·exact Vgt ho h1 h2 hc.1 h3 hu hc.2 Yq
     ·exact Vjx ho h1 h2 hc.1 h3 hu hc.2 Yq
    ·simp at h
   ·simp at h
  ·simp at h
 ·rename_i t x i ho;unfold Veo at h;split at h
  ·rename_i b n _ i' e hx hi he
   split at h
   ·rename_i sz _ _ h2;simp only[T]at h;subst h;exact Vdz ho hx hi he h2
   ·simp at h
  ·rename_i b sz' q n _ i' e hx hi he
   split at h
   ·rename_i sz _ _ h2
    split at h
    ·rename_i hs;subst hs;simp only[T]at h;subst h;exact Vdy ho hx hi he h2
    ·simp at h
   ·simp at h
  ·split at h
   ·rename_i e h1
    split at h
    ·rename_i sz _ _ l _ i' h2 h3 h4
     split at h
     ·rename_i h0;simp only[T]at h;subst h;exact Vft ho h3 h4 h1 h2 h0
     ·simp at h
    ·simp at h
   ·split at h
    ·rename_i hx hi hta
     split at h
     ·rename_i hti;simp only[T]at h;subst h;exact Vdh ho hx hi hta hti
     ·simp at h
    ·simp at h
 ·rename_i t x i ho;unfold Vs6 at h;split at h
  ·rename_i s _ i' h1 h2
   split at h
   ·rename_i h0;simp only[T]at h;subst h;exact sound_index ho h1 h2 h0
   ·simp at h
  ·rename_i l _ i' h1 h2
   split at h
   ·rename_i n e h3
    split at h
    ·rename_i sz bt zz ag h4 h5;simp only[T]at h;subst h;exact Vkt ho h1 h2 h3 h4 h5
    ·simp at h
   ·simp at h
  ·simp at h
 ·rename_i t x lo hi ho;unfold Vs3 at h;split at h
  ·rename_i b n hx
   split at h
   ·rename_i e he
    split at h
    ·rename_i sz _ _ i j h0 h1 h2;obtain⟨k,hk⟩:=Vcc h1;obtain⟨k',hk'⟩:=Vcc h2;cases lo with
     |none=>simp only[Option.map_none,T]at h;subst h;exact Vmp ho hx hk hk' he h0
     |some y'=>simp only[Zy,T]at h;subst h;exact Vmo ho hx hk hk' he h0
    ·simp at h
   ·simp at h
  split at h
  ·rename_i s hx
   split at h
   ·rename_i i j h1 h2
    split at h
    ·rename_i h0;simp only[T]at h;subst h;obtain⟨k,hk⟩:=Vcc h1;obtain⟨k',hk'⟩:=Vcc h2;exact Vkn ho (Voa hx) hk hk' h0
    ·simp at h
   ·simp at h
  ·rename_i l hx
   split at h
   ·rename_i e he
    split at h
    ·rename_i sz _ _ i j h0 h1 h2;simp only[T]at h;subst h;obtain⟨k,hk⟩:=Vcc h1;obtain⟨k',hk'⟩:=Vcc h2;exact Vmq ho hx hk hk' he h0
    ·simp at h
   ·simp at h
  ·simp at h
 ·rename_i fn first captured ho
  unfold Vma at h;split at h
  ·rename_i f fs cs h1 h2;simp only[T]at h;subst h;rw[allPV_eq]at h1 h2;exact Vmr ho h1 h2
  ·simp at h
 ·rename_i b args tys ho;unfold Ve5 at h;split at h
  ·rename_i x t hx ht;have e1:=arr1 hx;have e2:=arr1 ht;subst e1 e2;unfold aLen at h;split at h
   ·rename_i b n hx
    split at h
    ·rename_i h0;simp only[T]at h;subst h;exact Vq7 ho hx h0
    ·simp at h
   ·rename_i b sz q n hx
    split at h
    ·rename_i h0;simp only[T]at h;subst h;exact Vq6 ho hx h0
    ·simp at h
   split at h
   ·rename_i s hs
    split at h
    ·rename_i h0;simp only[T]at h;subst h;exact Voj ho (Voa hs) h0
    ·simp at h
   ·rename_i l hl
    split at h
    ·rename_i h0;simp only[T]at h;subst h;exact Vq8 ho hl h0
    ·simp at h
   ·simp at h
  ·rename_i x y t t2 hx ht;have e1:=arr2 hx;have e2:=arr2 ht;subst e1 e2;exact Vpm ho h
  ·rename_i x y hx;have e1:=arr2 hx;subst e1
   split at h
   ·rename_i k i k' j h1 h2
    split at h
    ·rename_i hk;subst hk;simp only[T]at h;subst h;exact sound_max ho h1 h2
    ·simp at h
   ·simp at h
  ·rename_i x y z hx;have e1:=arr3 hx;subst e1
   split at h
   ·rename_i k i k' j k'' l h1 h2 h3
    split at h
    ·rename_i hk;obtain⟨rfl,rfl⟩:=hk;simp only[T]at h;subst h;exact sound_max3 ho h1 h2 h3
    ·simp at h
   ·simp at h
  ·rename_i x y hx;have e1:=arr2 hx;subst e1
   split at h
   ·rename_i k i k' j h1 h2
    split at h
    ·rename_i hk;subst hk;simp only[T]at h;subst h;exact sound_min ho h1 h2
    ·simp at h
   ·simp at h
  ·rename_i x t hx ht;have e1:=arr1 hx;have e2:=arr1 ht;subst e1 e2
   split at h
   ·rename_i b ke h1 h2
    split at h
    ·rename_i ks vs h3;simp only[T]at h;subst h;exact sound_clear (k:=ke.1) (e:=ke.2) ho h1 h2 h3
    ·simp at h
   ·simp at h
  ·simp at h
 ·rename_i t r ho;unfold aMakeMap at h;split at h
  ·rename_i id ke hd h1
   split at h
   ·rename_i hc;simp only[T]at h;subst h;refine Vey ho (k:=ke.1) (e:=ke.2) h1 (λx hx=>?_) hc.1 hc.2.1;subst hx;have h3:=hc.2.2;simp only[Zy,Option.all_some]at h3;unfold isInt at h3;split at h3
    ·rename_i kd n hn;exact⟨kd,n,hn⟩
    ·simp at h3
   ·simp at h
  ·simp at h
 ·rename_i t x i ok ho;unfold Vfh at h;split at h
  ·rename_i k e h1
   split at h
   ·rename_i _ _ z s h2 h3
    split at h
    ·rename_i hk
     split at h
     ·rename_i za hza
      split at h
      ·rename_i b hx
       split at h
       ·rename_i ks vs hb;simp only[T]at h;subst h;exact Vkr ho hx h3 h1 hk h2 hza hb
       ·simp at h
      ·rename_i ks vs hx;simp only[T]at h;subst h;exact Vkp ho hx h3 h1 hk h2 hza
      ·rename_i hx;simp only[T]at h;subst h;exact Vkq ho hx h3 h1 hk h2 hza
      ·simp at h
     ·simp at h
    ·simp at h
   ·simp at h
  ·simp at h
 ·rename_i t x i y ho;unfold Ven at h;split at h
  ·rename_i k e h1
   split at h
   ·rename_i hk
    split at h
    ·rename_i b s v hx hi hy
     split at h
     ·rename_i ks vs hb;simp only[T]at h;subst h;exact Vko ho hx hi hy h1 hk hb
     ·simp at h
    ·simp at h
   ·simp at h
  ·simp at h
 ·rename_i src dst x ho;unfold Vid at h;split at h
  ·rename_i k0 k h1 h2
   split at h
   ·rename_i k' n hx;simp only[T]at h;subst h;exact Vis ho h1 h2 hx
   ·simp at h
  ·rename_i k0 h1 h2
   split at h
   ·rename_i k' n hx;simp only[T]at h;subst h;exact Vhq ho h1 h2 hx
   ·simp at h
  ·rename_i e h1 h2
   split at h
   ·rename_i l h3 hx;simp only[T]at h;subst h;exact Vh5 ho h1 h2 h3 hx
   ·simp at h
  ·simp at h
 ·rename_i t x y ho;unfold aMake at h;split at h
  ·rename_i e k i k' j h1 h2 h3
   split at h
   ·rename_i bt z h4
    split at h
    ·rename_i hc;obtain⟨hc1,rfl⟩:=hc;simp only[T]at h;subst h;exact Vq5 ho h2 h3 h1 h4 hc1
    ·simp at h
   ·simp at h
  ·simp at h
 ·simp at h
end
section
def lift(Q:Y7->St->Prop)(G:Gh)(w:H):Y7->Qr->H->Prop:=
 λe a' w'=>∃ S' G',Q e S'/\Step G w G' w'/\Rel G' w' S' a'/\∀ i,Fx i->G'.ow (i,0)=G.ow (i,0)
def W(P:D)(c:Jh)(Q:Y7->St->Prop)(S:St):Prop:=
 ∀(G:Gh)(w:H)(a:Qr),Rel G w S a->c.wp P (lift Q G w) a w
def Vq1(K:St->Prop)(Q:Y7->St->Prop):Y7->St->Prop
 | .normal,S=>K S
 |e,S=>Q e S
def Vgz(id:F)(Q:Y7->St->Prop):Y7->St->Prop
 | .exit id',S=>if id'=id then Q .normal S else Q (.exit id') S
 |e,S=>Q e S
def Weak(S S':St):Prop:=∀ G w a,Rel G w S a->Rel G w S' a
section
variable {P:D}
def Vcs{Q:Y7->St->Prop}{G G':Gh}{w w':H}(h:Step G w G' w')(ho:∀ i,Fx i->G'.ow (i,0)=G.ow (i,0)){e:Y7}{a:Qr}{w'':H}(hl:lift Q G' w' e a w''):lift Q G w e a w'':=by
 obtain⟨S',G'',h1,h2,h3,h4⟩:=hl;exact⟨S',G'',h1,h.trans h2,h3,λi hi=>(h4 i hi).trans (ho i hi)⟩
def Vhy{Q:Y7->St->Prop}{G:Gh}{w:H}{e:Y7}{S:St}{a:Qr}(h:Q e S)(hr:Rel G w S a):lift Q G w e a w:=
 ⟨S,G,h,Step.refl G w,hr,λ_ _=>rfl⟩
def Vgg{c:Jh}{Q Q':Y7->St->Prop}{S:St}(h:W P c Q S)(hq:∀ e S,Q e S->Q' e S):W P c Q' S:=
 λG w a hr=>Xu (λe a w ⟨S',G',h1,h2⟩=>⟨S',G',hq _ _ h1,h2⟩) (h G w a hr)
def Vaj{c:Jh}{Q:Y7->St->Prop}{S S':St}(hw:Weak S S')(h:W P c Q S'):W P c Q S:=
 λG w a hr=>h G w a (hw G w a hr)
def W_skip{Q:Y7->St->Prop}{S:St}(h:Q .normal S):W P .skip Q S:=λ_ _ _ hr=>wp_skip (Vhy h hr)
def W_label{l:F}{Q:Y7->St->Prop}{S:St}(h:Q .normal S):W P (.label l) Q S:=λ_ _ _ hr=>wp_label (Vhy h hr)
def W_exit{id:F}{Q:Y7->St->Prop}{S:St}(h:Q (.exit id) S):W P (.exit id) Q S:=λ_ _ _ hr=>wp_exit (Vhy h hr)
def W_ret{Q:Y7->St->Prop}{S:St}(h:Q .ret S):W P .ret Q S:=λ_ _ _ hr=>wp_ret (Vhy h hr)
def Vpn{x y:Jh}{Q:Y7->St->Prop}{S:St}(h:W P x (Vq1 (W P y Q) Q) S):W P (.seq x y) Q S:=by
 intro G w a hr;refine wp_seq (Xu (λe a' w' hl=>?_) (h G w a hr));obtain⟨S',G',h1,h2,h3,h4⟩:=hl;cases e with
 |normal=>exact Xu (λe a w hl=>Vcs h2 h4 hl) (h1 G' w' a' h3)
 |exit id=>exact⟨S',G',h1,h2,h3,h4⟩
 |goto l=>exact⟨S',G',h1,h2,h3,h4⟩
 |ret=>exact⟨S',G',h1,h2,h3,h4⟩
 |panic c=>exact⟨S',G',h1,h2,h3,h4⟩
 |outgrown=>exact⟨S',G',h1,h2,h3,h4⟩
def W_cond{c:X}{x y:Jh}{Q:Y7->St->Prop}{S:St}{b:Xe}(hc:S.ev c=.av (.val (.bool b)))(h:if b then W P x Q S else W P y Q S):W P (.cond c x y) Q S:=by
 intro G w a hr;have h1:=hr.ev c;rw[hc]at h1;simp only[RepS,Rep]at h1;refine wp_cond h1.1 ?_;cases b
 ·exact h G w a hr
 ·exact h G w a hr
def Vpo{id:F}{c:Jh}{Q:Y7->St->Prop}{S:St}(h:W P c (Vgz id Q) S):W P (.block id c) Q S:=by
 intro G w a hr;refine wp_block (Xu (λe a' w' hl=>?_) (h G w a hr));obtain⟨S',G',h1,h2⟩:=hl;cases e with
 |exit id'=>
  simp only[Exit.inBlock,Vgz]at h1 ⊢
  split
  ·rename_i hid;rw[Qo hid]at h1;exact⟨S',G',h1,h2⟩
  ·rename_i hid;rw[Yb hid]at h1;exact⟨S',G',h1,h2⟩
 |normal=>exact⟨S',G',h1,h2⟩
 |goto l=>exact⟨S',G',h1,h2⟩
 |ret=>exact⟨S',G',h1,h2⟩
 |panic c=>exact⟨S',G',h1,h2⟩
 |outgrown=>exact⟨S',G',h1,h2⟩
def wp_loop_idx{c:Jh}{Q:Y7->Qr->H->Prop}{a:Qr}{w:H}(I:F->Qr->H->Prop){n:F}(h₀:I n a w)
  (round:∀ n a w,I n a w->c.wp P (Exit.then (λa' w'=>∃ m,m<n/\I m a' w') Q) a w):(Code.loop c).wp P Q a w:=by
 intro b k cs;have key:∀ n a w,I n a w->∃ e a' w',Q e a' w'/\Arrives P (lone (b.at a (.code c:: .inLoop c::k)) cs w) b k cs e a' w':=by
  intro n
  induction n using Nat.strongRecOn with
  | _ n ih=>
   intro a w hI;obtain⟨e,a₁,w₁,hq,harr⟩:=round n a w hI b (.inLoop c::k) cs;cases e with
   |normal=>
    obtain⟨m,hlt,hI₁⟩:=hq;obtain⟨e₂,a₂,w₂,hq₂,harr₂⟩:=ih m hlt a₁ w₁ hI₁;exact⟨e₂,a₂,w₂,hq₂,.of_steps (Steps.trans harr (.one step_inLoop)) harr₂⟩
   |exit id=>exact⟨_,a₁,w₁,hq,.pass (x:=.inLoop c) rfl (λ_ _=>.inl ku) harr⟩
   |goto l=>exact⟨_,a₁,w₁,hq,.pass (x:=.inLoop c) rfl (λ_ _=>.inl ku) harr⟩
   |ret=>exact⟨_,a₁,w₁,hq,.pass (x:=.inLoop c) rfl (λ_ _=>.inl ku) harr⟩
   |panic ch=>exact⟨_,a₁,w₁,hq,.pass (x:=.inLoop c) rfl (λ_ _=>.inl ku) harr⟩
   |outgrown=>exact⟨_,a₁,w₁,hq,.pass (x:=.inLoop c) rfl (λ_ _=>.inl ku) harr⟩
 obtain⟨e,a',w',hq,harr⟩:=key n a w h₀;exact⟨e,a',w',hq,.of_steps (.one step_loop) harr⟩
def W_loop{c:Jh}{Q:Y7->St->Prop}{S:St}(I:F->St->Prop){n:F}{S0:St}(hw:Weak S S0)(h0:I n S0)
  (round:∀ n S,I n S->W P c (Vq1 (λS'=>∃ m S'',m<n/\Weak S' S''/\I m S'') Q) S):W P (.loop c) Q S:=by
 intro G w a hr;refine wp_loop_idx (λn a' w'=>∃ S' G',I n S'/\Step G w G' w'/\Rel G' w' S' a'/\∀ i,Fx i->G'.ow (i,0)=G.ow (i,0)) (n:=n) ⟨S0,G,h0,Step.refl G w,hw G w a hr,λ_ _=>rfl⟩ ?_;rintro n a' w' ⟨S',G',h1,h2,h3,h4⟩;refine Xu (λe a'' w'' hl=>?_) (round n S' h1 G' w' a' h3);obtain⟨S2,G2,g1,g2,g3,g4⟩:=hl;cases e with
 |normal=>
  obtain⟨m,S3,hm,hwk,hI⟩:=g1;exact⟨m,hm,S3,G2,hI,h2.trans g2,hwk G2 w'' a'' g3,λi hi=>(g4 i hi).trans (h4 i hi)⟩
 |exit id=>exact Vcs h2 h4 ⟨S2,G2,g1,g2,g3,g4⟩
 |goto l=>exact Vcs h2 h4 ⟨S2,G2,g1,g2,g3,g4⟩
 |ret=>exact Vcs h2 h4 ⟨S2,G2,g1,g2,g3,g4⟩
 |panic ch=>exact Vcs h2 h4 ⟨S2,G2,g1,g2,g3,g4⟩
 |outgrown=>exact Vcs h2 h4 ⟨S2,G2,g1,g2,g3,g4⟩
def Vij (P : Program) (f : FuncId) : Prop := ∃ fn, P.funcs[f]? = some fn /\ fn.body.isSome = true /\ (fn.name == "runtime.NumGoroutine") = false
def Vbb:C (F×ABox)->C F
 |[]=>[]
 |(i,.vec _ _ _)::l=>i::Vbb l
 |_::l=>Vbb l
def ABox.unK:ABox->ABox
 | .vck e sz l=>.vec e sz l
 |x=>x
def unK_rep{G:Gh}{w:H}{id:F}{x:ABox}(h:RepB G w id x):RepB G w id x.unK:=by cases x <;>exact h
def SV.forgetL(ids:C F)(s:SV):SV:=match ids.any (λi=>s.names i)with
 |true=>.junk
 |false=>s
def ABox.forgetL(ids:C F):ABox->ABox
 | .cells t l=>.cells t (l.map (SV.forgetL ids))
 | .mi ks l=>.mi ks (l.map (SV.forgetL ids))
 |x=>x
def Vlp{G:Gh}{w:H}{ids:C F}{s:SV}{u:B}(h:RepS G w s u):RepS G w (s.forgetL ids) u:=by
 unfold SV.forgetL;split
 ·trivial
 ·exact h
def Vg6{G:Gh}{w:H}{ids:C F}:∀ {l:C SV} {us:C B},RepSs G w l us->RepSs G w (l.map (SV.forgetL ids)) us
 |[],_,h=>h
 |s::l,us,h=>by obtain⟨u,us',e,h1,h2⟩:=h;exact⟨u,us',e,Vlp h1,Vg6 h2⟩
def forgetL_box{G:Gh}{w:H}{ids:C F}{id:F}{x:ABox}(h:RepB G w id x):RepB G w id (x.forgetL ids):=by
 cases x with
 |cells t l=>obtain⟨blk,arr,h1,h2,h3,h4,h5⟩:=h;exact⟨blk,arr,h1,h2,h3,Vg6 h4,h5⟩
 |mi ks l=>obtain⟨blk,ents,clock,h1,h2,h3,h4,h5,h6⟩:=h;exact⟨blk,ents,clock,h1,h2,h3,h4,Vg6 h5,h6⟩
 |_=>exact h
def Vg7{ids:C F}{s:SV}:∀ κ∈(s.forgetL ids).keys,κ.1 ∉ ids:=by
 intro κ hκ hi;unfold SV.forgetL at hκ
 split at hκ
 ·simp[SV.keys]at hκ
 ·rename_i h;rw[Zs]at h;have h1:=h κ.1 hi;simp only[Bool.not_eq_true]at h1;exact Vc6 h1 κ hκ rfl
def Va1(P:D)(f:FuncId)(args:C SV)(bx:C (F×ABox))(gn:C (Key×F))(res:SV)(bx':C (F×ABox))(gn':C (Key×F)):Prop:=
 Vij P f/\∀(G:Gh)(w:H)(vs:C B),Wf G w->RepSs G w args vs->(∀p∈bx,RepB G w p.1 p.2)->(∀p∈gn,G.gen p.1=p.2)->
  Calls P f vs.toArray w (λe w'=>∃ v G',e=.returned v/\Step G w G' w'/\Wf G' w'/\RepS G' w' res v/\(∀p∈bx',RepB G' w' p.1 p.2)/\
   (∀i:F,i ∉ bx'.map (·.1)->Keep G w G' w' (i,0))/\(∀i,i ∉ Vbb bx'->G'.ow (i,0)=G.ow (i,0))/\∀ κ:Key,G'.gen κ=(gn'.lookup κ).getD (G.gen κ))
def St.upd(S:St)(bx':C (F×ABox))(gn':C (Key×F)):St:=
 match Vbb bx' with
 |[]=>{S with bx:=S.bx.map (λp=>match bx'.lookup p.1 with|some x=>(p.1,x.unK)|none=>p),gn:=gn'++gn'.foldl (λl p=>Vg8 p.1 l) S.gn}
 |v::vs=>{fr:=S.fr.map (SV.forgetL (v::vs)),bx:=S.bx.map (λp=>match bx'.lookup p.1 with|some x=>(p.1,x.unK)|none=>(p.1,p.2.forgetL (v::vs))),gn:=gn'++gn'.foldl (λl p=>Vg8 p.1 l) S.gn}
def Vh1{S:St}{bx':C (F×ABox)}{gn':C (Key×F)}(h:Vbb bx'=[]):S.upd bx' gn'={S with bx:=S.bx.map (λp=>match bx'.lookup p.1 with|some x=>(p.1,x.unK)|none=>p),gn:=gn'++gn'.foldl (λl p=>Vg8 p.1 l) S.gn}:=by
 unfold St.upd;rw[h]
def SV.normK(keep:Xe)(s:SV):SV:=match keep with
 |true=>s
 |false=>s.norm
def RepS.normK{G:Gh}{w:H}{s:SV}{u:B}(keep:Xe)(h:RepS G w s u):RepS G w (s.normK keep) u:=by
 cases keep
 ·exact h.norm
 ·exact h
def Vfd(S:St)(fs:C PV)(args:C X)(cs:C PV)(keep:Xe):C SV:=
 fs.map PV.toSV++(args.map (λx=>(S.ev x).normK keep)++cs.map PV.toSV)
inductive Or where
 |b (d:Xe)
 |e (x:AV)
 |n (m:Qb)
 |c (res:SV) (bx':C (F×ABox)) (gn gn':C (Key×F))
def gnOk(S:St):C (Key×F)->Prop
 |[]=>O
 |(k,g)::r=>S.gen k=g/\gnOk S r
def gnOk_get{S:St}:∀ {l:C (Key×F)},gnOk S l->∀ p∈l,S.gen p.1=p.2
 |[],_,p,hp=>by simp at hp
 |(k,g)::r,h,p,hp=>by
  simp only[Ys]at hp;rcases hp with rfl|hp
  ·exact h.1
  ·exact gnOk_get h.2 p hp
def Vbg(P:D)(o:L)(ors:C Or)(S:St):R (C Prop×C Or×SV):=
 match o.op,ors with
 | .load t x,.e y::ors=>match S.ev x with
  | .vp b s i k=>match S.bx.lookup b,tAgg P t,Van P t with
   |some (.vec _ s' l),J A,_=>if s'=s/\k<y.cells.length/\y.isTup=A then J ([0<=i/\l[i.toNat]? =J y],ors,.av (y.cells.getD k (.val Z7)))else E
   |some (.vec _ s' l),J V,J (n,_,_)=>if s'=s/\k+n<=y.cells.length/\y.isTup=A then J ([0<=i/\l[i.toNat]? =J y],ors,.av (.agg ((y.cells.drop k).take n)))else E
   |_,_,_=>E
  |_=>E
 | .indexAddr t x i,ors=>match S.ev x,S.ev i,Vbe P t with
  | .vs b n,.av (.val (.int _ i)),J e=>match Van P e with
   |some (sz,_,_)=>J ([0<=i/\i<n],ors,.vp b sz i 0)
   |none=>E
  | .vw b sz' q n,.av (.val (.int _ i)),J e=>match Van P e with
   |some (sz,_,_)=>if sz'=sz then J ([0<=i/\i<n],ors,.vp b sz ((q:F)+i) 0)else E
   |none=>E
  |_,_,_=>E
 |_,_=>E
def Vo7{P:D}{o:L}{ors ors':C Or}{S:St}{cs:C Prop}{v:SV}(h:Vbg P o ors S=J (cs,ors',v)):∃ p,cs=[p]/\Sound P o S ⟨p,v,S⟩:=by
 have some_at:∀ {l:C AV} {i:Qb} {y:AV},0<=i/\l[i.toNat]? =J y->i<l.length/\l.getD i.toNat (.val Z7)=y:=by
  intro l i y ⟨h0,h1⟩;have hlt:i.toNat<l.length:=by
   rcases Z2 i.toNat l.length with q|q
   ·exact q
   ·rw[Zj q]at h1;cases h1
  exact⟨kv,by simp[Qu,h1]⟩
 unfold Vbg at h
 split at h
 ·rename_i t x y ors2 ho
  split at h
  ·rename_i b s i k hx
   split at h
   ·rename_i e s' l hb ht
    split at h
    ·rename_i hc;obtain⟨rfl,hc⟩:=hc;simp only[T,Zc]at h;obtain⟨rfl,_,rfl⟩:=h;refine⟨_,rfl,λhp=>?_⟩;obtain⟨h1,h2⟩:=some_at hp;have:=Voh ho hx ht hb;rw[h2]at this;exact this ⟨hp.1,h1,hc.1,hc.2⟩
    ·simp at h
   ·rename_i e s' l n _ _ hb ht hti
    split at h
    ·rename_i hc;obtain⟨rfl,hc⟩:=hc;simp only[T,Zc]at h;obtain⟨rfl,_,rfl⟩:=h;refine⟨_,rfl,λhp=>?_⟩;obtain⟨h1,h2⟩:=some_at hp;have:=Vip ho hx ht hti hb;rw[h2]at this;exact this ⟨hp.1,h1,hc.1,hc.2⟩
    ·simp at h
   ·simp at h
  ·simp at h
 ·rename_i t x i ors2 ho
  split at h
  ·rename_i b n _ i' e hx hi he
   split at h
   ·rename_i sz _ _ h2;simp only[T,Zc]at h;obtain⟨rfl,_,rfl⟩:=h;exact⟨_,rfl,Vdz ho hx hi he h2⟩
   ·simp at h
  ·rename_i b sz' q n _ i' e hx hi he
   split at h
   ·rename_i sz _ _ h2
    split at h
    ·rename_i hs;subst hs;simp only[T,Zc]at h;obtain⟨rfl,_,rfl⟩:=h;exact⟨_,rfl,Vdy ho hx hi he h2⟩
    ·simp at h
   ·simp at h
  ·simp at h
 ·simp at h
def Vhs(P:D)(o:L)(ors:C Or)(S:St):R (C Prop×C Or×St):=
 match o.op with
 | .pick c x y=>match S.ev c,ors with
  | .av (.val (.bool p)),.b d::ors=>J ([p=d],ors,S.put o.dst (match d with|true=>S.ev x|false=>S.ev y))
  |_,_=>E
 | .binOp .add _ x y _=>match S.ev x,S.ev y,ors with
  | .av (.val (.int k i)),.av (.val (.int k' j)),.n m::ors=>if k=k' then J ([k.wrap (i+j)=m],ors,S.put o.dst (.av (.val (.int k m))))else E
  | .av (.val (.string a)),.av (.val (.string b)),ors=>J ([((a.size+b.size:F):Qb)<=IntKind.i64.max],ors,S.put o.dst (.av (.val (.string (a++b)))))
  |_,_,_=>E
 | .binOp .sub _ x y _=>match S.ev x,S.ev y,ors with
  | .av (.val (.int k i)),.av (.val (.int k' j)),.n m::ors=>if k=k' then J ([k.wrap (i-j)=m],ors,S.put o.dst (.av (.val (.int k m))))else E
  |_,_,_=>E
 | .binOp .mul _ x y _=>match S.ev x,S.ev y,ors with
  | .av (.val (.int k i)),.av (.val (.int k' j)),.n m::ors=>if k=k' then J ([k.wrap (i*j)=m],ors,S.put o.dst (.av (.val (.int k m))))else E
  |_,_,_=>E
 | .indexAddr t x i=>match Vbe P t with
  |some e=>match Van P e,(S.ev x).toAV,S.ev i,ors with
   |some (sz,_,_),J (.sl l),.av (.val (.int _ i)),.e y::ors=>if 0<sz/\y.cells.length=sz/\y.isTup=A then J ([0<=i/\l[i.toNat]? =J y],ors,S.put o.dst (.av (.ro y.cells 0)))else E
   |_,_,_,_=>E
  | none=>match S.ev x,S.ev i,tArr P t with
   | .ptr b k,.av (.val (.int _ i)),J (n,e)=>match Van P e with
    |some (sz,_,_)=>J ([0<=i/\i<n],ors,S.put o.dst (.ptr b (k+i.toNat*sz)))
    |none=>E
   |_,_,_=>E
 | .call {callee:=.value x,args,argTypes:=_}=>match S.ev x,ors with
  | .fn f fs cs,.c res bx' gn gn'::ors=>match(Vbb bx').all (λi=>decide (i<1000)||decide (2000<=i))with
   |true=>J ([Va1 P f (Vfd S fs args.toList cs (!gn.isEmpty)) (S.bx.filter (λp=>(bx'.map (·.1)).contains p.1)) gn res bx' gn',gnOk S gn],ors,(S.upd bx' gn').put o.dst res)
   |false=>E
  |_,_=>E
 | .lookup _ _ _ _=>match Vb8 P o S,ors with
  |some ⟨ok,.av v,st⟩,.e y::ors=>J ([ok,v=y],ors,st.put o.dst (.av y))
  |_,_=>E
 |_=>match Vb8 P o S with
  |some r=>J ([r.ok],ors,r.st.put o.dst r.v)
  |none=>E
def Vgp(P:D)(o:L)(ors:C Or)(S:St):R (C Prop×C Or×St):=
 match Vbg P o ors S with
 |some (c,ors',v)=>J (c,ors',S.put o.dst v)
 |none=>Vhs P o ors S
def Vdq(ds:C (R Tmp))(S:St)(j:F):R SV:=
 match(ds[j]?).join with
 |some t=>S.fr[t]?
 |none=>E
def Vdi(P:D)(ds:C (R Tmp)):C L->C Or->St->R (C Prop×C Or×St)
 |[],ors,S=>J ([],ors,S)
 | o::rest,ors,S=>match o.guard with
  | none=>match Vgp P o ors S with
   |some (c1,ors1,S1)=>match Vdi P ds rest ors1 S1 with
    |some (c2,r)=>J (c1++c2,r)
    |none=>E
   |none=>E
  | some (j,want)=>match Vdq ds S j with
   |some (.av (.tup []))=>Vdi P ds rest ors (S.put o.dst Vav)
   | some (.av (.val (.bool b)))=>match ors with
    | .b d::ors=>if d=want then match Vgp P o ors S with
      |some (c1,ors1,S1)=>match Vdi P ds rest ors1 S1 with
       |some (c2,r)=>J ((b=d)::(c1++c2),r)
       |none=>E
      |none=>E
     else match Vdi P ds rest ors (S.put o.dst Vav)with
      |some (c2,r)=>J ((b=d)::c2,r)
      |none=>E
    |_=>E
   |_=>E
def run(P:D):Jh->C Or->St->R (C Prop×C Or×Y7×St)
 | .skip,ors,S=>J ([],ors,.normal,S)
 | .label _,ors,S=>J ([],ors,.normal,S)
 | .exit id,ors,S=>J ([],ors,.exit id,S)
 | .ret,ors,S=>J ([],ors,.ret,S)
 | .region _ ops A,ors,S=>match Vdi P (ops.toList.map (·.dst)) ops.toList ors S with
  |some (c,ors,S)=>J (c,ors,.normal,S)
  |none=>E
 | .seq x y,ors,S=>match run P x ors S with
  |some (c1,ors1,.normal,S1)=>match run P y ors1 S1 with
   |some (c2,r)=>J (c1++c2,r)
   |none=>E
  |some r=>J r
  |none=>E
 | .cond c x y,ors,S=>match S.ev c,ors with
  | .av (.val (.bool b)),.b d::ors=>match(match d with|true=>run P x ors S|false=>run P y ors S)with
   |some (c2,r)=>J ((b=d)::c2,r)
   |none=>E
  |_,_=>E
 | .block id c,ors,S=>match run P c ors S with
  |some (c1,ors1,.exit id',S1)=>if id'=id then J (c1,ors1,.normal,S1)else J (c1,ors1,.exit id',S1)
  |r=>r
 |_,_,_=>E
def All:C Prop->Prop
 |[]=>O
 |p::l=>p/\All l
def Vba{a b:C Prop}(h:All (a++b)):All a/\All b:=by
 induction a with
 |nil=>exact⟨Yq,h⟩
 |cons p a ih=>obtain⟨h1,h2⟩:=h;obtain⟨h3,h4⟩:=ih h2;exact⟨⟨h1,h3⟩,h4⟩
def Rel_upd{G G':Gh}{w w':H}{S:St}{a:Qr}{bx':C (F×ABox)}{gn':C (Key×F)}(h:Rel G w S a)(he:Ext G w G' w')(hw:Wf G' w')(hk:∀ i:F,i ∉ bx'.map (·.1)->Keep G w G' w' (i,0))(ho:∀ i,i ∉ Vbb bx'->G'.ow (i,0)=G.ow (i,0))
  (hg:∀ κ:Key,G'.gen κ=(gn'.lookup κ).getD (G.gen κ)) (hb:∀ p∈bx',RepB G' w' p.1 p.2):Rel G' w' (S.upd bx' gn') a:=by
 have hkey:∀(s:SV) κ,κ∈s.keys->κ.1 ∉ Vbb bx'->G'.ow κ=G.ow κ:=by
  intro s κ hκ hn;have:=s.keys_zero κ hκ;obtain⟨i,j⟩:=κ;simp only at this hn;subst this;exact ho i hn
 have hgen:∀ κ:Key,G'.gen κ=((gn'++gn'.foldl (λl p=>Vg8 p.1 l) S.gn).lookup κ).getD 0:=by
  intro κ;rw[hg κ];simp only[List.lookup_append];cases hl:gn'.lookup κ with
  | none=>
   simp only[Option.getD_none,Option.none_or];rw[h.gn κ];have:∀(g l:C (Key×F)),g.lookup κ=E->(g.foldl (λl p=>Vg8 p.1 l) l).lookup κ=l.lookup κ:=by
    intro g
    induction g with
    |nil=>intro l _;rfl
    |cons p g ih=>
     intro l hg;rw[Yv]at hg;have hp:=hg p ku;simp only[Xj];rw[ih _ (by rw[Yv];exact λq hq=>hg q (by simp[hq])),Vgw (by simpa using hp)]
   rw[this _ _ hl];rfl
  |some g=>simp
 have hnot:∀ q:F×ABox,bx'.lookup q.1=E->q.1 ∉ bx'.map (·.1):=by
  intro q hx hm;simp only[Zv]at hm;obtain⟨r,hr,hr1⟩:=hm;rw[Yv]at hx;have:=hx r hr;simp at this;exact this hr1.symm
 unfold St.upd
 split
 ·rename_i hv;have hkey:∀(s:SV) κ,κ∈s.keys->G'.ow κ=G.ow κ:=λs κ hκ=>hkey s κ hκ (by rw[hv];simp)
  refine⟨hw,h.size,λt s ht=>(h.fr t s ht).persist he (hkey s),λp hp=>?_,hgen,h.defers.trans he.df.symm⟩;simp only[Zv]at hp;obtain⟨q,hq,rfl⟩:=hp
  split
  ·rename_i x hx;exact unK_rep (hb _ (Vag hx))
  ·rename_i hx;exact(h.bx q hq).persist he (hk _ (hnot q hx)) (λκ hκ=>by simp only[Z6]at hκ;obtain⟨s,_,hs⟩:=hκ;exact hkey s κ hs)
 ·rename_i v vs hv;rw[<-hv];refine⟨hw,by simp only[Q0];exact h.size,λt s ht=>?_,λp hp=>?_,hgen,h.defers.trans he.df.symm⟩
  ·simp only[Z8,Za]at ht;obtain⟨s0,h1,rfl⟩:=ht;exact(Vlp (h.fr t s0 h1)).persist he (λκ hκ=>hkey _ κ hκ (Vg7 κ hκ))
  ·simp only[Zv]at hp;obtain⟨q,hq,rfl⟩:=hp
   split
   ·rename_i x hx;exact unK_rep (hb _ (Vag hx))
   ·rename_i hx;refine(forgetL_box (h.bx q hq)).persist he (hk _ (hnot q hx)) (λκ hκ=>?_);simp only[Z6]at hκ;obtain⟨s,hs1,hs⟩:=hκ;obtain⟨i,x⟩:=q;cases x with
    |cells t l=>
     simp only[ABox.forgetL,ABox.svs,Zv]at hs1;obtain⟨s0,_,rfl⟩:=hs1;exact hkey _ κ hs (Vg7 κ hs)
    |mi ks l=>
     simp only[ABox.forgetL,ABox.svs,Zv]at hs1;obtain⟨s0,_,rfl⟩:=hs1;exact hkey _ κ hs (Vg7 κ hs)
    |_=>simp[ABox.forgetL,ABox.svs]at hs1
def Vo4{G:Gh}{w:H}{S:St}{a:Qr}(hr:Rel G w S a){fs cs:C PV}{vs us:C B}(hf:RepPs G w fs vs)(hc:RepPs G w cs us)(args:C X)(keep:Xe):RepSs G w (Vfd S fs args cs keep) (vs++(args.map a.eval++us)):=by
 have h1:∀ {l:C PV} {us:C B},RepPs G w l us->RepSs G w (l.map PV.toSV) us:=by
  intro l
  induction l with
  |nil=>intro us h;exact h
  |cons p l ih=>intro us h;obtain⟨u,us',e,h2,h3⟩:=h;exact⟨u,us',e,h2.toSV,ih h3⟩
 have h2:∀ l:C X,RepSs G w (l.map (λx=>(S.ev x).normK keep)) (l.map a.eval):=by
  intro l
  induction l with
  |nil=>rfl
  |cons x l ih=>exact⟨_,_,rfl,(hr.ev x).normK keep,ih⟩
 exact(h1 hf).append ((h2 args).append (h1 hc))
def Vqh{o:L}{ors ors':C Or}{S S':St}{cs:C Prop}(h:Vhs P o ors S=J (cs,ors',S'))(hc:All cs){G:Gh}{w:H}{a:Qr}(hr:Rel G w S a){Q:Y7->Qr->H->Prop}{next:Qr->H->Prop}
  (hn:∀ G' a' w',Step G w G' w'->Rel G' w' S' a'->(∀i,Fx i->G'.ow (i,0)=G.ow (i,0))->next a' w'):o.wp P a w next Q:=by
 have plain:∀ {r:Res},Sound P o S r->r.ok->S'=r.st.put o.dst r.v->o.wp P a w next Q:=by
  intro r hs hok hS;subst hS;obtain⟨nx,v,w',G',h1,h2,h3,h4,h5,h6⟩:=hs hok G w a hr;unfold Oper.wp;rw[h1];rcases h2 with rfl|⟨rfl,rfl⟩
  ·rw[Oper.upon_value];exact hn G' _ w' h3 (h4.put o.dst h5) h6
  ·rw[Oper.upon_skip];exact hn G' _ w' h3 (h4.put o.dst h5) h6
 unfold Vhs at h
 split at h
 ·rename_i c x y ho
  split at h
  ·rename_i p d ors2 hp;simp only[T,Zc]at h;obtain⟨rfl,_,rfl⟩:=h;have hpd:p=d:=hc.1;subst hpd;refine plain (Vn4 ho hp) Yq ?_;cases p <;>rfl
  ·simp at h
 ·rename_i t x y t' ho
  split at h
  ·rename_i k i k' j m ors2 hx hy
   split at h
   ·rename_i hk;subst hk;simp only[T,Zc]at h;obtain⟨rfl,_,rfl⟩:=h;refine plain (Vfu (r:=.int k (k.wrap (i+j))) (p:=O) ho hx hy (by simp[aBin])) Yq ?_;rw[hc.1]
   ·simp at h
  ·rename_i a b hx hy;simp only[T,Zc]at h;obtain⟨rfl,_,rfl⟩:=h;exact plain (Vfu ho hx hy (by simp only[aBin])) hc.1 rfl
  ·simp at h
 ·rename_i t x y t' ho
  split at h
  ·rename_i k i k' j m ors2 hx hy
   split at h
   ·rename_i hk;subst hk;simp only[T,Zc]at h;obtain⟨rfl,_,rfl⟩:=h;refine plain (Vfu (r:=.int k (k.wrap (i-j))) (p:=O) ho hx hy (by simp[aBin])) Yq ?_;rw[hc.1]
   ·simp at h
  ·simp at h
 ·rename_i t x y t' ho
  split at h
  ·rename_i k i k' j m ors2 hx hy
   split at h
   ·rename_i hk;subst hk;simp only[T,Zc]at h;obtain⟨rfl,_,rfl⟩:=h;refine plain (Vfu (r:=.int k (k.wrap (i*j))) (p:=O) ho hx hy (by simp[aBin])) Yq ?_;rw[hc.1]
   ·simp at h
  ·simp at h
 ·rename_i t x i ho
  split at h
  ·rename_i e he
   split at h
   ·rename_i sz _ _ l _ i' y ors2 h2 h3 h4
    split at h
    ·rename_i hh;simp only[T,Zc]at h;obtain⟨rfl,_,rfl⟩:=h;obtain⟨⟨hi0,hget⟩,_⟩:=hc;have hlt:i'.toNat<l.length:=by
      rcases Z2 i'.toNat l.length with h|h
      ·exact h
      ·simp[Zj h]at hget
     have hgd:l.getD i'.toNat (.val Z7)=y:=by simp[Qu,hget]
     refine plain (Vft ho h3 h4 he h2 hh.1) ⟨hi0,kv,by rw[hgd];exact hh.2.1,by rw[hgd];exact hh.2.2⟩ ?_;rw[hgd]
    ·simp at h
   ·simp at h
  ·split at h
   ·rename_i hx hi hta
    split at h
    ·rename_i hti;simp only[T,Zc]at h;obtain⟨rfl,_,rfl⟩:=h;exact plain (Vdh ho hx hi hta hti) hc.1 rfl
    ·simp at h
   ·simp at h
 ·rename_i x args tys ho
  split at h
  ·rename_i f fs cs' res bx' gn gn' ors2 hx
   split at h
   case h_2=>simp at h
   rename_i hvec;simp only[T,Zc]at h;obtain⟨rfl,_,rfl⟩:=h;obtain⟨⟨⟨fn,hf1,hf2,hf3⟩,hcall⟩,hgn,_⟩:=hc;have h1:=hr.ev x;rw[hx]at h1;obtain⟨vs,us,h2,h3,h4⟩:=h1;have hargs:=Vo4 hr h3 h4 args.toList (!gn.isEmpty);have hcall:=hcall G w _ hr.wf hargs (λp hp=>hr.bx p (List.mem_filter.1 hp).1) (λp hp=>by rw[hr.gn];exact gnOk_get hgn p hp);have hrun:(execOp a.eval o).run P w=.ok (.enter f (vs.toList++(args.toList.map a.eval++us.toList)).toArray) w:=by
    have hnone:fn.body.isNone=false:=by cases hb:fn.body <;>simp_all
    simp only[execOp,ho,resolve,h2,Deferred.ofValue,Zr,Yz,Zt,invoke,callFunc,run_program,hf1];rw[Yb (by rw[hf3];simp)];simp only[hnone,Y1,Ie,Yz];congr 2;apply Qj;simp
   unfold Oper.wp;rw[hrun,Oper.upon_enter];refine hcall.mono ?_;rintro e w' ⟨v,G',rfl,s1,s2,s3,s4,s5,s6,s7⟩;have hrel:=Rel_upd (gn':=gn') hr s1.toExt s2 s5 s6 s7 s4;refine hn G' _ w' s1 (hrel.put o.dst s3) (λi hi=>s6 i (λhm=>?_));have:=Yo.1 hvec i hm;simp only[Bool.or_eq_true,Ql]at this;have h1:=hi.1;have h2:=hi.2;omega
  ·simp at h
 ·split at h
  ·rename_i ok v st y ors2 hs;simp only[T,Zc]at h;obtain⟨rfl,_,rfl⟩:=h;refine plain (Vay hs) hc.1 ?_;rw[hc.2.1]
  ·simp at h
 ·split at h
  ·rename_i r hs;simp only[T,Zc]at h;obtain⟨rfl,_,rfl⟩:=h;exact plain (Vay hs) hc.1 rfl
  ·simp at h
def Vc5{o:L}{ors ors':C Or}{S S':St}{cs:C Prop}(h:Vgp P o ors S=J (cs,ors',S'))(hc:All cs){G:Gh}{w:H}{a:Qr}(hr:Rel G w S a){Q:Y7->Qr->H->Prop}{next:Qr->H->Prop}
  (hn:∀ G' a' w',Step G w G' w'->Rel G' w' S' a'->(∀i,Fx i->G'.ow (i,0)=G.ow (i,0))->next a' w'):o.wp P a w next Q:=by
 have plain:∀ {r:Res},Sound P o S r->r.ok->S'=r.st.put o.dst r.v->o.wp P a w next Q:=by
  intro r hs hok hS;subst hS;obtain⟨nx,v,w',G',h1,h2,h3,h4,h5,h6⟩:=hs hok G w a hr;unfold Oper.wp;rw[h1];rcases h2 with rfl|⟨rfl,rfl⟩
  ·rw[Oper.upon_value];exact hn G' _ w' h3 (h4.put o.dst h5) h6
  ·rw[Oper.upon_skip];exact hn G' _ w' h3 (h4.put o.dst h5) h6
 unfold Vgp at h
 split at h
 ·rename_i c ors2 v hv;obtain⟨p,rfl,hs⟩:=Vo7 hv;simp only[T,Zc]at h;obtain⟨rfl,rfl,rfl⟩:=h;exact plain hs hc.1 rfl
 ·exact Vqh h hc hr hn
def Vbu{ops:Yj L}{S:St}{j:F}{s:SV}(h:Vdq (ops.toList.map (·.dst)) S j=J s){G:Gh}{w:H}{a:Qr}(hr:Rel G w S a):∃ t u,(ops[j]?).bind (·.dst)=J t/\a.tmps[t]? =J u/\RepS G w s u:=by
  unfold Vdq at h
  split at h
  · rename_i t ht;have hd:(ops[j]?).bind (·.dst)=J t:=by
      simp only[Z8]at ht;cases ho:ops[j]? with
      | none => have:ops.toList[j]? =none:=by simpa using ho
                rw[this]at ht;simp at ht
      | some o => have:ops.toList[j]? =J o:=by simpa using ho
                  rw[this]at ht;simpa using ht
    have h1:=hr.fr t s h;have hlt:t<a.tmps.size:=by
      rw[<-hr.size];rcases Z2 t S.fr.length with h'|h'
      · exact h'
      · simp[Zj h']at h
    refine⟨t,a.tmps[t],hd,by simp[hlt],?_⟩;simpa[Yl,hlt]using h1
  · simp at h
def Ve0{ops:Yj L}:∀(l:C L)(ors ors':C Or)(S S':St)(cs:C Prop),Vdi P (ops.toList.map (·.dst)) l ors S=J (cs,ors',S')->All cs->∀(G:Gh)(w:H)(a:Qr),Rel G w S a->
  ∀Q:Y7->Qr->H->Prop,(∀G' a' w',Step G w G' w'->Rel G' w' S' a'->(∀i,Fx i->G'.ow (i,0)=G.ow (i,0))->Q .normal a' w')->wpList P ops Q l a w
 |[],ors,ors',S,S',cs,h,hc,G,w,a,hr,Q,hq=>by
  simp only[Vdi,T,Zc]at h;obtain⟨_,_,rfl⟩:=h;exact hq G a w (Step.refl G w) hr (λ_ _=>rfl)
 | o::rest,ors,ors',S,S',cs,h,hc,G,w,a,hr,Q,hq=>by
  have Vhj:∀ G w,RepS G w Vav undef:=by
   intro G w;simp only[Vav,RepS,Rep];exact⟨#[],rfl,by simp[RepL]⟩
  have go:∀ {c1 ors0 ors1 S1 c2},Vgp P o ors0 S=J (c1,ors1,S1)->All c1->Vdi P (ops.toList.map (·.dst)) rest ors1 S1=J (c2,ors',S')->All c2->o.wp P a w (wpList P ops Q rest) Q:=by
   intro c1 ors0 ors1 S1 c2 h1 hc1 h2 hc2;exact Vc5 h1 hc1 hr (λG' a' w' g1 g2 g3=>Ve0 rest ors1 ors' S1 S' c2 h2 hc2 G' w' a' g2 Q (λG2 a2 w2 q1 q2 q3=>hq G2 a2 w2 (g1.trans q1) q2 (λi hi=>(q3 i hi).trans (g3 i hi))))
  simp only[Vdi]at h;simp only[wpList]
  split at h
  ·rename_i hg;rw[Qo (by simp[Xh,hg])]
   split at h
   ·rename_i c1 ors1 S1 h1
    split at h
    ·rename_i c2 r h2;simp only[T,Zc]at h;obtain⟨rfl,rfl⟩:=h;obtain⟨hc1,hc2⟩:=Vba hc;exact .inl (go h1 hc1 h2 hc2)
    ·simp at h
   ·simp at h
  ·rename_i j want hg
   split at h
   ·rename_i hs;obtain⟨t,u,e1,e2,e3⟩:=Vbu hs hr;simp only[RepS,Rep]at e3;obtain⟨us,rfl,_⟩:=e3;have hwant:Xh o (yielded ops a.tmps)=false:=by
     simp only[Xh,hg,yielded,e1,Y9,e2];rfl
    rw[hwant];simp only[Y1,Ie];exact Ve0 rest ors ors' _ S' cs h hc G w _ (hr.put o.dst (Vhj G w)) Q hq
   ·rename_i b hs;obtain⟨t,u,e1,e2,e3⟩:=Vbu hs hr;simp only[RepS,Rep]at e3;obtain⟨rfl,_⟩:=e3
    split at h
    ·rename_i d ors2
     split at h
     ·rename_i hd
      split at h
      ·rename_i c1 ors1 S1 h1
       split at h
       ·rename_i c2 r h2;simp only[T,Zc]at h;obtain⟨rfl,rfl⟩:=h;obtain⟨hb,hc'⟩:=hc;obtain⟨hc1,hc2⟩:=Vba hc';subst hb hd;rw[Qo (by simp only[Xh,hg,yielded,e1,Y9,e2];simp)];exact .inl (go h1 hc1 h2 hc2)
       ·simp at h
      ·simp at h
     ·rename_i hd
      split at h
      ·rename_i c2 r h2;simp only[T,Zc]at h;obtain⟨rfl,rfl⟩:=h;obtain⟨hb,hc'⟩:=hc;subst hb;have hwant:Xh o (yielded ops a.tmps)=false:=by
        simp only[Xh,hg,yielded,e1,Y9,e2];cases b <;>cases want <;>simp_all
       rw[hwant];simp only[Y1,Ie];exact Ve0 rest ors2 ors' _ S' c2 h2 hc' G w _ (hr.put o.dst (Vhj G w)) Q hq
      ·simp at h
    ·simp at h
   ·simp at h
end
end
section
def Vs4(P:D)(S:St):Qg->R SV
 | .tmp t=>S.fr[t]?
 | .cell a t=>(Vjj P t (S.fr.getD a .junk) S).map (·.v)
def aResL(P:D)(S:St):C Qg->R (C AV)
 |[]=>J []
 |r::l=>match Vs4 P S r,aResL P S l with
  |some s,J xs=>(s.toAV).map (λx=>x::xs)
  |_,_=>E
def SV.toXV:SV->R XV
 | .av x=>J (.c (.av x))
 | .nil=>J (.c .nil)
 | .own k g sz l=>J (.c (.own k g sz l))
 | .ag l=>J (.a l)
 |_=>E
def aResX(P:D)(S:St):C Qg->R (C XV)
 |[]=>J []
 |r::l=>match Vs4 P S r,aResX P S l with
  |some s,J xs=>(s.toXV).map (λx=>x::xs)
  |_,_=>E
def aRes(P:D)(fn:Jm)(S:St)(keep:Xe):R SV:=
 match keep,fn.results.toList with
 |true,[r]=>Vs4 P S r
 |true,rs=>(aResX P S rs).map (λl=>.tp l)
 |false,[r]=>(Vs4 P S r).map SV.norm
 |false,rs=>(aResL P S rs).map (λl=>.av (.tup l))
section
variable {P:D}
def Vl1(tmps:Yj B):Qg->Sem B
 | .tmp t=>pure (tmps.getD t Z7)
 | .cell a t=>do loadVar t (<-asAddr (tmps.getD a Z7))
def Vfg{S:St}{r:Qg}{s:SV}(h:Vs4 P S r=J s){G:Gh}{w:H}{a:Qr}(hr:Rel G w S a):∃ v,(Vl1 a.tmps r).run P w=.ok v w/\RepS G w s v:=by
 cases r with
 |tmp t=>
  simp only[Vs4]at h;exact⟨_,by simp[Vl1],hr.fr t s h⟩
 | cell ad t=>
  simp only [Vs4, Option.map_eq_some_iff] at h; obtain ⟨r, h1, rfl⟩ := h; have ho : Vb8 P { dst := none, op := .load t (.tmp ad), type := 0, pos := "", after := #[], guard := none } S = some r := by simpa [Vb8, St.ev] using h1
  have hok:r.ok/\r.st=S:=by
   unfold Vjj at h1
   split at h1
   ·split at h1
    ·split at h1
     ·simp only[Za]at h1;obtain⟨q,_,rfl⟩:=h1;exact⟨Yq,rfl⟩
     ·simp at h1
    ·simp only[Za]at h1;obtain⟨q,_,rfl⟩:=h1;exact⟨Yq,rfl⟩
    ·simp at h1
   ·split at h1
    ·split at h1
     ·split at h1
      ·split at h1
       ·split at h1
        ·split at h1
         ·simp only[T]at h1;subst h1;exact⟨Yq,rfl⟩
         ·simp at h1
        ·simp at h1
       ·split at h1
        ·split at h1
         ·simp only[T]at h1;subst h1;exact⟨Yq,rfl⟩
         ·simp at h1
        ·simp at h1
      ·simp at h1
     ·split at h1
      ·simp only[T]at h1;subst h1;exact⟨Yq,rfl⟩
      ·simp at h1
     ·simp at h1
    ·simp at h1
   ·simp at h1
  have hev:=hr.ev (.tmp ad);have key:∀(hp:∃ b o,a.tmps.getD ad Z7=.pointer (J ⟨b,o,E⟩)),∃v,(Vl1 a.tmps (.cell ad t)).run P w=.ok v w/\RepS G w r.v v:=by
   rintro⟨b,o,hp⟩;obtain⟨nx,v,w',G',e1,e2,_⟩:=Vay ho hok.1 G w a hr;have hst:∃ v,(loadVar t ⟨b,o,E⟩).run P w=.ok v w/\RepS G w r.v v:=by
    have hs:=Vay ho;clear e1 e2;unfold Vjj at h1
    split at h1
    ·rename_i ha
     split at h1
     ·rename_i b' k' hx
      split at h1
      ·rename_i ty l hb;simp only[Za]at h1;obtain⟨q,hq,rfl⟩:=h1;have:=hev;simp only[St.ev,hx,Qk]at this;obtain⟨blk,h2,h3⟩:=this;rw[hp]at h3;simp at h3;obtain⟨rfl,rfl⟩:=h3;obtain⟨blk',arr,g1,g2,g3,g4,g5⟩:=hr.bx _ (Vag hb);simp only at g1;rw[h2]at g1;simp at g1;subst g1;obtain⟨u,h4,h5⟩:=g4.get o q hq;have hc:w.cell? ⟨b,o,E⟩=J u:=by simpa[Ye,g2]using h4
       exact⟨u,Vb4 ha hc,h5⟩
      ·simp at h1
     ·rename_i l k hx;simp only[Za]at h1;obtain⟨q,hq,rfl⟩:=h1;have:=hev;simp only[St.ev,hx,Qk,RepS,Rep]at this;obtain⟨b',o',us,h3,h4,h5,h6⟩:=this;rw[hp]at h3;simp at h3;obtain⟨rfl,rfl⟩:=h3;obtain⟨u,h7,h8⟩:=h4.get k q hq;exact⟨u,Vb4 ha (h6 k u h7).1,h8⟩
     ·simp at h1
    ·rename_i ha
     split at h1
     ·rename_i sz _ _ hi
      split at h1
      ·rename_i b' k' hx
       split at h1
       ·rename_i ty l hb
        split at h1
        ·split at h1
         ·rename_i r' hr'
          split at h1
          ·rename_i hsz;simp only[T]at h1;subst h1;have:=hev;simp only[St.ev,hx,Qk]at this;obtain⟨blk,h2,h3⟩:=this;rw[hp]at h3;simp at h3;obtain⟨rfl,rfl⟩:=h3;exact Vle ha hi hb hr' hsz hr h2
          ·simp at h1
         ·simp at h1
        ·split at h1
         ·rename_i r' hr'
          split at h1
          ·rename_i hsz;simp only[T]at h1;subst h1;have:=hev;simp only[St.ev,hx,Qk]at this;obtain⟨blk,h2,h3⟩:=this;rw[hp]at h3;simp at h3;obtain⟨rfl,rfl⟩:=h3;obtain⟨blk',arr,g1,g2,g3,g4,g5⟩:=hr.bx _ (Vag hb);simp only at g1;rw[h2]at g1;simp at g1;subst g1;have h4:=((g4.drop o).take sz).allAV hr';have hl:=h4.length;have hc:∀ j v,((arr.toList.drop o).take sz)[j]? =J v->w.cell? ⟨b,o+j,E⟩=J v:=by
            intro j v hj;rw[Zw]at hj
            split at hj
            ·simp only[Yh]at hj;simpa[Ye,g2]using hj
            ·simp at hj
           refine⟨_,Vbj ha hi (hl.trans hsz) hc,?_⟩;simp only[RepS,Rep];exact⟨_,rfl,h4,λy hy=>g5 y (Zh (Zg hy))⟩
          ·simp at h1
         ·simp at h1
       ·simp at h1
      ·rename_i l k hx
       split at h1
       ·rename_i hsz;simp only[T]at h1;subst h1;have:=hev;simp only[St.ev,hx,Qk,RepS,Rep]at this;obtain⟨b',o',us,h3,h4,h5,h6⟩:=this;rw[hp]at h3;simp at h3;obtain⟨rfl,rfl⟩:=h3;have h7:=(h4.drop k).take sz;have hl:=h4.length;have hc:∀ j v,((us.drop k).take sz)[j]? =J v->w.cell? ⟨b,(o'+k)+j,E⟩=J v:=by
         intro j v hj;rw[Zw]at hj
         split at hj
         ·simp only[Yh]at hj;have:=(h6 _ v hj).1;rwa[Ym]
         ·simp at hj
        refine⟨_,Vbj ha hi (vs:=(us.drop k).take sz) (by simp;omega) hc,?_⟩;simp only[RepS,Rep];refine⟨_,rfl,h7,λy hy=>?_⟩;have hy':=Zh (Zg hy);obtain⟨j,hj⟩:=Y3.1 hy';exact(h6 j y hj).2
       ·simp at h1
      ·simp at h1
     ·simp at h1
    ·simp at h1
   obtain⟨v,q1,q2⟩:=hst;exact⟨v,by simp[Vl1,hp,asAddr,q1],q2⟩
  have hp:∃ b o,a.tmps.getD ad Z7=.pointer (J ⟨b,o,E⟩):=by
   unfold Vjj at h1;have hcase:(∃b k,S.fr.getD ad .junk=.ptr b k)\/(∃l k,S.fr.getD ad .junk=.av (.ro l k)):=by
    split at h1
    ·split at h1
     ·rename_i b k hx;exact .inl ⟨b,k,hx⟩
     ·rename_i l k hx;exact .inr ⟨l,k,hx⟩
     ·simp at h1
    ·split at h1
     ·split at h1
      ·rename_i b k hx;exact .inl ⟨b,k,hx⟩
      ·rename_i l k hx;exact .inr ⟨l,k,hx⟩
      ·simp at h1
     ·simp at h1
    ·simp at h1
   rcases hcase with⟨b,k,hx⟩|⟨l,k,hx⟩
   ·have:=hev;simp only[St.ev,hx,Qk]at this;obtain⟨blk,_,h3⟩:=this;exact⟨blk,k,h3⟩
   ·have:=hev;simp only[St.ev,hx,Qk,RepS,Rep]at this;obtain⟨b,o,us,h3,_⟩:=this;exact⟨b,o+k,h3⟩
  exact key hp
def Vm9{S:St}{G:Gh}{w:H}{a:Qr}(hr:Rel G w S a):∀ {rs:C Qg} {l:C AV},aResL P S rs=J l->∃ vs,(rs.mapM (Vl1 a.tmps)).run P w=.ok vs w/\RepL G.U w l vs
 |[],l,h=>by simp[aResL]at h;subst h;exact⟨[],ku,by simp[RepL]⟩
 |r::rs,l,h=>by
  simp only[aResL]at h
  split at h
  ·rename_i s xs h1 h2;simp only[Za]at h;obtain⟨x,h3,rfl⟩:=h;obtain⟨v,e1,e2⟩:=Vfg h1 hr;obtain⟨vs,e3,e4⟩:=Vm9 hr h2;refine⟨v::vs,by simp[Xs,e1,e3],?_⟩;simp only[RepL];exact⟨v,vs,rfl,e2.toAV h3,e4⟩
  ·simp at h
def RepS.toXV{G:Gh}{w:H}{s:SV}{u:B}{x:XV}(h:RepS G w s u)(hx:s.toXV=J x):RepX G w x u:=by
 cases s with
 |av y=>simp only[SV.toXV,T]at hx;subst hx;exact h
 |nil=>simp only[SV.toXV,T]at hx;subst hx;exact h
 |own k g sz l=>simp only[SV.toXV,T]at hx;subst hx;exact h
 |ag l=>simp only[SV.toXV,T]at hx;subst hx;exact h
 |_=>simp[SV.toXV]at hx
def Vm8{S:St}{G:Gh}{w:H}{a:Qr}(hr:Rel G w S a):∀ {rs:C Qg} {l:C XV},aResX P S rs=J l->∃ vs,(rs.mapM (Vl1 a.tmps)).run P w=.ok vs w/\RepXs G w l vs/\vs.length=rs.length
 |[],l,h=>by simp[aResX]at h;subst h;exact⟨[],ku,rfl,rfl⟩
 |r::rs,l,h=>by
  simp only[aResX]at h
  split at h
  ·rename_i s xs h1 h2;simp only[Za]at h;obtain⟨x,h3,rfl⟩:=h;obtain⟨v,e1,e2⟩:=Vfg h1 hr;obtain⟨vs,e3,e4,e5⟩:=Vm8 hr h2;exact⟨v::vs,by simp[Xs,e1,e3],⟨v,vs,rfl,e2.toXV h3,e4⟩,by simp[e5]⟩
  ·simp at h
def Vgl(fn:Jm)(tmps:Yj B):results fn tmps=(do let vs<-fn.results.mapM (Vl1 tmps);pure (if h:vs.size=1 then vs[0]else .tuple vs)):=by
 unfold results;congr 1
def Vo1{fn:Jm}{S:St}{s:SV}{keep:Xe}(h:aRes P fn S keep=J s){G:Gh}{w:H}{a:Qr}(hr:Rel G w S a):∃ v,(results fn a.tmps).run P w=.ok v w/\RepS G w s v:=by
 unfold aRes at h
 split at h
 ·rename_i r hrs;obtain⟨v,e1,e2⟩:=Vfg h hr;refine⟨v,?_,e2⟩;rw[Vgl,arr1 hrs,Yf];simp[e1]
 ·rename_i rs hrs;simp only[Za]at h;obtain⟨l,h1,rfl⟩:=h;obtain⟨vs,e1,e2,e3⟩:=Vm8 hr h1;refine⟨.tuple vs.toArray,?_,_,rfl,by simpa using e2⟩;rw[Vgl,Yf];simp only[Zr,Ir,e1,Zt,Yz];have hne:¬ vs.toArray.size=1:=by
   intro h1';simp at h1';have h1l:fn.results.toList.length=1:=kv;obtain⟨r,hr1⟩:=Qx.1 h1l;exact hrs r hr1
  rw[dif_neg hne]
 ·rename_i r hrs;simp only[Za]at h;obtain⟨s',h1,rfl⟩:=h;obtain⟨v,e1,e2⟩:=Vfg h1 hr;refine⟨v,?_,e2.norm⟩;rw[Vgl,arr1 hrs,Yf];simp[e1]
 ·rename_i rs hrs;simp only[Za]at h;obtain⟨l,h1,rfl⟩:=h;obtain⟨vs,e1,e2⟩:=Vm9 hr h1;refine⟨.tuple vs.toArray,?_,?_⟩
  ·rw[Vgl,Yf];simp only[Zr,Ir,e1,Zt,Yz];have hne:¬ vs.toArray.size=1:=by
    intro h1';have hl:=e2.length;have hlen:fn.results.toList.length=l.length:=by
     clear e1 e2 hrs hl
     revert h1
     generalize fn.results.toList=rs;intro h1
     induction rs generalizing l with
     |nil=>simp[aResL]at h1;subst h1;rfl
     |cons r rs ih=>
      simp only[aResL]at h1
      split at h1
      ·rename_i s xs _ h2;simp only[Za]at h1;obtain⟨x,_,rfl⟩:=h1;simp[ih _ h2]
      ·simp at h1
    simp at h1';have h1l:fn.results.toList.length=1:=kv;obtain⟨r,hr1⟩:=Qx.1 h1l;exact hrs r hr1
   rw[dif_neg hne]
  ·simp only[RepS,Rep];exact⟨_,rfl,by simpa using e2⟩
def OkCV(gn:C (Key×F)):CV->Prop
 | .own k g _ _=>gn.lookup k=J g
 |_=>O
def OkXV(gn:C (Key×F)):XV->Prop
 | .c x=>OkCV gn x
 | .a l=>∀ x∈l,OkCV gn x
def OkSV(ids:C F)(gn:C (Key×F)):SV->Prop
 | .own k g _ _=>gn.lookup k=J g
 | .ag l=>∀ x∈l,OkCV gn x
 | .tp l=>∀ x∈l,OkXV gn x
 |s=>∀ κ∈s.keys,κ.1∈ids
def Vf7{l:C (Key×F)}{k:Key}{g:F}(h:l.lookup k=J g):(k,g)∈l:=by
 induction l with
 |nil=>simp at h
 |cons p l ih=>
  obtain⟨k',y⟩:=p;simp only[Xb]at h
  split at h
  ·rename_i hk;simp only[T]at h;have:=eq_of_beq hk;subst this h;simp
  ·simp[ih h]
def Vgh{G G':Gh}{w:H}{gn:C (Key×F)}{k:Key}{g sz:F}{l:C AV}{u:B}(hU:G'.U=G.U)(hk:gn.lookup k=J g)(hg:∀ k g,gn.lookup k=J g->G'.ow k=G.ow k/\G.gen k=g/\G'.gen k=g)(hr:RepOwn G w k g sz l u):RepOwn G' w k g sz l u:=by
 obtain⟨q1,q2,q3⟩:=hg k g hk;obtain⟨h0,hgg,a,cap,es,h1,h2,h3,h4,hn,hsp,h5,h6⟩:=hr;refine⟨h0,kv,a,cap,es,h1,by rw[hU];exact h2,h3,h4,hn,hsp,by rw[hU];exact h5,λ_=>?_⟩;rcases h6 q2 with h6|⟨b,off,arr,e,h7,h8,h9,h10,h11,h12⟩
 ·exact .inl ⟨h6.1,by unfold CapZ at h6 ⊢;rw[hU];exact h6.2⟩
 ·exact .inr ⟨b,off,arr,e,h7,by rw[q1];exact h8,h9,h10,by rw[hU];exact h11,h12⟩
def Vig{G G':Gh}{w:H}{gn:C (Key×F)}{x:CV}{u:B}(hU:G'.U=G.U)(hg:∀ k g,gn.lookup k=J g->G'.ow k=G.ow k/\G.gen k=g/\G'.gen k=g)(hk:OkCV gn x)(hr:RepC G w x u):RepC G' w x u:=by
 cases x with
 |av x=>simp only[RepC]at hr ⊢;rw[hU];exact hr
 |nil=>exact hr
 |own k g sz l=>exact Vgh hU hk hg hr
def Vec{G G':Gh}{w:H}{gn:C (Key×F)}(hU:G'.U=G.U)(hg:∀ k g,gn.lookup k=J g->G'.ow k=G.ow k/\G.gen k=g/\G'.gen k=g):∀ {l:C CV} {us:C B},(∀x∈l,OkCV gn x)->RepCs G w l us->RepCs G' w l us
 |[],_,_,h=>h
 |x::l,us,hk,h=>by
  obtain⟨u,us',e,h2,h3⟩:=h;exact⟨u,us',e,Vig hU hg (hk x ku) h2,Vec hU hg (λy hy=>hk y (by simp[hy])) h3⟩
def Vfk{G G':Gh}{w:H}{ids:C F}{gn:C (Key×F)}{s:SV}{u:B}(hU:G'.U=G.U)(hC:G'.cp=G.cp)(hk:OkSV ids gn s)(ho:∀ i:F,i∈ids->G'.ow (i,0)=G.ow (i,0))(hg:∀ k g,gn.lookup k=J g->G'.ow k=G.ow k/\G.gen k=g/\G'.gen k=g)(hr:RepS G w s u):RepS G' w s u:=by
 have key:∀(p:PV)(u:B),(∀κ∈p.keys,κ.1∈ids)->RepP G w p u->RepP G' w p u:=by
  intro p u hp h;cases p with
  |av x=>simp only[RepP]at h ⊢;rw[hU];exact h
  |ptr b o=>obtain⟨blk,h1,h2⟩:=h;exact⟨blk,by rw[ho b (hp (b,0) (by simp[PV.keys]))];exact h1,h2⟩
  |mp b=>obtain⟨blk,h1,h2⟩:=h;exact⟨blk,by rw[ho b (hp (b,0) (by simp[PV.keys]))];exact h1,h2⟩
 have keyL:∀(l:C PV)(us:C B),(∀κ∈l.flatMap PV.keys,κ.1∈ids)->RepPs G w l us->RepPs G' w l us:=by
  intro l
  induction l with
  |nil=>intro us _ h;exact h
  |cons p l ih=>
   intro us hp h;obtain⟨u,us',e1,e2,e3⟩:=h;exact⟨u,us',e1,key p u (λκ hκ=>hp κ (by simp[hκ])) e2,ih us' (λκ hκ=>hp κ (by simp only[Zm,Zd];exact .inr hκ)) e3⟩
 cases s with
 |junk=>trivial
 |nil=>exact hr
 |av x=>simp only[RepS]at hr ⊢;rw[hU];exact hr
 |ptr b o=>obtain⟨blk,h1,h2⟩:=hr;exact⟨blk,by rw[ho b (hk (b,0) (by simp[SV.keys]))];exact h1,h2⟩
 |mp b=>obtain⟨blk,h1,h2⟩:=hr;exact⟨blk,by rw[ho b (hk (b,0) (by simp[SV.keys]))];exact h1,h2⟩
 |own k g sz l=>exact Vgh hU hk hg hr
 |ag l=>obtain⟨us,h1,h2,h3⟩:=hr;exact⟨us,h1,Vec hU hg hk h2,h3⟩
 | tp l=>
  obtain⟨us,h1,h2⟩:=hr;refine⟨us,h1,?_⟩;clear h1;generalize us.toList=vs at h2
  induction l generalizing vs with
  |nil=>exact h2
  |cons x l ih=>
   obtain⟨u,vs',e1,e2,e3⟩:=h2;refine⟨u,vs',e1,?_,ih (λy hy=>hk y (by simp[hy])) vs' e3⟩;have hx:=hk x ku;cases x with
   |c y=>exact Vig hU hg hx e2
   |a m=>obtain⟨ws,f1,f2,f3⟩:=e2;exact⟨ws,f1,Vec hU hg hx f2,f3⟩
 |clo l=>simp only[RepS]at hr ⊢;rw[hU];exact hr
 |vs b n=>
  rcases hr with⟨h1,h2,h3⟩|⟨blk,h0,h1,h2,h3⟩
  ·exact .inl ⟨h1,h2,by rw[ho b (hk (b,0) (by simp[SV.keys]))];exact h3⟩
  ·exact .inr ⟨blk,h0,by rw[ho b (hk (b,0) (by simp[SV.keys]))];exact h1,by rw[hC];exact h2,by rw[hC];exact h3⟩
 |vw b sz o n=>
  obtain⟨a,cap,h1,h2,h3⟩:=hr;exact⟨a,cap,h1,h2,h3.imp id (λ⟨blk,h4,h5⟩=>⟨blk,by rw[ho b (hk (b,0) (by simp[SV.keys]))];exact h4,h5⟩)⟩
 |vp b sz i o=>obtain⟨blk,h1,h2⟩:=hr;exact⟨blk,by rw[ho b (hk (b,0) (by simp[SV.keys]))];exact h1,h2⟩
 |son b=>
  rcases hr with h1|⟨blk,h1,h2⟩
  ·exact .inl h1
  ·exact .inr ⟨blk,by rw[ho b (hk (b,0) (by simp[SV.keys]))];exact h1,h2⟩
 |fn f fs cs=>
  obtain⟨vs,us,h1,h2,h3⟩:=hr;refine⟨vs,us,h1,keyL fs _ (λκ hκ=>hk κ ?_) h2,keyL cs _ (λκ hκ=>hk κ ?_) h3⟩
  ·simp only[SV.keys,Zd];exact .inl hκ
  ·simp only[SV.keys,Zd];exact .inr hκ
def Vc0{G G':Gh}{w:H}{ids:C F}{gn:C (Key×F)}(hU:G'.U=G.U)(hC:G'.cp=G.cp)(ho:∀ i:F,i∈ids->G'.ow (i,0)=G.ow (i,0))(hg:∀ k g,gn.lookup k=J g->G'.ow k=G.ow k/\G.gen k=g/\G'.gen k=g):∀ {l:C SV} {us:C B},(∀s∈l,OkSV ids gn s)->RepSs G w l us->RepSs G' w l us
 |[],_,_,h=>h
 |s::l,us,hk,h=>by
  obtain⟨u,us',e,h2,h3⟩:=h;exact⟨u,us',e,Vfk hU hC (hk s ku) ho hg h2,Vc0 hU hC ho hg (λx hx=>hk x (by simp[hx])) h3⟩
def Vfl{G G':Gh}{w:H}{ids:C F}{gn:C (Key×F)}{id:F}{x:ABox}(hU:G'.U=G.U)(hC:G'.cp=G.cp)(ho:∀ i:F,i∈ids->G'.ow (i,0)=G.ow (i,0))(hg:∀ k g,gn.lookup k=J g->G'.ow k=G.ow k/\G.gen k=g/\G'.gen k=g)(hid:id∈ids)(hk:∀ s∈x.svs,OkSV ids gn s)(h:RepB G w id x):RepB G' w id x:=by
 cases x with
 |cells e l=>
  obtain⟨blk,arr,h1,h2,h3,h4,h5⟩:=h;exact⟨blk,arr,by rw[ho id hid];exact h1,h2,by rw[hU];exact h3,Vc0 hU hC ho hg hk h4,h5⟩
 |map ks vs=>
  obtain⟨blk,ents,clock,h1,h2,h3,h4,h5,h6⟩:=h;exact⟨blk,ents,clock,by rw[ho id hid];exact h1,h2,by rw[hU];exact h3,h4,by rw[hU];exact h5,h6⟩
 |ge n=>exact h
 |mi ks l=>
  obtain⟨blk,ents,clock,h1,h2,h3,h4,h5,h6⟩:=h;exact⟨blk,ents,clock,by rw[ho id hid];exact h1,h2,by rw[hU];exact h3,h4,Vc0 hU hC ho hg hk h5,h6⟩
 |gl b vs=>
  obtain⟨e,m,h1,h2⟩:=h;exact⟨e,m,by rw[ho id hid];exact h1,h2⟩
 |it s pos=>
  obtain⟨blk,h0,h1,h2,h3⟩:=h;exact⟨blk,h0,by rw[ho id hid];exact h1,h2,by rw[hU];exact h3⟩
 |vec e sz l=>
  rcases h with⟨h1,h2⟩|⟨blk,arr,es,h0,h1,h2,h3,h4,h5,h6,h7⟩
  ·exact .inl ⟨h1,by rw[ho id hid];exact h2⟩
  ·exact .inr ⟨blk,arr,es,h0,by rw[ho id hid];exact h1,h2,by rw[hU];exact h3,by rw[hC];exact h4,by rw[hU];exact h5,h6,h7⟩
 |vck e sz l=>
  rcases h with⟨h1,h2⟩|⟨blk,arr,es,h0,h1,h2,h3,h4,h5,h6,h7⟩
  ·exact .inl ⟨h1,by rw[ho id hid];exact h2⟩
  ·exact .inr ⟨blk,arr,es,h0,by rw[ho id hid];exact h1,h2,by rw[hU];exact h3,by rw[hC];exact h4,by rw[hU];exact h5,h6,h7⟩
def Ends(P:D)(fn:Jm)(res:SV)(bx':C (F×ABox))(gn':C (Key×F)):Y7->St->Prop
 | .normal,S| .ret,S=>(∃keep,aRes P fn S keep=J res)/\(∀p∈bx',S.bx.lookup p.1=J p.2)/\∀ p∈gn',S.gen p.1=p.2
 |_,_=>False
def FsOk(bx:C (F×ABox))(gn:C (Key×F))(S:St)(r res:SV):Prop:=
 ∃(k:Key)(g sz:F)(l:C AV)(N id:F),r=.own k g sz l/\res=.av (.fs N (k.2-1) l)/\(id,ABox.ge N)∈bx/\(∀p∈bx,p.1<2000)/\gn=[]/\0<k.2/\S.gen k=g
def EndsG(P:D)(fn:Jm)(bx:C (F×ABox))(gn:C (Key×F))(res:SV)(bx':C (F×ABox))(gn':C (Key×F)):Y7->St->Prop
 | .normal,S| .ret,S=>(∃keep r,aRes P fn S keep=J r/\(r=res\/FsOk bx gn S r res))/\(∀p∈bx',S.bx.lookup p.1=J p.2)/\∀ p∈gn',S.gen p.1=p.2
 |_,_=>False
def Vf6{l:C (Key×F)}{k:Key}(h:k∈l.map (·.1)):∃ g,l.lookup k=J g:=by
 cases hl:l.lookup k with
 |some g=>exact⟨g,rfl⟩
 |none=>
  rw[Yv]at hl;simp only[Zv]at h;obtain⟨p,hp,hpk⟩:=h;have:=hl p hp;simp at this;exact(this hpk.symm).elim
def Vbt {f : FuncId} {fn : Func} {c : Code} (hf : P.funcs[f]? = some fn) (hb : fn.body = some c) (hname : (fn.name == "runtime.NumGoroutine") = false) {args : List SV} {bx bx1 bx' : List (Nat × ABox)} {gn gn' : List (Key × Nat)} {res : SV} {n : Nat} (hn : fn.ntmps = n)
  (hle:args.length<=n) (hids:∀ p∈bx,1000<=p.1) (hgk:∀ p∈gn,1000<=p.1.1/\0<p.1.2) (hargs:∀ s∈args,OkSV (bx.map (·.1)) gn s) (hbx:∀ p∈bx,∀s∈p.2.svs,OkSV (bx.map (·.1)) gn s)
  (hres:OkSV (bx.map (·.1)) gn' res) (hbx':∀ p∈bx1,∀s∈p.2.svs,OkSV (bx.map (·.1)) gn' s) (hsame:bx'.map (·.1)=bx.map (·.1)) (hgn':gn'.map (·.1)=gn.map (·.1))
  (h:W P c (EndsG P fn bx gn res bx1 gn') ⟨args++Zp (n-args.length) .junk,bx,gn⟩) (hv:∀ p∈bx',p.1<2000\/p.1∈Vbb bx') (hk:∀ p∈bx',∃x,(p.1,x)∈bx1/\∀ G w,RepB G w p.1 x->RepB G w p.1 p.2):Va1 P f args bx gn res bx' gn':=by
 refine⟨⟨fn,hf,by rw[hb];rfl,hname⟩,?_⟩;intro G w vs hw hr hbr hgr;have hlv:=hr.length
 let ids:=bx.map (·.1)
 let mine:Key->Prop:=λκ=>(κ.1∈ids/\κ.2=0)\/κ∈gn.map (·.1)
 have hdec:∀ κ,mine κ\/¬ mine κ:=λκ=>Jn _
 let G0:Gh:={U:=G.U,cp:=G.cp,ow:=λκ=>@ite _ (mine κ) (Qw _) (G.ow κ) E,gen:=λκ=>(gn.lookup κ).getD 0,df:=[]}
 have hG0:∀ κ:Key,mine κ->G0.ow κ=G.ow κ:=λκ hκ=>by simp only[G0];rw[Qo hκ]
 have hG0s:∀ κ b,G0.ow κ=J b->mine κ/\G.ow κ=J b:=by
  intro κ b hb;simp only[G0]at hb
  split at hb
  ·rename_i hk;exact⟨hk,hb⟩
  ·simp at hb
 have hgl:∀ k g,gn.lookup k=J g->G.gen k=g:=λk g hl=>hgr (k,g) (Vf7 hl)
 have hid0:∀ i:F,i∈ids->G0.ow (i,0)=G.ow (i,0):=λi hi=>hG0 (i,0) (.inl ⟨hi,rfl⟩)
 have hgn0:∀ k g,gn.lookup k=J g->G0.ow k=G.ow k/\G.gen k=g/\G0.gen k=g:=λk g hl=>
  ⟨hG0 k (.inr (by have:=Vf7 hl;exact Yu this)),hgl k g hl,by simp only[G0,hl,Yn]⟩
 have hw0:Wf G0 w:=⟨λκ κ' b h1 h2=>hw.inj κ κ' b (hG0s κ b h1).2 (hG0s κ' b h2).2,λκ b h1=>hw.lt κ b (hG0s κ b h1).2,hw.zero⟩
 have hrel:Rel G0 w ⟨args++Zp (n-args.length) .junk,bx,gn⟩ {tmps:=vs.toArray++I1 (fn.ntmps-vs.toArray.size) Z7,defers:=[]}:=by
  refine⟨hw0,?_,λt s ht=>?_,λp hp=>?_,λk=>rfl,rfl⟩
  ·simp[hlv,hn]
  ·simp only at ht;rcases Z2 t args.length with hlt|hge
   ·rw[Zo hlt]at ht;have hr0:=Vc0 (G:=G) (G':=G0) rfl rfl hid0 hgn0 hargs hr;obtain⟨u,h1,h2⟩:=hr0.get t s ht;have:(vs.toArray++I1 (fn.ntmps-vs.toArray.size) Z7).getD t Z7=u:=by
     have hlt':t<vs.length:=kv;simp only[Yl];rw[Array.getElem?_append_left (by simpa using hlt')];simp[h1]
    rw[this];exact h2
   ·rw[Yp hge,List.getElem?_replicate]at ht
    split at ht
    ·simp at ht;subst ht;trivial
    ·simp at ht
  ·exact Vfl (G:=G) (G':=G0) rfl rfl hid0 hgn0 (Yu hp) (hbx p hp) (hbr p hp)
 refine calls_of_wp hf hb (Xu (λe a w' hl=>?_) (h G0 w _ hrel));obtain⟨S',G1,h1,h2,h3,h4⟩:=hl;have done:(∃keep r,aRes P fn S' keep=J r/\(r=res\/FsOk bx gn S' r res))/\(∀p∈bx1,S'.bx.lookup p.1=J p.2)/\(∀p∈gn',S'.gen p.1=p.2)->a.defers=[]/\∃ v,(results fn a.tmps).run P w'=.ok v w'/\
   ∃v_1 G',Ending.returned v=.returned v_1/\Step G w G' w'/\Wf G' w'/\RepS G' w' res v_1/\(∀p∈bx',RepB G' w' p.1 p.2)/\(∀i:F,i ∉ bx'.map (·.1)->Keep G w G' w' (i,0))/\(∀i,i ∉ Vbb bx'->G'.ow (i,0)=G.ow (i,0))/\∀ κ:Key,G'.gen κ=(gn'.lookup κ).getD (G.gen κ):=by
  rintro⟨⟨keep,r9,g1,hfs⟩,g2,g3⟩;obtain⟨v,e1,e2r⟩:=Vo1 g1 h3
  let G':Gh:={U:=G1.U,cp:=G1.cp,ow:=λκ=>@ite _ (mine κ) (Qw _) (G1.ow κ) (G.ow κ),gen:=λκ=>(gn'.lookup κ).getD (G.gen κ),df:=G.df}
  have hG':∀ κ:Key,mine κ->G'.ow κ=G1.ow κ:=λκ hκ=>by simp only[G'];rw[Qo hκ]
  have hG'n:∀ κ:Key,¬mine κ->G'.ow κ=G.ow κ:=λκ hκ=>by simp only[G'];rw[Yb hκ]
  have hnot:∀ κ b,¬mine κ->G.ow κ=J b->w'.heap[b]? =w.heap[b]? /\G1.U b=G.U b:=by
   intro κ b hκ hb;refine h2.stay b (hw.lt κ b hb) (λκ2 h'=>?_);obtain⟨q1,q2⟩:=hG0s κ2 b h';have:=hw.inj κ2 κ b q2 hb;subst this;exact hκ q1
  have hgn1:∀ k g,gn'.lookup k=J g->G1.gen k=g:=λk g hl=>by rw[h3.gn k];exact g3 (k,g) (Vf7 hl)
  have hgmem:∀ k g,gn'.lookup k=J g->k∈gn.map (·.1):=λk g hl=>by rw[<-hgn'];exact Yu (Vf7 hl)
  have hgn2:∀ k g,gn'.lookup k=J g->G'.ow k=G1.ow k/\G1.gen k=g/\G'.gen k=g:=λk g hl=>
   ⟨hG' k (.inr (hgmem k g hl)),hgn1 k g hl,by simp only[G',hl,Yn]⟩
  have hid1:∀ i:F,i∈ids->G'.ow (i,0)=G1.ow (i,0):=λi hi=>hG' (i,0) (.inl ⟨hi,rfl⟩)
  have how:∀ κ b,G'.ow κ=J b->(mine κ/\G1.ow κ=J b)\/(¬mine κ/\G.ow κ=J b):=by
   intro κ b hκ;rcases hdec κ with hm|hm
   ·rw[hG' κ hm]at hκ;exact .inl ⟨hm,hκ⟩
   ·rw[hG'n κ hm]at hκ;exact .inr ⟨hm,hκ⟩
  have hmono:∀ κ,G.gen κ<=G'.gen κ:=by
   intro κ;simp only[G'];cases hl:gn'.lookup κ with
   |none=>simp
   |some g=>
    obtain⟨g0,hl0⟩:=Vf6 (hgmem κ g hl);have:=h2.gen κ;rw[hgn1 κ g hl]at this;simp only[G0,hl0,Yn]at this;simp only[Yn];rw[hgl κ g0 hl0];exact this
  have hext:Ext G w G' w':=by
   refine⟨h2.U,h2.imm,h2.size,h2.os,Prod.ext h2.toExt.tp rfl,h2.output,h2.cp,hmono,λκ h0 hge=>?_⟩;rcases hdec κ with hm|hm
   ·rcases hm with⟨_,hz⟩|hm2
    ·omega
    ·obtain⟨g0,hl0⟩:=Vf6 hm2;obtain⟨g,hl⟩:=Vf6 (l:=gn') (k:=κ) (by rw[hgn'];exact hm2);have hgg:G1.gen κ=G0.gen κ:=by
      have e1:G'.gen κ=g:=by simp only[G',hl,Yn]
      rw[hgn1 κ g hl];simp only[G0,hl0,Yn];rw[<-hgl κ g0 hl0, <-hge,e1]
     obtain⟨k1,k2⟩:=h2.tok κ h0 hgg;refine⟨by rw[hG' κ (.inr hm2),k1,hG0 κ (.inr hm2)],λb hb=>?_⟩;exact k2 b (by rw[hG0 κ (.inr hm2)];exact hb)
   ·exact⟨hG'n κ hm,λb hb=>hnot κ b hm hb⟩
  refine⟨h3.defers.trans h2.toExt.df,v,e1,v,G',rfl,⟨hext,?_,?_⟩,⟨?_,?_,h3.wf.zero⟩,?_,?_,?_,?_,λ_=>rfl⟩
  ·intro b hb' hno;exact h2.stay b hb' (λκ hκ=>hno κ (hG0s κ b hκ).2)
  ·intro κ b hκ;rcases how κ b hκ with⟨_,q⟩|⟨_,q⟩
   ·rcases h2.rng κ b q with⟨κ',h'⟩|h'
    ·exact .inl ⟨κ',(hG0s κ' b h').2⟩
    ·exact .inr h'
   ·exact .inl ⟨κ,q⟩
  ·intro κ κ' b hκ hκ';have cross:∀ κ κ',mine κ->G1.ow κ=J b->¬ mine κ'->G.ow κ'=J b->κ=κ':=by
    intro κ κ' m1 q1 m2 q2;rcases h2.rng κ b q1 with⟨κ2,h'⟩|h'
    ·obtain⟨r1,r2⟩:=hG0s κ2 b h';have:=hw.inj κ2 κ' b r2 q2;subst this;exact(m2 r1).elim
    ·have:=hw.lt κ' b q2;omega
   rcases how κ b hκ with⟨m1,q1⟩|⟨m1,q1⟩ <;>rcases how κ' b hκ' with⟨m2,q2⟩|⟨m2,q2⟩
   ·exact h3.wf.inj κ κ' b q1 q2
   ·exact cross κ κ' m1 q1 m2 q2
   ·exact(cross κ' κ m2 q2 m1 q1).symm
   ·exact hw.inj κ κ' b q1 q2
  ·intro κ b hκ;rcases how κ b hκ with⟨_,q⟩|⟨_,q⟩
   ·exact h3.wf.lt κ b q
   ·have:=hw.lt κ b q;have:=h2.size;omega
  ·rcases hfs with rfl|⟨k,g,sz,l,N,id,rfl,rfl,hid,hlt,hgn0,hk0,hgk⟩
   ·exact Vfk (G:=G1) (G':=G') rfl rfl hres hid1 hgn2 e2r
   ·have hN:N<=w.heap.size:=hbr (id,.ge N) hid;obtain⟨_,_,ad0,cap,es,h1',h2',h3',h4',hn',hsp',h5',h6'⟩:=e2r
    show Rep G'.U w' (.fs N (k.2-1) l) v;simp only[Rep];refine⟨ad0,cap,es,sz,h1',h2',h3',hn',h4',λ_=>hsp',h5',λhl ad had=>?_⟩;rcases h6' (by rw[h3.gn k];exact hgk)with h0|⟨b,off,arr,e,ha,ho,hhp,_,_,hek⟩
    ·have e0:es=[]:=Zl.1 (by rw[h2'.length];omega);subst e0;exact Jj rfl hl
    ·rw[ha]at had;simp only[T]at had;subst had;refine⟨?_,⟨arr,(0,0),by rw[show k.2-1=e by rw[<-hek];rfl];exact hhp⟩,λ_=>⟨arr,by rw[show k.2-1=e by rw[<-hek];rfl];exact hhp⟩⟩
     show N<=b;rcases h2.rng k b ho with⟨κ',h'⟩|h'
     ·exfalso;obtain⟨m,_⟩:=hG0s κ' b h';subst hgn0;rcases m with⟨hi,hz⟩|m
      ·obtain⟨κ1,κ2⟩:=κ';simp only at hi hz;subst hz;have hi2:=hi;simp only[ids,Zv]at hi2;obtain⟨p,hp,rfl⟩:=hi2;have e9:=h4 p.1 ⟨hids p hp,hlt p hp⟩;have:=h3.wf.inj (p.1,0) k b (by rw[e9];exact h') ho;rw[<-this]at hk0;simp at hk0
      ·simp at m
     ·omega
  ·intro p hp;obtain⟨x,hx,hxr⟩:=hk p hp;have:=h3.bx _ (Vag (g2 (p.1,x) hx));exact hxr _ _ (Vfl (G:=G1) (G':=G') rfl rfl hid1 hgn2 (by show p.1∈bx.map (·.1);rw[<-hsame];exact Yu hp) (hbx' (p.1,x) hx) this)
  ·intro i hi;have hm:¬ mine (i,0):=by
    rintro(⟨q,_⟩|q)
    ·exact hi (by rw[hsame];exact q)
    ·simp only[Zv]at q;obtain⟨p,hp,hpk⟩:=q;have:=(hgk p hp).2;rw[hpk]at this;simp at this
   exact⟨hG'n _ hm,λb hb=>hnot _ b hm hb⟩
  ·intro i hiv;rcases hdec (i,0)with hm|hm
   ·rw[hG' _ hm];have hi:i∈ids:=by
     rcases hm with⟨q,_⟩|q
     ·exact q
     ·simp only[Zv]at q;obtain⟨p,hp,hpk⟩:=q;have:=(hgk p hp).2;rw[hpk]at this;simp at this
    have hi2:=hi;simp only[ids,Zv]at hi2;obtain⟨p,hp,rfl⟩:=hi2;have hlt:p.1<2000:=by
     have hm2:p.1∈bx'.map (·.1):=by rw[hsame];exact Yu hp
     simp only[Zv]at hm2;obtain⟨q,hq,hqe⟩:=hm2;rcases hv q hq with h9|h9
     ·rw[<-hqe];exact h9
     ·rw[hqe]at h9;exact Jj h9 hiv
    rw[h4 p.1 ⟨hids p hp,hlt⟩,hid0 p.1 hi]
   ·exact hG'n _ hm
 cases e with
 |normal=>exact done h1
 |ret=>exact done h1
 |exit id=>exact h1.elim
 |goto l=>exact h1.elim
 |panic ch=>exact h1.elim
 |outgrown=>exact h1.elim
def Ved {f : FuncId} {fn : Func} {c : Code} (hf : P.funcs[f]? = some fn) (hb : fn.body = some c) (hname : (fn.name == "runtime.NumGoroutine") = false) {args : List SV} {bx bx' : List (Nat × ABox)} {gn gn' : List (Key × Nat)} {res : SV} {n : Nat} (hn : fn.ntmps = n)
  (hle:args.length<=n) (hids:∀ p∈bx,1000<=p.1) (hgk:∀ p∈gn,1000<=p.1.1/\0<p.1.2) (hargs:∀ s∈args,OkSV (bx.map (·.1)) gn s) (hbx:∀ p∈bx,∀s∈p.2.svs,OkSV (bx.map (·.1)) gn s)
  (hres:OkSV (bx.map (·.1)) gn' res) (hbx':∀ p∈bx',∀s∈p.2.svs,OkSV (bx.map (·.1)) gn' s) (hsame:bx'.map (·.1)=bx.map (·.1)) (hgn':gn'.map (·.1)=gn.map (·.1))
  (h:W P c (Ends P fn res bx' gn') ⟨args++Zp (n-args.length) .junk,bx,gn⟩) (hv:∀ p∈bx',p.1<2000\/p.1∈Vbb bx':=by simp):Va1 P f args bx gn res bx' gn':=
 Vbt hf hb hname hn hle hids hgk hargs hbx hres hbx' hsame hgn' (Vgg h (λe S hE=>by
  cases e with
  |normal=>obtain⟨⟨keep,h1⟩,h2,h3⟩:=hE;exact⟨⟨keep,_,h1,.inl rfl⟩,h2,h3⟩
  |ret=>obtain⟨⟨keep,h1⟩,h2,h3⟩:=hE;exact⟨⟨keep,_,h1,.inl rfl⟩,h2,h3⟩
  |_=>exact hE.elim)) hv (λp hp=>⟨p.2,hp,λ_ _ h=>h⟩)
end
end
end Go.Eng
namespace Go.Proofs.YthbpjmogdonlkaaGreatDoor
open Go.Eng
end Go.Proofs.YthbpjmogdonlkaaGreatDoor
namespace Go.Eng
def an:All []:=Yq
def ac{p:Prop}{l:C Prop}(h:p)(h':All l):All (p::l):=⟨h,h'⟩
def WkC(S:St):CV->CV->Prop
 | .own k g sz l,.own k' g' sz' l'=>k=k'/\g=g'/\sz=sz'/\l=l'
 | .own _ _ _ l,.av x=>x=.sl l
 | .nil,.av x=>x=.sl []
 | .nil,.own k g _ l=>l=[]/\0<k.2/\S.gen k=g
 |s,s'=>s=s'
def WkCs(S:St):C CV->C CV->Prop
 |[],[]=>O
 |s::l,s'::l'=>WkC S s s'/\WkCs S l l'
 |_,_=>False
def WkS(S:St):SV->SV->Prop
 |_,.junk=>O
 | .own k g sz l,.own k' g' sz' l'=>k=k'/\g=g'/\sz=sz'/\l=l'
 | .own _ _ _ l,.av x=>x=.sl l
 | .nil,.av x=>x=.sl []
 | .nil,.own k g _ l=>l=[]/\0<k.2/\S.gen k=g
 | .av x,.son _=>x=.val (.pointer E)
 | .ptr b o,.son b'=>b=b'/\o=0
 | .ag l,.ag l'=>WkCs S l l'
 | .ag l,.av x=>x=.agg (l.map CV.toAV)
 |s,s'=>s=s'
def WkC_rep{G:Gh}{w:H}{S:St}(hg:∀ k:Key,G.gen k=S.gen k){s s':CV}{u:B}(h:WkC S s s')(hr:RepC G w s u):RepC G w s' u:=by
 unfold WkC at h
 split at h
 ·obtain⟨rfl,rfl,rfl,rfl⟩:=h;exact hr
 ·subst h;exact RepC.toAV hr
 ·subst h;exact RepC.toAV hr
 ·obtain⟨rfl,h0,rfl⟩:=h;simp only[RepC]at hr;subst hr;exact⟨h0,by rw[hg];exact Zk _,E,0,[],rfl,by simp[RepL],ku,ku,ku,ku,.inl (by simp[Va3]),λ_=>.inl ⟨rfl,.inl rfl⟩⟩
 ·subst h;exact hr
def WkCs_rep{G:Gh}{w:H}{S:St}(hg:∀ k:Key,G.gen k=S.gen k):∀ {l l':C CV} {us:C B},WkCs S l l'->RepCs G w l us->RepCs G w l' us
 |[],[],_,_,h=>h
 |s::l,s'::l',us,h,hr=>by
  obtain⟨u,us',e,h2,h3⟩:=hr;exact⟨u,us',e,WkC_rep hg h.1 h2,WkCs_rep hg h.2 h3⟩
 |[],_::_,_,h,_=>h.elim
 |_::_,[],_,h,_=>h.elim
def WkS_rep{G:Gh}{w:H}{S:St}(hg:∀ k:Key,G.gen k=S.gen k){s s':SV}{u:B}(h:WkS S s s')(hr:RepS G w s u):RepS G w s' u:=by
 unfold WkS at h
 split at h
 ·trivial
 ·obtain⟨rfl,rfl,rfl,rfl⟩:=h;exact hr
 ·subst h;exact hr.own_sl
 ·subst h;simp only[RepS]at hr;subst hr;exact Vfj _ _
 ·obtain⟨rfl,h0,rfl⟩:=h;simp only[RepS]at hr;subst hr;exact⟨h0,by rw[hg];exact Zk _,E,0,[],rfl,by simp[RepL],ku,ku,ku,ku,.inl (by simp[Va3]),λ_=>.inl ⟨rfl,.inl rfl⟩⟩
 ·subst h;simp only[RepS,Rep]at hr;exact .inl hr.1
 ·obtain⟨rfl,rfl⟩:=h;exact .inr hr
 ·obtain⟨us,h1,h2,h3⟩:=hr;exact⟨us,h1,WkCs_rep hg h h2,h3⟩
 ·subst h;obtain⟨us,h1,h2,h3⟩:=hr;simp only[RepS,Rep];exact⟨us,h1,h2.toAV,h3⟩
 ·subst h;exact hr
def hit{id:F}{Q:Y7->St->Prop}{S:St}(h:Q .normal S):Vgz id Q (.exit id) S:=by simp only[Vgz,Xo];exact h
def miss{id id':F}{Q:Y7->St->Prop}{S:St}(hne:id'≠id)(h:Q (.exit id') S):Vgz id Q (.exit id') S:=by simp only[Vgz,Yb hne];exact h
def pass{id:F}{Q:Y7->St->Prop}{S:St}{e:Y7}(h:Q e S)(hne:∀ i,e≠ .exit i):Vgz id Q e S:=by
 cases e <;>first|exact h|exact(hne _ rfl).elim
def skipS{K:St->Prop}{Q:Y7->St->Prop}{S:St}{e:Y7}(h:Q e S)(hne:e≠ .normal):Vq1 K Q e S:=by
 cases e <;>first|exact h|exact(hne rfl).elim
def ends{P:D}{fn:Jm}{res r:SV}{bx':C (F×ABox)}{gn':C (Key×F)}{S:St}{e:Y7}(he:e=.ret\/e=.normal)(h1:aRes P fn S A=J r)(h2:r=res)(h3:∀ p∈bx',S.bx.lookup p.1=J p.2)(h4:∀ p∈gn',S.gen p.1=p.2):Ends P fn res bx' gn' e S:=by
 subst h2;rcases he with rfl|rfl <;>exact⟨⟨_,h1⟩,h3,h4⟩
def endsK{P:D}{fn:Jm}{res r:SV}{bx':C (F×ABox)}{gn':C (Key×F)}{S:St}{e:Y7}(he:e=.ret\/e=.normal)(h1:aRes P fn S V=J r)(h2:r=res)(h3:∀ p∈bx',S.bx.lookup p.1=J p.2)(h4:∀ p∈gn',S.gen p.1=p.2):Ends P fn res bx' gn' e S:=by
 subst h2;rcases he with rfl|rfl <;>exact⟨⟨_,h1⟩,h3,h4⟩
def wrap_i64{n:Qb}(h1: -9223372036854775808<=n)(h2:n<=9223372036854775807):IntKind.i64.wrap n=n:=IntWalk.i64_in n ⟨h1,h2⟩
def byt(s:Ze)(k:F):Nat:=(s.data.getD k 0).toNat
def Va7{a b:Qb}(h:(a !=b)=A):a=b:=by simpa using h
def Vak(t:Ze):AV:=.val (.string t)
end Go.Eng
